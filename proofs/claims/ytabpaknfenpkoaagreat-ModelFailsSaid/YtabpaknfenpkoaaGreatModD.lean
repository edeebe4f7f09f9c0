/-
  Model: Clone, IndexFunc, DeleteFunc of versions.
-/
import Derived.Test.YtabpaknfenpkoaaGreatModC
set_option linter.unusedSimpArgs false
set_option linter.unusedVariables false
set_option linter.unusedSectionVars false
namespace Go.Proofs.YtabpaknfenpkoaaGreat.Mod
open Go Go.SL Go.Proofs Go.Proofs.YtabpaknfenpkoaaGreat.Sh
variable {B : World} {H : List Asrt} {K : Value → WT} {W : WT}
theorem E_rsC {α : Type} {enc : α → List Value} {v : Value} {l : List α} [hv : Rs B H v enc l] (h1 : v = .slice none 0 0 → l = [] → E B H W) (h2 : ∀ a cap, v = .slice (some a) l.length cap → E B H W) : E B H W := fun w hw => by
  rcases hv.pf hw with ⟨e, hn, _⟩ | ⟨a, cap, e, _, _⟩
  · exact h1 e (List.length_eq_zero_iff.1 hn) w hw
  · exact h2 a cap e w hw
/-- clear(s[i:]), and s[:i]. -/
theorem ctail {α : Type} {enc : α → List Value} {sz : Nat} {P : Program} [hE : Enc enc sz] {t T by_ : Nat} {z : List Value} {v : Value} {c : List α} {i : Nat} (hu : P.underlying t = some (.slice T)) (he : Elt P T sz by_ z) (hz : ∀ y ∈ z, isCell y = true) (hi : i < c.length)
    (h : ∀ v' [CellI v'], E B (sls enc T sz v' (c.take i) :: H) (K v')) :
    E B (sls enc T sz v c :: H) (S.slc sz v (some (.int .i64 (i : Int))) none none fun v38 => V P (Builtin.clear_ #[t] 0 #[v38]) fun _ => S.slc sz v none (some (.int .i64 (i : Int))) none K) := by
  have hzl : z.length = sz := by obtain ⟨_, _, _, _, _, _, _, hz⟩ := he.pf; exact hz
  have hlen := enc_length (enc := enc) c
  have hmul : i * sz + (c.length - i) * sz = c.length * sz := by rw [← Nat.add_mul]; congr 1; omega
  refine E_oslc2 (fun hv hn hx => by omega) (fun b cap spare hv hle hxl hsl => ?_)
  have hmul2 : (c.length - i) * sz + (cap - c.length) * sz = (cap - i) * sz := by rw [← Nat.add_mul]; congr 1; omega
  subst hv
  refine E_slc (l := i) (hh := c.length) (m := cap) rfl rfl (by simp [S.bound]) (by omega) (by omega) (by omega) (fun h => by cases h) ?_
  rw [if_neg (by omega)]
  refine E_clear (t := t) rfl hu he hz (by omega) (by rw [List.length_append, hlen]; omega) ?_
  refine E_slc (l := 0) (hh := i) (m := cap) rfl (by simp [S.bound]) rfl (by omega) (by omega) (by omega) (fun h => by cases h) ?_
  have e0 : (if cap = 0 then some (⟨b, 0, none⟩ : Addr) else some ⟨b, 0 + 0 * sz, none⟩) = some ⟨b, 0, none⟩ := by rw [Nat.zero_mul]; split <;> rfl
  rw [e0]
  have e1 : setAll (c.flatMap enc ++ spare) (0 + i * sz) (rep (c.length - i) z) = (c.take i).flatMap enc ++ (rep (c.length - i) z ++ spare) := by
    unfold setAll
    rw [Nat.zero_add, rep_length, hzl, hmul, List.take_append_of_le_length (by rw [hlen]; omega), enc_take, List.append_assoc]
    congr 2
    rw [← hlen, List.drop_left]
  rw [e1, Nat.sub_zero, Nat.sub_zero]
  have hti : (c.take i).length = i := by rw [List.length_take]; omega
  refine E_osls (n := i) (sz := sz) (cap := cap) (by omega) (by rw [enc_length, hti]) (by rw [List.length_append, rep_length, hzl, hsl, hmul2]) ?_
  have h' := h (.slice (some ⟨b, 0, none⟩) i cap)
  unfold sls at h'
  rw [hti] at h'
  exact h'
attribute [local irreducible] S.pick S.ld S.ldN S.st S.box S.nc S.fad S.ixS S.ixA S.chr S.prt S.ext S.bin S.sh S.sbin S.beq S.neg1 S.com1 S.not1 S.cvt S.str1 S.lenS S.len S.cap S.lenM S.mx S.mn S.mkM S.cond S.gd S.fa S.dr S.rck S.join S.loop S.cvv S.eqv S.slc S.slcS S.b2s S.lk V U CF Gives E cel mpb osl ros dct dit itr lpo dfo
set_option maxRecDepth 4000
attribute [local irreducible] mo
theorem u_vers : Tryz.prog.underlying 90 = some (.slice 98) := by kernel_rfl
theorem elt_ver : Elt Tryz.prog 98 4 40 [I 0, I 0, .string ⟨#[]⟩, .bool false] := elt_of (zv := .agg #[I 0, I 0, .string ⟨#[]⟩, .bool false]) (by kernel_rfl) rfl rfl
theorem cloneV {v : Value} {l : List Ver} [hv : Rs B H v vC l] (hn : l.length ≤ 1048576) (h : ∀ v' [CellI v'], E B (sls vC 98 4 v' l :: H) (K v')) : E B H (CF Tryz.prog 72 [v] K) := by
  refine E_mono (W := s72 _ K) ?_ fun _ => c72
  refine E_rsC (v := v) (l := l) (fun hv0 hl => ?_) (fun a cap hv0 => ?_)
  · subst hv0 hl
    unfold s72
    refine E_sleq u_vers ?_
    refine E_tt ?_
    exact sls_nil vC 4 (h _)
  · unfold s72
    rw [hv0]
    refine E_sleq u_vers ?_
    rw [← hv0]
    refine E_ff ?_
    refine E_bsl0 u_vers elt_ver fun b' => ?_
    refine E_slsC (enc := vC) [] 0 rfl rfl ?_
    refine E_sapps (enc := vC) (l := []) (m := l) u_vers elt_ver (by simp; omega) (by simp; omega) fun v' _ => ?_
    simpa using h v'
/-- A closure that asks of a version. -/
def Asks (B : World) (C : Asrt) (fv : Value) (p : Ver → Bool) (l : List Ver) : Prop := ∀ x ∈ l, ∀ (H' : List Asrt) (K' : Value → WT), E B (C :: H') (K' (.bool (p x))) → E B (C :: H') (S.cvv Tryz.prog fv [.agg (vC x).toArray] K')
theorem indexFunc {C : Asrt} {v fv : Value} {l : List Ver} {p : Ver → Bool} [hv : Rs B H v vC l] (hn : l.length ≤ 1048576) (hp : Asks B C fv p l)
    (h : E B (C :: H) (K (I (idxI (l.findIdx? p))))) : E B (C :: H) (CF Tryz.prog 92 [v, fv] K) := by
  refine E_mono (W := s92 _ _ K) ?_ fun _ => c92
  unfold s92
  (repeat first | refine gS ?_ | refine gA fun _ => ?_ | refine gX fun _ _ => ?_ | refine gT ?_ | refine gF ?_ | refine gI ?_)
  refine E_loop (σ := Nat) (fun i => i ≤ l.length ∧ ∀ x ∈ l.take i, p x = false) (fun i => [v, fv, I l.length, I i]) (fun _ => C :: H) (fun i => l.length - i) 0 (fun _ => rfl) rfl ⟨Nat.zero_le _, by simp⟩ (fun W hW => hW) ?_
  rintro i K0 ⟨hi, ha⟩ hk
  refine E_fa fun _ => ?_
  refine E_lss ?_
  refine E_if (fun hc => ?_) (fun hc => ?_)
  · have hx : l[i]? = some l[i] := List.getElem?_eq_getElem (by omega)
    have hxm := List.mem_of_getElem? hx
    generalize l[i] = x at hx hxm
    (repeat first | refine gS ?_ | refine gA fun _ => ?_ | refine gX fun _ _ => ?_ | refine gT ?_ | refine gF ?_ | refine gI ?_)
    refine hp x hxm _ _ ?_
    cases hpx : p x with
    | true =>
      have e : l.findIdx? p = some i := by
        rw [List.findIdx?_eq_some_iff_getElem]
        obtain ⟨hlt, hxe⟩ := List.getElem?_eq_some_iff.1 hx
        refine ⟨hlt, by rw [hxe]; exact hpx, fun j hj => ?_⟩
        have := ha l[j] (List.mem_take_iff_getElem.2 ⟨j, by omega, rfl⟩)
        simp [this]
      rw [e] at h
      (repeat first | refine gS ?_ | refine gA fun _ => ?_ | refine gX fun _ _ => ?_ | refine gT ?_ | refine gF ?_ | refine gI ?_)
      exact h
    | false =>
      (repeat first | refine gS ?_ | refine gA fun _ => ?_ | refine gX fun _ _ => ?_ | refine gT ?_ | refine gF ?_ | refine gI ?_)
      refine hk (i + 1) ⟨by omega, fun y hy => ?_⟩ (by omega)
      rw [List.take_add_one, hx] at hy
      rcases List.mem_append.1 hy with hy | hy
      · exact ha y hy
      · simp at hy; subst hy; exact hpx
  · have : i = l.length := by omega
    subst this
    have e : l.findIdx? p = none := by
      rw [List.findIdx?_eq_none_iff]
      intro x hx
      exact ha x (by simpa using hx)
    rw [e] at h
    exact h
theorem deleteFunc {C : Asrt} {v fv : Value} {l : List Ver} {p : Ver → Bool} (hn : l.length ≤ 1048576) (hp : Asks B C fv p l)
    (h : ∀ v' [CellI v'], E B (sls vC 98 4 v' (l.filter fun x => !p x) :: C :: H) (K v')) : E B (sls vC 98 4 v l :: C :: H) (CF Tryz.prog 80 [v, fv] K) := by
  refine E_mono (W := s80 _ _ K) ?_ fun _ => c80
  refine rs_cell (v := v) (l := l) fun hcv => ?_
  have : CellI v := ⟨hcv⟩
  unfold s80
  refine fd (a := C) ?_
  refine indexFunc (v := v) (l := l) hn hp ?_
  cases hf : l.findIdx? p with
  | none =>
    rw [show idxI none = (-1 : Int) from rfl]
    (repeat first | refine gS ?_ | refine gA fun _ => ?_ | refine gX fun _ _ => ?_ | refine gT ?_ | refine gF ?_ | refine gI ?_)
    have e : l.filter (fun x => !p x) = l := List.filter_eq_self.2 fun x hx => by
      have := List.findIdx?_eq_none_iff.1 hf x hx
      simp [this]
    have h' := h v
    rw [e] at h'
    exact sm h'
  | some k =>
    obtain ⟨hkl, hpk, hno⟩ := List.findIdx?_eq_some_iff_getElem.1 hf
    rw [show idxI (some k) = (k : Int) from rfl]
    (repeat first | refine gS ?_ | refine gA fun _ => ?_ | refine gX fun _ _ => ?_ | refine gT ?_ | refine gF ?_ | refine gI ?_)
    refine E_ifF (by omega) ?_
    (repeat first | refine gS ?_ | refine gA fun _ => ?_ | refine gX fun _ _ => ?_ | refine gT ?_ | refine gF ?_ | refine gI ?_)
    rw [show (k : Int) + 1 = ((k + 1 : Nat) : Int) by omega]
    have htk : (l.take (k + 1)).filter (fun x => !p x) = l.take k := by
      rw [List.take_add_one, List.getElem?_eq_getElem hkl, List.filter_append]
      have h1 : (l.take k).filter (fun x => !p x) = l.take k := List.filter_eq_self.2 fun x hx => by
        obtain ⟨j, hj, rfl⟩ := List.mem_take_iff_getElem.1 hx
        simpa using hno j (by omega)
      rw [h1]; simp [hpk]
    refine E_loop (n := 4) (σ := Nat × List Ver) (fun s => k + 1 ≤ s.1 ∧ s.1 ≤ l.length ∧ s.2.length = l.length ∧ s.2.drop s.1 = l.drop s.1 ∧ s.2.take ((l.take s.1).filter fun x => !p x).length = (l.take s.1).filter fun x => !p x)
      (fun s => [v, fv, I ((l.take s.1).filter fun x => !p x).length, I s.1]) (fun s => C :: sls vC 98 4 v s.2 :: H) (fun s => l.length - s.1) (k + 1, l) (fun _ => rfl) (by simp only [htk]; rw [List.length_take, Nat.min_eq_left (by omega)])
      ⟨Nat.le_refl _, by omega, rfl, rfl, by simp only [htk]; rw [List.length_take, Nat.min_eq_left (by omega)]⟩ (fun W hW => hW) ?_
    rintro ⟨j, c⟩ K0 ⟨hkj, hj, hcl, hcd, hct⟩ hk
    simp only at hkj hj hcl hcd hct hk ⊢
    have hlt : ((l.take j).filter fun x => !p x).length < j := by
      have h1 : l.take j = l.take (k + 1) ++ (l.take j).drop (k + 1) := by
        conv => lhs; rw [← List.take_append_drop (k + 1) (l.take j)]
        rw [List.take_take, Nat.min_eq_left hkj]
      rw [h1, List.filter_append, htk, List.length_append]
      have := List.length_filter_le (fun x => !p x) ((l.take j).drop (k + 1))
      rw [List.length_drop, List.length_take] at this
      rw [List.length_take]; omega
    refine E_fa fun _ => ?_
    (repeat first | refine gS ?_ | refine gA fun _ => ?_ | refine gX fun _ _ => ?_ | refine gT ?_ | refine gF ?_ | refine gI ?_)
    refine E_if (fun hc => ?_) (fun hc => ?_)
    · have hx : l[j]? = some l[j] := List.getElem?_eq_getElem (by omega)
      have hxm := List.mem_of_getElem? hx
      generalize l[j] = x at hx hxm
      have hcx : c[j]? = some x := by
        have : (c.drop j)[0]? = (l.drop j)[0]? := by rw [hcd]
        simpa [hx] using this
      have hstep : ∀ y, p x = y → (l.take (j + 1)).filter (fun x => !p x) = (l.take j).filter (fun x => !p x) ++ if y then [] else [x] := fun y hy => by
        rw [List.take_add_one, hx, List.filter_append]
        cases y <;> simp [hy]
      refine E_joinC (σ := Bool) (fun y => p x = y) (fun y => [v, fv, I ((l.take (j + 1)).filter fun x => !p x).length, I j])
        (fun y => C :: sls vC 98 4 v (if y then c else c.set ((l.take j).filter fun x => !p x).length x) :: H) (fun q hq => ?_) (fun y hy => ?_)
      · (repeat first | refine gS ?_ | refine gA fun _ => ?_ | refine gX fun _ _ => ?_ | refine gT ?_ | refine gF ?_ | refine gI ?_)
        unfold vC
        (repeat first | refine gS ?_ | refine gA fun _ => ?_ | refine gX fun _ _ => ?_ | refine gT ?_ | refine gF ?_ | refine gI ?_)
        refine fd (a := C) (hp x hxm _ _ ?_)
        have hq' := hq _ rfl
        rw [hstep _ rfl] at hq'
        cases hpx : p x with
        | true =>
          rw [hpx] at hq'
          simp only [if_true, List.append_nil] at hq'
          (repeat first | refine gS ?_ | refine gA fun _ => ?_ | refine gX fun _ _ => ?_ | refine gT ?_ | refine gF ?_ | refine gI ?_)
          exact E_same (by repeat (first | exact Same.refl | (refine Same.cons (by repeat (first | exact Find.here | apply Find.there)) ?_) | (refine Same.drop ?_))) hq'
        | false =>
          rw [hpx] at hq'
          simp only [Bool.false_eq_true, if_false, List.length_append, List.length_singleton] at hq'
          (repeat first | refine gS ?_ | refine gA fun _ => ?_ | refine gX fun _ _ => ?_ | refine gT ?_ | refine gF ?_ | refine gI ?_)
          refine E_find (a := sls vC 98 4 v c) (by repeat (first | exact Find.here | apply Find.there)) (E_sset x (by omega) rfl ?_)
          (repeat first | refine gS ?_ | refine gA fun _ => ?_ | refine gX fun _ _ => ?_ | refine gT ?_ | refine gF ?_ | refine gI ?_)
          have e : ((((l.take j).filter fun x => !p x).length + 1 : Nat) : Int) = (((l.take j).filter fun x => !p x).length : Int) + 1 := by omega
          rw [e] at hq'
          exact sm hq'
      · refine E_fa fun _ => ?_
        (repeat first | refine gS ?_ | refine gA fun _ => ?_ | refine gX fun _ _ => ?_ | refine gT ?_ | refine gF ?_ | refine gI ?_)
        have hk' := hk (j + 1, if y then c else c.set ((l.take j).filter fun x => !p x).length x) ⟨by simp only; omega, by simp only; omega, by simp only; split <;> simp [hcl], ?_, ?_⟩ (by simp only; omega)
        · exact hk'
        · simp only
          have hd : c.drop (j + 1) = l.drop (j + 1) := by
            rw [← List.drop_drop, ← List.drop_drop, hcd]
          split
          · exact hd
          · rw [List.drop_set_of_lt (by omega)]; exact hd
        · simp only
          rw [hstep y hy]
          cases y with
          | true => simpa using hct
          | false =>
            simp only [Bool.false_eq_true, if_false, List.length_append, List.length_singleton]
            rw [List.take_add_one, List.take_set_of_le (Nat.le_refl _), hct, List.getElem?_set_self (by omega)]
            rfl
    · have hje : j = l.length := by omega
      subst hje
      rw [List.take_length] at hct hlt ⊢
      refine fd (a := sls vC 98 4 v c) ?_
      refine ctail u_vers elt_ver (by simp [isCell]) (by omega) fun v' _ => ?_
      rw [hct]
      exact sm (h v')
end Go.Proofs.YtabpaknfenpkoaaGreat.Mod
