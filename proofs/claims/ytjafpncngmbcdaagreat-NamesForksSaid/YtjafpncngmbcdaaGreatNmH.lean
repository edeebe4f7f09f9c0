/-
  Names: sorted names; copies; generations left out.
-/
import Derived.Test.YtjafpncngmbcdaaGreatNmG
set_option linter.unusedSimpArgs false
set_option linter.unusedVariables false
set_option linter.unusedSectionVars false
namespace Go.Proofs.YtjafpncngmbcdaaGreat.Nam
open Go Go.SL Go.Proofs Go.Proofs.YtjafpncngmbcdaaGreat.Sh
variable {B : World} {H : List Asrt} {K : Value → WT} {W : WT} {a : Nat} {M : Bk}
theorem E_rsC {α : Type} {enc : α → List Value} {v : Value} {l : List α} [hv : Rs B H v enc l] (h1 : v = .slice none 0 0 → l = [] → E B H W) (h2 : ∀ a cap, v = .slice (some a) l.length cap → E B H W) : E B H W := fun w hw => by
  rcases hv.pf hw with ⟨e, hn, _⟩ | ⟨a, cap, e, _, _⟩
  · exact h1 e (List.length_eq_zero_iff.1 hn) w hw
  · exact h2 a cap e w hw
/-- clear(s[i:]), and s[:i]. -/
theorem ctail {α : Type} {enc : α → List Value} {sz : Nat} {P : Program} [hE : Enc enc sz] {t T by_ : Nat} {z : List Value} {v : Value} {c : List α} {i : Nat} (hu : P.underlying t = some (.slice T)) (he : Elt P T sz by_ z) (hz : ∀ y ∈ z, isCell y = true) (hi : i < c.length)
    (h : ∀ v' [CellI v'], E B (sls enc T sz v' (c.take i) :: H) (K v')) :
    E B (sls enc T sz v c :: H) (S.slc sz v (some (.int .i64 (i : Int))) none none fun v38 => V P (Builtin.clear_ #[t] 0 #[v38]) fun _ => S.slc sz v none (some (.int .i64 (i : Int))) none K) := by
  have hzl : z.length = sz := by obtain ⟨_, _, _, _, _, _, _, hz⟩ := he.pf; exact hz
  have hlen := enc_length (enc := enc) c
  have hmul : i * sz + (c.length - i) * sz = c.length * sz := by rw [← Nat.add_mul]; congr 1; omega
  refine E_oslc2 (fun hv hn hx => by omega) (fun b cap spare hv hle hxl hsl => ?_)
  have hmul2 : (c.length - i) * sz + (cap - c.length) * sz = (cap - i) * sz := by rw [← Nat.add_mul]; congr 1; omega
  subst hv
  refine E_slc (l := i) (hh := c.length) (m := cap) rfl rfl (by simp [S.bound]) (by omega) (by omega) (by omega) (fun h => by cases h) ?_
  rw [if_neg (by omega)]
  refine E_clear (t := t) rfl hu he hz (by omega) (by rw [List.length_append, hlen]; omega) ?_
  refine E_slc (l := 0) (hh := i) (m := cap) rfl (by simp [S.bound]) rfl (by omega) (by omega) (by omega) (fun h => by cases h) ?_
  have e0 : (if cap = 0 then some (⟨b, 0, none⟩ : Addr) else some ⟨b, 0 + 0 * sz, none⟩) = some ⟨b, 0, none⟩ := by rw [Nat.zero_mul]; split <;> rfl
  rw [e0]
  have e1 : setAll (c.flatMap enc ++ spare) (0 + i * sz) (rep (c.length - i) z) = (c.take i).flatMap enc ++ (rep (c.length - i) z ++ spare) := by
    unfold setAll
    rw [Nat.zero_add, rep_length, hzl, hmul, List.take_append_of_le_length (by rw [hlen]; omega), enc_take, List.append_assoc]
    congr 2
    rw [← hlen, List.drop_left]
  rw [e1, Nat.sub_zero, Nat.sub_zero]
  have hti : (c.take i).length = i := by rw [List.length_take]; omega
  refine E_osls (n := i) (sz := sz) (cap := cap) (by omega) (by rw [enc_length, hti]) (by rw [List.length_append, rep_length, hzl, hsl, hmul2]) ?_
  have h' := h (.slice (some ⟨b, 0, none⟩) i cap)
  unfold sls at h'
  rw [hti] at h'
  exact h'
theorem E_mid {C : List Asrt} {x : Asrt} (h : E B (x :: (C ++ H)) W) : E B (C ++ (x :: H)) W := E_perm List.perm_middle h
theorem E_midS {C : List Asrt} {x : Asrt} (h : E B (C ++ (x :: H)) W) : E B (x :: (C ++ H)) W := E_perm List.perm_middle.symm h
theorem rs_app {α : Type} {enc : α → List Value} {v : Value} {l : List α} (C : List Asrt) (h : Rs B H v enc l) : Rs B (C ++ H) v enc l := by
  induction C with
  | nil => exact h
  | cons c C ih => exact rs_there (h := ih)
theorem u_strs : Tryz.prog.underlying 94 = some (.slice 9) := by kernel_rfl
theorem elt_string : Elt Tryz.prog 9 1 16 [.string ⟨#[]⟩] := elt_of (zv := .string ⟨#[]⟩) (by kernel_rfl) rfl rfl
abbrev zRef : List Value := [.int .u8 0, .int .u8 0, .int .u8 0, .int .u8 0, .int .u8 0, .int .u8 0, .int .u8 0, .int .u8 0, .int .u8 0, .int .u8 0, .int .u8 0, .int .u8 0, .int .u8 0, .int .u8 0, .int .u8 0, .int .u8 0, .int .u8 0, .int .u8 0, .int .u8 0, .int .u8 0, .int .u8 0, .int .u8 0, .int .u8 0, .int .u8 0, .int .u8 0, .int .u8 0, .int .u8 0, .int .u8 0, .int .u8 0, .int .u8 0, .int .u8 0, .int .u8 0, I 0, I 0, I 0]
theorem elt_ref : Elt Tryz.prog 38 35 56 zRef := elt_of (zv := .agg zRef.toArray) (by kernel_rfl) rfl rfl
theorem sortOkS : SortOkS Tryz.prog 118 := ⟨fun blk off cap zs w h1 h2 h3 => Tryz.slices_Sort_string blk off cap zs w h1 h2 h3, fun p cap w => Tryz.slices_Sort_string_none p cap w⟩
attribute [local irreducible] S.pick S.ld S.ldN S.st S.box S.nc S.fad S.ixS S.ixA S.chr S.prt S.ext S.bin S.sh S.sbin S.beq S.neg1 S.com1 S.not1 S.cvt S.str1 S.lenS S.len S.cap S.lenM S.mx S.mn S.mkM S.cond S.gd S.fa S.dr S.rck S.join S.loop S.cvv S.eqv S.slc S.slcS S.b2s S.lk V U CF Gives E cel mpb osl ros dct dit itr lpo dfo
set_option maxRecDepth 8000
attribute [local irreducible] bk
/-- slices.Clone. -/
noncomputable def cloneC (ty : Nat) (s_0 : Value) (K : Value → WT) : WT :=
 S.eqv Tryz.prog .eql ty true s_0 (.slice none 0 0) fun v4 =>
 S.cond v4 (
 K (.slice none 0 0)) (
 V Tryz.prog (Instr.buildSlice ty 0 #[]) fun v5 =>
 V Tryz.prog (Builtin.append_ #[ty, ty] ty #[v5, s_0]) fun v7 =>
 K v7)
theorem s51_eq (x : Value) (K : Value → WT) : s51 x K = cloneC 63 x K := by kernel_rfl
theorem s71_eq (x : Value) (K : Value → WT) : s71 x K = cloneC 29 x K := by kernel_rfl
theorem s59_eq (x : Value) (K : Value → WT) : s59 x K = cloneC 44 x K := by kernel_rfl
theorem cloneC_ok {α : Type} {enc : α → List Value} {sz : Nat} [hE : Enc enc sz] {ty T by_ : Nat} {z : List Value} {v : Value} {l : List α} [hv : Rs B H v enc l] (hu : Tryz.prog.underlying ty = some (.slice T)) (he : Elt Tryz.prog T sz by_ z) (hb : l.length * by_ ≤ 140737488355328) (hn : l.length ≤ 140737488355328)
    (h : ∀ v' [CellI v'], E B (sls enc T sz v' l :: H) (K v')) : E B H (cloneC ty v K) := by
  unfold cloneC
  refine E_rsC (v := v) (l := l) (fun hv0 hl => ?_) (fun a cap hv0 => ?_)
  · subst hv0 hl
    refine E_sleq hu ?_
    refine E_tt ?_
    exact sls_nil enc sz (h _)
  · rw [hv0]
    refine E_sleq hu ?_
    rw [← hv0]
    refine E_ff ?_
    refine E_bsl0 hu he fun b' => ?_
    refine E_slsC (enc := enc) [] 0 rfl rfl ?_
    refine E_sapps (enc := enc) (l := []) (m := l) hu he (by simpa using hb) (by simp; omega) fun v' _ => ?_
    simpa using h v'
theorem cloneV {v : Value} {l : List VR} [hv : Rs B H v vC l] (hn : l.length ≤ 1000000) (h : ∀ v' [CellI v'], E B (sls vC 31 4 v' l :: H) (K v')) : E B H (CF Tryz.prog 51 [v] K) := by
  refine E_mono (W := s51 _ K) ?_ fun _ => c51
  rw [s51_eq]
  exact cloneC_ok u_vers elt_ver (by omega) (by omega) h
theorem cloneR {v : Value} {l : List Rf} [hv : Rs B H v rfC l] (hn : l.length ≤ 1000000) (h : ∀ v' [CellI v'], E B (sls rfC 38 35 v' l :: H) (K v')) : E B H (CF Tryz.prog 71 [v] K) := by
  refine E_mono (W := s71 _ K) ?_ fun _ => c71
  rw [s71_eq]
  exact cloneC_ok u_refs elt_ref (by omega) (by omega) h
theorem cloneH {v : Value} {l : List (List UInt8 × Int)} [hv : Rs B H v hC l] (hn : l.length ≤ 1000000) (h : ∀ v' [CellI v'], E B (sls hC 53 2 v' l :: H) (K v')) : E B H (CF Tryz.prog 59 [v] K) := by
  refine E_mono (W := s59 _ K) ?_ fun _ => c59
  rw [s59_eq]
  exact cloneC_ok u_helds elt_held (by omega) (by omega) h
theorem deleteFunc {C : Asrt} {v fv : Value} {l : List VR} {p : VR → Bool} (hn : l.length ≤ 140737488355328) (hp : Asks B [C] fv vC p l)
    (h : ∀ v' [CellI v'], E B (sls vC 31 4 v' (l.filter fun x => !p x) :: C :: H) (K v')) : E B (sls vC 31 4 v l :: C :: H) (CF Tryz.prog 50 [v, fv] K) := by
  refine E_mono (W := s50 _ _ K) ?_ fun _ => c50
  refine rs_cell (v := v) (l := l) fun hcv => ?_
  have : CellI v := ⟨hcv⟩
  unfold s50
  refine fd (a := C) ?_
  refine E_mono (W := s91 _ _ _) ?_ fun _ => c91
  rw [s91_eq]
  have hrv : Rs B (C :: (sls vC 31 4 v l :: H)) v vC l := rs_there
  refine idxC_ok (C := [C]) (hv := hrv) (enc := vC) hn hp ?_
  show E B (C :: sls vC 31 4 v l :: H) _
  cases hf : l.findIdx? p with
  | none =>
    rw [show idxI none = (-1 : Int) from rfl]
    (repeat first | refine gS ?_ | refine gA fun _ => ?_ | refine gX fun _ _ => ?_ | refine gT ?_ | refine gF ?_ | refine gI ?_)
    have e : l.filter (fun x => !p x) = l := List.filter_eq_self.2 fun x hx => by
      have := List.findIdx?_eq_none_iff.1 hf x hx
      simp [this]
    have h' := h v
    rw [e] at h'
    exact sm h'
  | some k =>
    obtain ⟨hkl, hpk, hno⟩ := List.findIdx?_eq_some_iff_getElem.1 hf
    rw [show idxI (some k) = (k : Int) from rfl]
    (repeat first | refine gS ?_ | refine gA fun _ => ?_ | refine gX fun _ _ => ?_ | refine gT ?_ | refine gF ?_ | refine gI ?_)
    refine E_ifF (by omega) ?_
    (repeat first | refine gS ?_ | refine gA fun _ => ?_ | refine gX fun _ _ => ?_ | refine gT ?_ | refine gF ?_ | refine gI ?_)
    rw [show (k : Int) + 1 = ((k + 1 : Nat) : Int) by omega]
    have htk : (l.take (k + 1)).filter (fun x => !p x) = l.take k := by
      rw [List.take_add_one, List.getElem?_eq_getElem hkl, List.filter_append]
      have h1 : (l.take k).filter (fun x => !p x) = l.take k := List.filter_eq_self.2 fun x hx => by
        obtain ⟨j, hj, rfl⟩ := List.mem_take_iff_getElem.1 hx
        simpa using hno j (by omega)
      rw [h1]; simp [hpk]
    refine E_loop (n := 4) (σ := Nat × List VR) (fun s => k + 1 ≤ s.1 ∧ s.1 ≤ l.length ∧ s.2.length = l.length ∧ s.2.drop s.1 = l.drop s.1 ∧ s.2.take ((l.take s.1).filter fun x => !p x).length = (l.take s.1).filter fun x => !p x)
      (fun s => [v, fv, I ((l.take s.1).filter fun x => !p x).length, I s.1]) (fun s => C :: sls vC 31 4 v s.2 :: H) (fun s => l.length - s.1) (k + 1, l) (fun _ => rfl) (by simp only [htk]; rw [List.length_take, Nat.min_eq_left (by omega)])
      ⟨Nat.le_refl _, by omega, rfl, rfl, by simp only [htk]; rw [List.length_take, Nat.min_eq_left (by omega)]⟩ (fun W hW => hW) ?_
    rintro ⟨j, c⟩ K0 ⟨hkj, hj, hcl, hcd, hct⟩ hk
    simp only at hkj hj hcl hcd hct hk ⊢
    have hlt : ((l.take j).filter fun x => !p x).length < j := by
      have h1 : l.take j = l.take (k + 1) ++ (l.take j).drop (k + 1) := by
        conv => lhs; rw [← List.take_append_drop (k + 1) (l.take j)]
        rw [List.take_take, Nat.min_eq_left hkj]
      rw [h1, List.filter_append, htk, List.length_append]
      have := List.length_filter_le (fun x => !p x) ((l.take j).drop (k + 1))
      rw [List.length_drop, List.length_take] at this
      rw [List.length_take]; omega
    refine E_fa fun _ => ?_
    (repeat first | refine gS ?_ | refine gA fun _ => ?_ | refine gX fun _ _ => ?_ | refine gT ?_ | refine gF ?_ | refine gI ?_)
    refine E_if (fun hc => ?_) (fun hc => ?_)
    · have hx : l[j]? = some l[j] := List.getElem?_eq_getElem (by omega)
      have hxm := List.mem_of_getElem? hx
      generalize l[j] = x at hx hxm
      have hcx : c[j]? = some x := by
        have : (c.drop j)[0]? = (l.drop j)[0]? := by rw [hcd]
        simpa [hx] using this
      have hstep : ∀ y, p x = y → (l.take (j + 1)).filter (fun x => !p x) = (l.take j).filter (fun x => !p x) ++ if y then [] else [x] := fun y hy => by
        rw [List.take_add_one, hx, List.filter_append]
        cases y <;> simp [hy]
      refine E_joinC (σ := Bool) (fun y => p x = y) (fun y => [v, fv, I ((l.take (j + 1)).filter fun x => !p x).length, I j])
        (fun y => C :: sls vC 31 4 v (if y then c else c.set ((l.take j).filter fun x => !p x).length x) :: H) (fun q hq => ?_) (fun y hy => ?_)
      · (repeat first | refine gS ?_ | refine gA fun _ => ?_ | refine gX fun _ _ => ?_ | refine gT ?_ | refine gF ?_ | refine gI ?_)
        unfold vC
        (repeat first | refine gS ?_ | refine gA fun _ => ?_ | refine gX fun _ _ => ?_ | refine gT ?_ | refine gF ?_ | refine gI ?_)
        refine fd (a := C) (hp x hxm _ _ ?_)
        rw [List.singleton_append]
        have hq' := hq _ rfl
        rw [hstep _ rfl] at hq'
        cases hpx : p x with
        | true =>
          rw [hpx] at hq'
          simp only [if_true, List.append_nil] at hq'
          (repeat first | refine gS ?_ | refine gA fun _ => ?_ | refine gX fun _ _ => ?_ | refine gT ?_ | refine gF ?_ | refine gI ?_)
          exact E_same (by repeat (first | exact Same.refl | (refine Same.cons (by repeat (first | exact Find.here | apply Find.there)) ?_) | (refine Same.drop ?_))) hq'
        | false =>
          rw [hpx] at hq'
          simp only [Bool.false_eq_true, if_false, List.length_append, List.length_singleton] at hq'
          (repeat first | refine gS ?_ | refine gA fun _ => ?_ | refine gX fun _ _ => ?_ | refine gT ?_ | refine gF ?_ | refine gI ?_)
          refine E_find (a := sls vC 31 4 v c) (by repeat (first | exact Find.here | apply Find.there)) (E_sset x (by omega) rfl ?_)
          (repeat first | refine gS ?_ | refine gA fun _ => ?_ | refine gX fun _ _ => ?_ | refine gT ?_ | refine gF ?_ | refine gI ?_)
          have e : ((((l.take j).filter fun x => !p x).length + 1 : Nat) : Int) = (((l.take j).filter fun x => !p x).length : Int) + 1 := by omega
          rw [e] at hq'
          exact sm hq'
      · refine E_fa fun _ => ?_
        (repeat first | refine gS ?_ | refine gA fun _ => ?_ | refine gX fun _ _ => ?_ | refine gT ?_ | refine gF ?_ | refine gI ?_)
        have hk' := hk (j + 1, if y then c else c.set ((l.take j).filter fun x => !p x).length x) ⟨by simp only; omega, by simp only; omega, by simp only; split <;> simp [hcl], ?_, ?_⟩ (by simp only; omega)
        · exact hk'
        · simp only
          have hd : c.drop (j + 1) = l.drop (j + 1) := by
            rw [← List.drop_drop, ← List.drop_drop, hcd]
          split
          · exact hd
          · rw [List.drop_set_of_lt (by omega)]; exact hd
        · simp only
          rw [hstep y hy]
          cases y with
          | true => simpa using hct
          | false =>
            simp only [Bool.false_eq_true, if_false, List.length_append, List.length_singleton]
            rw [List.take_add_one, List.take_set_of_le (Nat.le_refl _), hct, List.getElem?_set_self (by omega)]
            rfl
    · have hje : j = l.length := by omega
      subst hje
      rw [List.take_length] at hct hlt ⊢
      refine fd (a := sls vC 31 4 v c) ?_
      refine ctail u_vers elt_ver (by simp [isCell]) (by omega) fun v' _ => ?_
      rw [hct]
      exact sm (h v')
theorem sortedNames {o : Bool} {r : Nat} {kv : List (List UInt8 × Value)} {H' : List Asrt} [ht : TakD H kL o r kv H'] (hn : kv.length ≤ 1048576)
    (h : ∀ sv zs [CellI sv], zs.Perm (kv.map (·.1)) → E B (sls cS 9 1 sv (sortS zs) :: dct kL o r kv :: H') (K sv)) :
    E B H (CF Tryz.prog 93 [.map (some r)] fun v9 => CF Tryz.prog 87 [v9] K) := by
  refine E_find ht.pf ?_
  refine E_mono (W := s93 _ _) ?_ fun _ => c93
  unfold s93
  (first | refine gS ?_ | refine gA fun _ => ?_ | refine gX fun _ _ => ?_ | refine gT ?_ | refine gF ?_ | refine gI ?_)
  rename_i mb
  refine E_mono (W := s87 _ _) ?_ fun _ => c87
  unfold s87
  refine E_mono (W := s117 _ _) ?_ fun _ => c117
  unfold s117
  refine E_mono (W := s142 _ _ _) ?_ fun _ => c142
  unfold s142
  (first | refine gS ?_ | refine gA fun _ => ?_ | refine gX fun _ _ => ?_ | refine gT ?_ | refine gF ?_ | refine gI ?_)
  rename_i sb
  refine E_rf (by kernel_rfl) fun l dl L hY => ?_
  refine E_mono (W := s126 _ _ _) ?_ fun _ => c126
  unfold s126
  (repeat first | refine gS ?_ | refine gA fun _ => ?_ | refine gX fun _ _ => ?_ | refine gT ?_ | refine gF ?_ | refine gI ?_)
  refine E_drange (κ := List UInt8) u_files fun it => ?_
  refine E_loop (σ := List (List UInt8 × Value) × Option (List UInt8 × Value) × List (List UInt8) × Value)
    (fun s => (s.2.2.1 ++ s.1.map (·.1)).Perm (kv.map (·.1)) ∧ isCell s.2.2.2 = true)
    (fun s => [.func (.yield l) #[] #[], .pointer (some ⟨it, 0, none⟩)])
    (fun s => dit kL o it r kv s.1 s.2.1 :: lpo l L .ready .nrm :: sls cS 9 1 s.2.2.2 s.2.2.1 :: cel true sb 94 [s.2.2.2] :: dfo dl :: cel true mb 78 [.map (some r)] :: H')
    (fun s => s.1.length) (kv, none, [], .slice none 0 0) (fun s => rfl) rfl ⟨by simp, rfl⟩ ?_ ?_
  · intro W hW
    refine sls_nil cS 1 (E_same (by repeat (first | exact Same.refl | (refine Same.cons (by repeat (first | exact Find.here | apply Find.there)) ?_) | (refine Same.drop ?_))) hW)
  · rintro ⟨rest, cur, zs, sv⟩ K ⟨hφ, hcl⟩ hk
    simp only at hφ hk hcl ⊢
    have : CellI sv := ⟨hcl⟩
    refine E_fa fun _ => ?_
    refine E_dnext (κ := List UInt8) (fun hr => ?_) (fun p rest' hp => ?_)
    · subst hr
      (repeat first | refine gS ?_ | refine gA fun _ => ?_ | refine gX fun _ _ => ?_ | refine gT ?_ | refine gF ?_ | refine gI ?_)
      refine fd (a := lpo l L .ready .nrm) (E_over (by simp) ?_)
      unfold aft
      (repeat first | refine gS ?_ | refine gA fun _ => ?_ | refine gX fun _ _ => ?_ | refine gT ?_ | refine gF ?_ | refine gI ?_)
      refine fd (a := dfo dl) (E_done1 ?_)
      refine fd (a := sls cS 9 1 sv zs) ?_
      have hz : zs.Perm (kv.map (·.1)) := by simpa using hφ
      have hl : zs.length = kv.length := by have := hz.length_eq; simpa using this
      refine E_sortS sortOkS (by omega) ?_
      refine fd (a := dit kL o it r kv [] none) (E_idone ?_)
      refine sm (h sv zs hz)
    · (repeat first | refine gS ?_ | refine gA fun _ => ?_ | refine gX fun _ _ => ?_ | refine gT ?_ | refine gF ?_ | refine gI ?_)
      refine E_dentry (κ := List UInt8) ?_
      (repeat first | refine gS ?_ | refine gA fun _ => ?_ | refine gX fun _ _ => ?_ | refine gT ?_ | refine gF ?_ | refine gI ?_)
      refine fd (a := lpo l L .ready .nrm) (hY _ _ _ rfl ?_)
      refine E_begun ?_
      (repeat first | refine gS ?_ | refine gA fun _ => ?_ | refine gX fun _ _ => ?_ | refine gT ?_ | refine gF ?_ | refine gI ?_)
      refine fd (a := sls cS 9 1 sv zs) ?_
      have hl : zs.length + rest.length = kv.length := by have := hφ.length_eq; simpa using this
      have hr : rest.length = rest'.length + 1 := by simpa using hp.length_eq
      refine E_sapp1 (enc := cS) p.1 u_strs elt_string rfl (by decide) (by omega) (by omega) fun v' _ => ?_
      (repeat first | refine gS ?_ | refine gA fun _ => ?_ | refine gX fun _ _ => ?_ | refine gT ?_ | refine gF ?_ | refine gI ?_)
      refine fd (a := lpo l L .busy .nrm) (E_ended ?_)
      refine E_notb ?_
      refine E_ff ?_
      show E _ _ (K _ _)
      have h1 := (hp.map (·.1)).append_left zs
      have hk' := hk (rest', some p, zs ++ [p.1], v') ⟨by simpa using h1.symm.trans hφ, CellI.pf⟩ (by simp [hr])
      simp only at hk'
      exact sm hk'
theorem sortS_sorted (l : List (List UInt8)) : (sortS l).Pairwise (· ≤ ·) := by
  have h : (sortS l).Pairwise fun x y => decide (x ≤ y) = true := by
    refine List.pairwise_mergeSort (fun a b c h1 h2 => ?_) (fun a b => ?_) l
    · simp only [decide_eq_true_eq] at *
      exact List.le_trans h1 h2
    · simp only [Bool.or_eq_true, decide_eq_true_eq]
      exact List.le_total a b
  exact h.imp fun h => by simpa using h
/-- Names, sorted, are those of one sorted list with as many. -/
theorem sortS_eq {l s : List (List UInt8)} (hp : l.Perm s) (hs : s.Pairwise (· < ·)) : sortS l = s := by
  have h1 := sortS_sorted l
  have hpm : (sortS l).Perm s := (List.mergeSort_perm l _).trans hp
  refine List.Perm.eq_of_pairwise (le := fun a b => a ≤ b) (fun a b _ _ h h' => List.le_antisymm h h') h1 (hs.imp fun h => List.le_of_lt h) hpm
end Go.Proofs.YtjafpncngmbcdaaGreat.Nam
