/-
  Model: the document's lost, gone, sweep.
-/
import Derived.Test.YtabpaknfenpkoaaGreatRdB
set_option linter.unusedSimpArgs false
set_option linter.unusedVariables false
set_option linter.unusedSectionVars false
namespace Go.Proofs.YtabpaknfenpkoaaGreat.Mod
open Go Go.SL Go.Proofs Go.Proofs.YtabpaknfenpkoaaGreat.Sh
variable {B : World} {H : List Asrt} {K : Value → WT} {W : WT}
variable {a : Nat} {M : Mo} {o : Od} {bv kv : Value} {t u : Int}
theorem eq_held (a b : List UInt8 × Int) (w : World) : (Op.equal 106 (.agg #[str a.1, I a.2]) (.agg #[str b.1, I b.2])).run Tryz.prog w = .ok (decide (a = b)) w := by
  rw [run_eqStruct (xs := [str a.1, I a.2]) (ys := [str b.1, I b.2]) (bs := [decide (a.1 = b.1), decide (a.2 = b.2)]) [9, 3] (by kernel_rfl) (by kernel_rfl) (by kernel_rfl) rfl (fun i t b' h1 h2 => by
    match i, h1, h2 with
    | 0, h1, h2 => cases h1; cases h2; exact ⟨_, _, rfl, rfl, eqV_str u_string⟩
    | 1, h1, h2 => cases h1; cases h2; exact ⟨_, _, rfl, rfl, eqV_int u_int⟩
    | n + 2, h1, h2 => simp at h1) w]
  obtain ⟨a1, a2⟩ := a
  obtain ⟨b1, b2⟩ := b
  by_cases h1 : a1 = b1 <;> by_cases h2 : a2 = b2 <;> simp [h1, h2]
theorem bound_nat (n z : Nat) : S.bound (some (.int .i64 (n : Int))) z = some n := by simp [S.bound]
theorem erase_filter {O : List Se} (h : O.Pairwise fun a b => a.n < b.n) {n : Int} {i : Nat} (hi : fstIdx O n = some i) : O.take i ++ O.drop (i + 1) = O.filter fun t => decide (t.n ≠ n) := by
  induction O generalizing i with
  | nil => simp [fstIdx] at hi
  | cons c t ih =>
    have hc := (List.pairwise_cons.1 h).1
    unfold fstIdx at hi
    rw [List.findIdx?_cons] at hi
    by_cases hcn : c.n = n
    · simp only [hcn, decide_true, if_true, Option.some.injEq] at hi
      subst hi
      have : t.filter (fun t => decide (t.n ≠ n)) = t := List.filter_eq_self.2 fun x hx => by have := hc x hx; simp; omega
      rw [List.filter_cons, if_neg (by simp [hcn]), this]; simp
    · simp only [hcn, decide_false, Bool.false_eq_true, if_false, Option.map_eq_some_iff] at hi
      obtain ⟨j, hj, rfl⟩ := hi
      rw [List.filter_cons, if_pos (by simpa using hcn), ← ih (List.pairwise_cons.1 h).2 hj]; simp
theorem fstIdx_oof {O : List Se} {n : Int} : (fstIdx O n = none ∧ oof O n = none) ∨ ∃ i s, fstIdx O n = some i ∧ O[i]? = some s ∧ oof O n = some s := by
  unfold fstIdx oof
  cases h : O.findIdx? fun s => decide (s.n = n) with
  | none => exact .inl ⟨rfl, List.find?_eq_none.2 fun x hx => by have := List.findIdx?_eq_none_iff.1 h x hx; simpa using this⟩
  | some i =>
    obtain ⟨hil, hip, hno⟩ := List.findIdx?_eq_some_iff_getElem.1 h
    refine .inr ⟨i, O[i], rfl, List.getElem?_eq_getElem hil, ?_⟩
    rw [List.find?_eq_some_iff_getElem]
    exact ⟨hip, i, hil, rfl, fun j hj => by simpa using hno j hj⟩
theorem mark_set {V : List Ver} (h : SrtG V) {i : Nat} {x : Ver} (hx : V[i]? = some x) : V.set i (goneV x) = markV V x.name x.gen := by
  unfold markV
  apply List.ext_getElem?
  intro j
  rw [List.getElem?_map, List.getElem?_set]
  obtain ⟨hi, hxe⟩ := List.getElem?_eq_some_iff.1 hx
  by_cases hij : i = j
  · subst hij
    rw [if_pos rfl, if_pos hi, hx]; simp
  · rw [if_neg hij]
    cases hj : V[j]? with
    | none => rfl
    | some y =>
      have hne : ¬ (y.name = x.name ∧ y.gen = x.gen) := fun e => by
        have he := h.uniq (List.mem_of_getElem? hj) (List.mem_of_getElem? hx) e.1 e.2
        subst he
        obtain ⟨hjl, hje⟩ := List.getElem?_eq_some_iff.1 hj
        have hp := List.pairwise_iff_getElem.1 h
        rcases Nat.lt_or_gt_of_ne hij with hlt | hlt
        · have := hp i j hi hjl hlt
          rw [hxe, hje] at this
          rcases this with h1 | ⟨_, h1⟩
          · exact slt_irr _ h1
          · omega
        · have := hp j i hjl hi hlt
          rw [hxe, hje] at this
          rcases this with h1 | ⟨_, h1⟩
          · exact slt_irr _ h1
          · omega
      simp [hne]
attribute [local irreducible] S.pick S.ld S.ldN S.st S.box S.nc S.fad S.ixS S.ixA S.chr S.prt S.ext S.bin S.sh S.sbin S.beq S.neg1 S.com1 S.not1 S.cvt S.str1 S.lenS S.len S.cap S.lenM S.mx S.mn S.mkM S.cond S.gd S.fa S.dr S.rck S.join S.loop S.cvv S.eqv S.slc S.slcS S.b2s S.lk V U CF Gives E cel mpb osl ros dct dit itr lpo dfo
set_option maxRecDepth 4000
attribute [local irreducible] mo ansH rmo
theorem rlost {n : Int} {i : Nat} (hw : Wf M) (hi : fstIdx M.O n = some i) (h : E B (rmo a (lostM M n) :: H) (K (.tuple #[]))) : E B (rmo a M :: H) (CF Tryz.prog 32 [ptr a, I i] K) := by
  have hol := hw.ol
  have hil : i < M.O.length := (List.findIdx?_eq_some_iff_getElem.1 hi).1
  have her := erase_filter hw.o hi
  refine E_rmo fun vs ss os Lv Ls Lo Lh SS iv is io iV iS iO hsl hsh => ?_
  have rO := rs_pool (B := B) (enc := roC) iO
  refine E_mono (W := s32 _ _ K) ?_ fun _ => c32
  unfold s32
  (repeat first | refine gS ?_ | refine gA fun _ => ?_ | refine gX fun _ _ => ?_ | refine gT ?_ | refine gF ?_ | refine gI ?_)
  refine E_slcS2 (enc := roC) (l := M.O) (i := 0) (j := i) (by simp [S.bound]) (by simp [S.bound]) (Nat.zero_le _) (by omega) fun v1 hv1 _ => ?_
  (repeat first | refine gS ?_ | refine gA fun _ => ?_ | refine gX fun _ _ => ?_ | refine gT ?_ | refine gF ?_ | refine gI ?_)
  rw [show (i : Int) + 1 = ((i + 1 : Nat) : Int) by omega]
  refine E_slcS2 (enc := roC) (l := M.O) (i := i + 1) (j := M.O.length) (by simp [S.bound]) (bound_nat (i + 1) 0) (by omega) (by omega) fun v2 hv2 _ => ?_
  refine E_bsl0 u_rsess elt_rses fun bz => ?_
  refine E_slsC (enc := roC) [] 0 rfl rfl ?_
  (repeat (refine E_rck1 (by first | exact E_ld (E_fact rfl) | exact E_ld' (by assumption) (E_fact rfl) | exact E_b2sR (E_fact rfl) | exact E_gdnF (by assumption) (E_ld (E_fact rfl)) | exact E_gdT (by assumption) (E_ld (E_fact rfl)) | exact E_gtf (E_ld (E_fact rfl)) | exact E_gft (E_ld (E_fact rfl)) | exact E_ldNA (E_fact rfl) | exact E_ptld (E_fact rfl) | exact E_gtf (E_ldNA (E_fact rfl))) ?_)); (first | (refine E_rck0 ?_) | skip)
  refine E_sapps (enc := roC) (l := []) (m := (M.O.drop 0).take (i - 0)) u_rsess elt_rses (by simp; omega) (by simp; omega) fun v3 _ => ?_
  (repeat (refine E_rck1 (by first | exact E_ld (E_fact rfl) | exact E_ld' (by assumption) (E_fact rfl) | exact E_b2sR (E_fact rfl) | exact E_gdnF (by assumption) (E_ld (E_fact rfl)) | exact E_gdT (by assumption) (E_ld (E_fact rfl)) | exact E_gtf (E_ld (E_fact rfl)) | exact E_gft (E_ld (E_fact rfl)) | exact E_ldNA (E_fact rfl) | exact E_ptld (E_fact rfl) | exact E_gtf (E_ldNA (E_fact rfl))) ?_)); (first | (refine E_rck0 ?_) | skip)
  refine E_sapps (enc := roC) (m := (M.O.drop (i + 1)).take (M.O.length - (i + 1))) u_rsess elt_rses (by simp; omega) (by simp; omega) fun v4 _ => ?_
  have e : [] ++ (M.O.drop 0).take (i - 0) ++ (M.O.drop (i + 1)).take (M.O.length - (i + 1)) = (lostM M n).O := by
    rw [List.nil_append, List.drop_zero, Nat.sub_zero, List.take_of_length_le (l := M.O.drop (i + 1)) (by rw [List.length_drop]; exact Nat.le_refl _), her]; rfl
  rw [e]
  (repeat first | refine gS ?_ | refine gA fun _ => ?_ | refine gX fun _ _ => ?_ | refine gT ?_ | refine gF ?_ | refine gI ?_)
  refine sm (G := sls roC 72 3 v4 (lostM M n).O :: spool roC Lo :: cel true a 70 [vs, ss, v4, I M.began, I M.now, I M.quota] :: spool rvC Lv :: spool rsC Ls :: spool hC Lh :: H) ?_
  refine E_give ?_
  refine sm (G := cel true a 70 [vs, ss, v4, I M.began, I M.now, I M.quota] :: spool rvC Lv :: spool rsC Ls :: spool roC ((v4, (lostM M n).O) :: Lo) :: spool hC Lh :: H) ?_
  refine E_rmoS (M := lostM M n) vs ss v4 (SS := SS) iV iS (by simp) hsl hsh rfl rfl rfl ?_
  exact h
theorem rgone {i : Nat} {x : Ver} (hw : Wf M) (hx : M.V[i]? = some x) (h : E B (rmo a { M with V := markV M.V x.name x.gen } :: H) (K (.tuple #[]))) : E B (rmo a M :: H) (CF Tryz.prog 35 [ptr a, I i] K) := by
  have hMn := hw.n
  refine E_mono (W := s35 _ _ K) ?_ fun _ => c35
  unfold s35
  refine E_bsl0 u_rvers elt_rver fun bz => ?_
  refine E_slsC (enc := rvC) [] 0 rfl rfl ?_
  refine fd (a := rmo a M) ?_
  refine E_rmo fun vs ss os Lv Ls Lo Lh SS iv is io iV iS iO hsl hsh => ?_
  have rV := rs_pool (B := B) (enc := rvC) iV
  (repeat first | refine gS ?_ | refine gA fun _ => ?_ | refine gX fun _ _ => ?_ | refine gT ?_ | refine gF ?_ | refine gI ?_)
  refine E_use (sls rvC 102 5 (.slice (some ⟨bz, 0, none⟩) 0 0)) (E_sapps (enc := rvC) (l := []) (m := M.V) u_rvers elt_rver (by simp; omega) (by simp; omega) fun v _ => ?_)
  rw [List.nil_append]
  refine E_sfld (enc := rvC) (goneV x) hx (by decide) rfl ?_
  rw [mark_set hw.v hx]
  (repeat first | refine gS ?_ | refine gA fun _ => ?_ | refine gX fun _ _ => ?_ | refine gT ?_ | refine gF ?_ | refine gI ?_)
  refine sm (G := sls rvC 102 5 v (markV M.V x.name x.gen) :: spool rvC Lv :: cel true a 70 [v, ss, os, I M.began, I M.now, I M.quota] :: spool rsC Ls :: spool roC Lo :: spool hC Lh :: H) ?_
  refine E_give ?_
  refine sm (G := cel true a 70 [v, ss, os, I M.began, I M.now, I M.quota] :: spool rvC ((v, markV M.V x.name x.gen) :: Lv) :: spool rsC Ls :: spool roC Lo :: spool hC Lh :: H) ?_
  exact E_rmoS (M := { M with V := markV M.V x.name x.gen }) v ss os (SS := SS) (by simp) iS iO hsl hsh rfl rfl rfl h
/-- Does a snapshot hold it? The document's way. -/
theorem heldB_any {M : Mo} (hw : Wf M) (n : List UInt8) (g : Int) : heldB M.S n g = M.S.any fun s => s.held.any fun p => decide (p = (n, g)) := by
  rw [Bool.eq_iff_iff, heldB_iff hw, List.any_eq_true]
  constructor
  · rintro ⟨s, hs, hm⟩
    exact ⟨s, hs, List.any_eq_true.2 ⟨_, hm, by simp⟩⟩
  · rintro ⟨s, hs, hm⟩
    obtain ⟨p, hp, he⟩ := List.any_eq_true.1 hm
    have : p = (n, g) := by simpa using he
    subst this
    exact ⟨s, hs, hp⟩
theorem rsweep (hw : Wf M) (hs16 : M.S.length ≤ 1000000) (hh : ∀ s ∈ M.S, s.held.length ≤ 1000000) (h : E B (rmo a { M with V := sweepV M.S M.V } :: H) (K (.tuple #[]))) : E B (rmo a M :: H) (CF Tryz.prog 36 [ptr a] K) := by
  have hMn := hw.n
  refine E_mono (W := s36 _ K) ?_ fun _ => c36
  unfold s36
  refine E_bsl0 u_rvers elt_rver fun bz => ?_
  refine E_slsC (enc := rvC) [] 0 rfl rfl ?_
  refine fd (a := rmo a M) ?_
  refine E_rmo fun vs ss os Lv Ls Lo Lh SS iv is io iV iS iO hsl hsh => ?_
  have rV := rs_pool (B := B) (enc := rvC) iV
  have rS := rs_pool (B := B) (enc := rsC) iS
  refine E_loop (σ := Nat × Value) (fun s => s.1 ≤ M.V.length ∧ isCell s.2 = true) (fun s => [ptr a, s.2, I s.1]) (fun s => sls rvC 102 5 s.2 ((M.V.take s.1).filter (keepP M.S)) :: cel true a 70 [vs, ss, os, I M.began, I M.now, I M.quota] :: spool rvC Lv :: spool rsC Ls :: spool roC Lo :: spool hC Lh :: H) (fun s => M.V.length - s.1) (0, .slice (some ⟨bz, 0, none⟩) 0 0) (fun _ => rfl) rfl ⟨Nat.zero_le _, rfl⟩ (fun W hW => by
    simp only [List.take_zero, List.filter_nil] at hW
    exact sm hW) ?_
  rintro ⟨i, ov⟩ K0 ⟨hi, hov⟩ hk
  simp only at hi hov hk ⊢
  have : CellI ov := ⟨hov⟩
  refine E_fa fun _ => ?_
  (repeat first | refine gS ?_ | refine gA fun _ => ?_ | refine gX fun _ _ => ?_ | refine gT ?_ | refine gF ?_ | refine gI ?_)
  refine E_if (fun hc => ?_) (fun hc => ?_)
  · have hx : M.V[i]? = some M.V[i] := List.getElem?_eq_getElem (by omega)
    generalize M.V[i] = x at hx
    have hst : (M.V.take (i + 1)).filter (keepP M.S) = (M.V.take i).filter (keepP M.S) ++ if keepP M.S x then [x] else [] := by
      rw [List.take_add_one, hx, List.filter_append]
      cases hkx : keepP M.S x <;> simp [hkx]
    have hfl : ((M.V.take i).filter (keepP M.S)).length ≤ 1000000 := by
      have := List.length_filter_le (keepP M.S) (M.V.take i)
      rw [List.length_take] at this; omega
    refine E_joinC (σ := Value) (fun u => isCell u = true) (fun u => [ptr a, u, I i]) (fun u => sls rvC 102 5 u ((M.V.take (i + 1)).filter (keepP M.S)) :: cel true a 70 [vs, ss, os, I M.began, I M.now, I M.quota] :: spool rvC Lv :: spool rsC Ls :: spool roC Lo :: spool hC Lh :: H) (fun q hq => ?_) (fun u hu => ?_)
    · rw [hst] at hq
      refine E_loop (σ := Nat) (fun k => k ≤ M.S.length) (fun k => [ptr a, ov, I i, .bool ((M.S.take k).any fun s => s.held.any fun p => decide (p = (x.name, x.gen))), I k])
        (fun _ => sls rvC 102 5 ov ((M.V.take i).filter (keepP M.S)) :: cel true a 70 [vs, ss, os, I M.began, I M.now, I M.quota] :: spool rvC Lv :: spool rsC Ls :: spool roC Lo :: spool hC Lh :: H) (fun k => M.S.length - k) 0 (fun _ => rfl) (by simp) (Nat.zero_le _) (fun W hW => hW) ?_
      intro k K1 hk1 hk2
      refine E_fa fun _ => ?_
      (repeat first | refine gS ?_ | refine gA fun _ => ?_ | refine gX fun _ _ => ?_ | refine gT ?_ | refine gF ?_ | refine gI ?_)
      refine E_if (fun hc2 => ?_) (fun hc2 => ?_)
      · have hy : SS[k]? = some SS[k] := List.getElem?_eq_getElem (by omega)
        have hz : M.S[k]? = some M.S[k] := List.getElem?_eq_getElem (by omega)
        generalize SS[k] = y at hy
        generalize M.S[k] = z at hz
        obtain ⟨hyz, hyp⟩ := hsh k y z hy hz
        have hzl := hh z (List.mem_of_getElem? hz)
        have rH := rs_pool (B := B) (enc := hC) hyp
        refine E_loop (σ := Nat) (fun j => j ≤ z.held.length) (fun j => [ptr a, ov, I i, .bool (((M.S.take k).any fun s => s.held.any fun p => decide (p = (x.name, x.gen))) || (z.held.take j).any fun p => decide (p = (x.name, x.gen))), I k, I j])
          (fun _ => sls rvC 102 5 ov ((M.V.take i).filter (keepP M.S)) :: cel true a 70 [vs, ss, os, I M.began, I M.now, I M.quota] :: spool rvC Lv :: spool rsC Ls :: spool roC Lo :: spool hC Lh :: H) (fun j => z.held.length - j) 0 (fun _ => rfl) (by simp) (Nat.zero_le _) (fun W hW => hW) ?_
        intro j K2 hj1 hj2
        refine E_fa fun _ => ?_
        (repeat first | refine gS ?_ | refine gA fun _ => ?_ | refine gX fun _ _ => ?_ | refine gT ?_ | refine gF ?_ | refine gI ?_)
        refine E_if (fun hc3 => ?_) (fun hc3 => ?_)
        · have hp : z.held[j]? = some z.held[j] := List.getElem?_eq_getElem (by omega)
          generalize z.held[j] = p at hp
          have hj3 := hj2 (j + 1) (by omega) (by omega)
          have e : (z.held.take (j + 1)).any (fun p => decide (p = (x.name, x.gen))) = ((z.held.take j).any (fun p => decide (p = (x.name, x.gen))) || decide (p = (x.name, x.gen))) := by
            rw [List.take_add_one, hp, List.any_append]; simp
          rw [e, ← Bool.or_assoc] at hj3
          generalize (((M.S.take k).any fun s => s.held.any fun p => decide (p = (x.name, x.gen))) || (z.held.take j).any fun p => decide (p = (x.name, x.gen))) = b at hj3
          cases b with
          | true =>
            (repeat first | refine gS ?_ | refine gA fun _ => ?_ | refine gX fun _ _ => ?_ | refine gT ?_ | refine gF ?_ | refine gI ?_)
            refine E_rck1 (E_gtt (E_fact rfl)) ?_
            refine E_rck1 (E_gtt (E_fact rfl)) ?_
            refine E_rck1 (E_gtt (E_fact rfl)) ?_
            (repeat first | refine gS ?_ | refine gA fun _ => ?_ | refine gX fun _ _ => ?_ | refine gT ?_ | refine gF ?_ | refine gI ?_)
            exact hj3
          | false =>
            (repeat first | refine gS ?_ | refine gA fun _ => ?_ | refine gX fun _ _ => ?_ | refine gT ?_ | refine gF ?_ | refine gI ?_)
            refine E_build (l := [str x.name, I x.gen]) str_held ?_
            refine E_rck1 (E_gft (E_ptldA (E_fact rfl))) ?_
            refine E_rck1 (E_gft (E_ptld (E_fact rfl))) ?_
            refine E_rck1 (E_gft (E_ld (E_fact rfl))) ?_
            refine E_rck0 ?_
            refine E_gft ?_
            refine E_aeq (xs := #[str p.1, I p.2]) (ys := #[str x.name, I x.gen]) (b := decide (p = (x.name, x.gen))) (by kernel_rfl) (fun w => eq_held p (x.name, x.gen) w) ?_
            (repeat first | refine gS ?_ | refine gA fun _ => ?_ | refine gX fun _ _ => ?_ | refine gT ?_ | refine gF ?_ | refine gI ?_)
            exact hj3
        · have hje : j = z.held.length := by omega
          subst hje
          rw [List.take_length]
          refine E_addI (by omega) (by omega) ?_
          have hk3 := hk2 (k + 1) (by omega) (by omega)
          have e : (M.S.take (k + 1)).any (fun s => s.held.any fun p => decide (p = (x.name, x.gen))) = ((M.S.take k).any (fun s => s.held.any fun p => decide (p = (x.name, x.gen))) || z.held.any fun p => decide (p = (x.name, x.gen))) := by
            rw [List.take_add_one, hz, List.any_append]; simp
          rw [e] at hk3
          exact hk3
      · have hke : k = M.S.length := by omega
        subst hke
        rw [List.take_length, ← heldB_any hw]
        refine E_join1 [ptr a, ov, I i, .bool (keepP M.S x)] (sls rvC 102 5 ov ((M.V.take i).filter (keepP M.S)) :: cel true a 70 [vs, ss, os, I M.began, I M.now, I M.quota] :: spool rvC Lv :: spool rsC Ls :: spool roC Lo :: spool hC Lh :: H) (fun q' hq' => ?_) ?_
        · have fin : ∀ b : Bool, keepP M.S x = b → E B (sls rvC 102 5 ov ((M.V.take i).filter (keepP M.S)) :: cel true a 70 [vs, ss, os, I M.began, I M.now, I M.quota] :: spool rvC Lv :: spool rsC Ls :: spool roC Lo :: spool hC Lh :: H) (app 4 q' [ptr a, ov, I i, .bool b]) := fun b hb => hb ▸ hq'
          cases hhb : heldB M.S x.name x.gen with
          | true =>
            (repeat first | refine gS ?_ | refine gA fun _ => ?_ | refine gX fun _ _ => ?_ | refine gT ?_ | refine gF ?_ | refine gI ?_)
            exact fin true (by simp [keepP, hhb])
          | false =>
            (repeat first | refine gS ?_ | refine gA fun _ => ?_ | refine gX fun _ _ => ?_ | refine gT ?_ | refine gF ?_ | refine gI ?_)
            cases hgo : x.gone with
            | true =>
              (repeat first | refine gS ?_ | refine gA fun _ => ?_ | refine gX fun _ _ => ?_ | refine gT ?_ | refine gF ?_ | refine gI ?_)
              exact fin false (by simp [keepP, hhb, hgo])
            | false =>
              (repeat first | refine gS ?_ | refine gA fun _ => ?_ | refine gX fun _ _ => ?_ | refine gT ?_ | refine gF ?_ | refine gI ?_)
              exact fin true (by simp [keepP, hhb, hgo])
        · refine E_fa fun _ => ?_
          cases hkx : keepP M.S x with
          | true =>
            rw [hkx] at hq
            simp only [if_true] at hq
            (repeat first | refine gS ?_ | refine gA fun _ => ?_ | refine gX fun _ _ => ?_ | refine gT ?_ | refine gF ?_ | refine gI ?_)
            refine E_use (sls rvC 102 5 ov) (E_sapp1 (enc := rvC) x u_rvers elt_rver rfl (by decide) (by omega) (by omega) fun u' _ => ?_)
            exact sm (hq u' CellI.pf)
          | false =>
            rw [hkx] at hq
            simp only [Bool.false_eq_true, if_false, List.append_nil] at hq
            (repeat first | refine gS ?_ | refine gA fun _ => ?_ | refine gX fun _ _ => ?_ | refine gT ?_ | refine gF ?_ | refine gI ?_)
            exact hq ov hov
    · have : CellI u := ⟨hu⟩
      refine E_fa fun _ => ?_
      refine E_addI (by omega) (by omega) ?_
      exact hk (i + 1, u) ⟨by simp only; omega, hu⟩ (by simp only; omega)
  · have hie : i = M.V.length := by omega
    subst hie
    rw [List.take_length]
    (repeat first | refine gS ?_ | refine gA fun _ => ?_ | refine gX fun _ _ => ?_ | refine gT ?_ | refine gF ?_ | refine gI ?_)
    refine E_same (G := sls rvC 102 5 ov (sweepV M.S M.V) :: spool rvC Lv :: cel true a 70 [ov, ss, os, I M.began, I M.now, I M.quota] :: spool rsC Ls :: spool roC Lo :: spool hC Lh :: H) (by repeat (first | exact Same.refl | (refine Same.cons (by repeat (first | exact Find.here | apply Find.there)) ?_) | (refine Same.drop ?_))) ?_
    refine E_give ?_
    refine sm (G := cel true a 70 [ov, ss, os, I M.began, I M.now, I M.quota] :: spool rvC ((ov, sweepV M.S M.V) :: Lv) :: spool rsC Ls :: spool roC Lo :: spool hC Lh :: H) ?_
    exact E_rmoS (M := { M with V := sweepV M.S M.V }) ov ss os (SS := SS) (by simp) iS iO hsl hsh rfl rfl rfl h
end Go.Proofs.YtabpaknfenpkoaaGreat.Mod
