/-
  Names: the document's sweep.
-/
import Derived.Test.YtjafpncngmbcdaaGreatNnB
set_option linter.unusedSimpArgs false
set_option linter.unusedVariables false
set_option linter.unusedSectionVars false
namespace Go.Proofs.YtjafpncngmbcdaaGreat.Nam
open Go Go.SL Go.Proofs Go.Proofs.YtjafpncngmbcdaaGreat.Sh
variable {B : World} {H : List Asrt} {K : Value → WT} {W : WT} {a : Nat} {M : Bk} {f : Fa}
variable {fv sv : Cv} {L : List FC} {LS : List SC} {Pf : List (Value × List FC)} {Lv : List (Value × List VR)} {Lr : List (Value × List Rf)} {Ps : List (Value × List SC)} {Lh : List (Value × List (List UInt8 × Int))}
theorem nms_filter {V : List Ver} (hs : SrtN V) (q : Ver → Bool) : nms (V.filter q) = (nms V).filter fun k => decide ((fof V k).filter q ≠ []) := by
  have hs' : SrtN (V.filter q) := hs.sublist List.filter_sublist
  refine sorted_ext (r := (· < ·)) (fun a b h => slt_asymm h) (nms_lt hs') ((nms_lt hs).sublist List.filter_sublist) fun k => ?_
  rw [List.mem_filter, ← fof_filter]
  simp only [decide_eq_true_eq]
  constructor
  · intro h
    refine ⟨?_, fof_some h⟩
    obtain ⟨v, hv, e⟩ := nms_mem.1 h
    exact nms_mem.2 ⟨v, (List.mem_filter.1 hv).1, e⟩
  · rintro ⟨_, h⟩
    exact Classical.byContradiction fun hn => h (fof_none hn)
theorem heldB_take {S : List Sn} {t : Nat} {s : Sn} {n : List UInt8} {g : Int} (h : S[t]? = some s) : heldB (S.take (t + 1)) n g = (heldB (S.take t) n g || decide ((n, g) ∈ s.held)) := by
  unfold heldB
  rw [List.take_add_one, h, List.any_append]; simp
attribute [local irreducible] S.pick S.ld S.ldN S.st S.box S.nc S.fad S.ixS S.ixA S.chr S.prt S.ext S.bin S.sh S.sbin S.beq S.neg1 S.com1 S.not1 S.cvt S.str1 S.lenS S.len S.cap S.lenM S.mx S.mn S.mkM S.cond S.gd S.fa S.dr S.rck S.join S.loop S.cvv S.eqv S.slc S.slcS S.b2s S.lk V U CF Gives E cel mpb osl ros dct dit itr lpo dfo
set_option maxRecDepth 8000
attribute [local irreducible] bk dbk
theorem sweepD (hd : DOk ⟨fv, sv, L, LS, Pf, Lv, Lr, Ps, Lh⟩ M) (hs : SrtN M.V) (hL : (nms M.V).length ≤ 1000) (hfl : ∀ k, (fof M.V k).length ≤ 1000) (h16 : M.S.length ≤ 1000) (hhl : ∀ s ∈ M.S, s.held.length ≤ 1000)
    (h : ∀ (fv' : Cv) L' Pf' Lv', DOk ⟨fv', sv, L', LS, Pf', Lv', Lr, Ps, Lh⟩ { M with V := sweepV M.S M.V } → E B (cel true a 88 [fv'.1, sv.1, I M.now] :: spool fC Pf' :: spool vC Lv' :: spool rfC Lr :: spool shC Ps :: spool hC Lh :: H) (K (.tuple #[]))) : E B (cel true a 88 [fv.1, sv.1, I M.now] :: spool fC Pf :: spool vC Lv :: spool rfC Lr :: spool shC Ps :: spool hC Lh :: H) (CF Tryz.prog 76 [ptr a] K) := by
  have hlen := hd.len
  have hlS := hd.lenS
  have rf : ∀ H, Rs B (spool fC Pf :: H) fv.1 fC L := rs_pool hd.f
  have rs : ∀ H, Rs B (spool shC Ps :: H) sv.1 shC LS := rs_pool hd.s
  refine E_mono (W := s76 _ K) ?_ fun _ => c76
  unfold s76
  refine E_bsl0 u_fileL elt_file fun b0 => ?_
  refine E_slsC (enc := fC) [] 0 rfl rfl ?_
  refine E_loop (n := 3) (σ := Nat × Cv × List FC × List (Value × List VR)) (fun s => s.1 ≤ L.length ∧ s.2.2.1.map (·.1) = ((nms M.V).take s.1).filter (fun k => decide ((fof M.V k).filter (keepP M.S) ≠ [])) ∧ (∀ p ∈ s.2.2.1, ∃ l, VOk s.2.2.2 Lr p.2.1 l ((fof M.V p.1).filter (keepP M.S))) ∧ (∀ q ∈ Lv, q ∈ s.2.2.2) ∧ s.2.2.1.length ≤ s.1)
    (fun s => [ptr a, s.2.1.1, I s.1]) (fun s => sls fC 86 2 s.2.1.1 s.2.2.1 :: cel true a 88 [fv.1, sv.1, I M.now] :: spool fC Pf :: spool vC s.2.2.2 :: spool rfC Lr :: spool shC Ps :: spool hC Lh :: H) (fun s => L.length - s.1) (0, ⟨.slice (some ⟨b0, 0, none⟩) 0 0, rfl⟩, [], Lv) (fun _ => rfl) rfl ⟨Nat.zero_le _, rfl, by simp, fun q hq => hq, Nat.le_refl _⟩ (fun W hW => sm hW) ?_
  rintro ⟨i, ov, Lo, Qv⟩ K0 ⟨hi, hLo, hLk, hQ, hLl⟩ hk0
  simp only at hi hLo hLk hQ hLl hk0 ⊢
  refine E_fa fun _ => ?_
  (repeat first | refine gS ?_ | refine gA fun _ => ?_ | refine gX fun _ _ => ?_ | refine gT ?_ | refine gF ?_ | refine gI ?_)
  refine E_if (fun hc => ?_) (fun hc => ?_)
  · have hx : (nms M.V)[i]? = some (nms M.V)[i] := List.getElem?_eq_getElem (by omega)
    generalize (nms M.V)[i] = k at hx
    obtain ⟨c, l, hx', hl⟩ := hd.get hx
    have rl := rs_pool (B := B) (enc := vC) (hQ _ hl.m)
    have hll : l.length = (fof M.V k).length := by rw [← hl.e, List.length_map]
    have hlk := hfl k
    have hln : ∀ y ∈ l, y.1.name = k := fun y hy => (fof_mem.1 (hl.e ▸ List.mem_map_of_mem hy)).2
    have hle := hl.e
    refine E_joinC (σ := Cv × List FC × List (Value × List VR)) (fun s => s.2.1.map (·.1) = ((nms M.V).take (i + 1)).filter (fun k => decide ((fof M.V k).filter (keepP M.S) ≠ [])) ∧ (∀ p ∈ s.2.1, ∃ l, VOk s.2.2 Lr p.2.1 l ((fof M.V p.1).filter (keepP M.S))) ∧ (∀ q ∈ Lv, q ∈ s.2.2) ∧ s.2.1.length ≤ i + 1)
      (fun s => [ptr a, s.1.1, I i]) (fun s => sls fC 86 2 s.1.1 s.2.1 :: cel true a 88 [fv.1, sv.1, I M.now] :: spool fC Pf :: spool vC s.2.2 :: spool rfC Lr :: spool shC Ps :: spool hC Lh :: H) (fun q hq => ?_) (fun s hs' => ?_)
    · (repeat first | refine gS ?_ | refine gA fun _ => ?_ | refine gX fun _ _ => ?_ | refine gT ?_ | refine gF ?_ | refine gI ?_)
      refine E_build (l := [str k, nil]) str_file ?_
      (repeat first | refine gS ?_ | refine gA fun _ => ?_ | refine gX fun _ _ => ?_ | refine gT ?_ | refine gF ?_ | refine gI ?_)
      rename_i b4
      refine E_loop (n := 5) (σ := Nat × Cv × List VR) (fun s => s.1 ≤ l.length ∧ s.2.2 = (l.take s.1).filter (fun p => keepP M.S p.1)) (fun s => [ptr a, ov.1, I i, ptr b4, I s.1]) (fun s => cel true b4 86 [str k, s.2.1.1] :: sls vC 31 4 s.2.1.1 s.2.2 :: sls fC 86 2 ov.1 Lo :: cel true a 88 [fv.1, sv.1, I M.now] :: spool fC Pf :: spool vC Qv :: spool rfC Lr :: spool shC Ps :: spool hC Lh :: H) (fun s => l.length - s.1) (0, ⟨nil, rfl⟩, []) (fun _ => rfl) rfl ⟨Nat.zero_le _, rfl⟩ (fun W hW => by
        refine sls_nil vC 4 (T := 31) ?_
        exact sm hW) ?_
      rintro ⟨j, cv, cl⟩ K1 ⟨hj, hcl⟩ hk1
      simp only at hj hcl hk1 ⊢
      have hcll : cl.length ≤ 1000 := by rw [hcl]; exact Nat.le_trans (List.length_filter_le _ _) (by rw [List.length_take]; omega)
      refine E_fa fun _ => ?_
      (repeat first | refine gS ?_ | refine gA fun _ => ?_ | refine gX fun _ _ => ?_ | refine gT ?_ | refine gF ?_ | refine gI ?_)
      refine E_if (fun hc1 => ?_) (fun hc1 => ?_)
      · have hy : l[j]? = some l[j] := List.getElem?_eq_getElem (by omega)
        have hyn := hln _ (List.mem_of_getElem? hy)
        generalize l[j] = x at hy hyn
        refine E_joinC (σ := Cv × List VR) (fun s => s.2 = (l.take (j + 1)).filter (fun p => keepP M.S p.1)) (fun s => [ptr a, ov.1, I i, ptr b4, I j]) (fun s => cel true b4 86 [str k, s.1.1] :: sls vC 31 4 s.1.1 s.2 :: sls fC 86 2 ov.1 Lo :: cel true a 88 [fv.1, sv.1, I M.now] :: spool fC Pf :: spool vC Qv :: spool rfC Lr :: spool shC Ps :: spool hC Lh :: H) (fun q1 hq1 => ?_) (fun s hs1 => ?_)
        · (repeat first | refine gS ?_ | refine gA fun _ => ?_ | refine gX fun _ _ => ?_ | refine gT ?_ | refine gF ?_ | refine gI ?_)
          rename_i b6
          refine E_stW (vs := vC x) rfl rfl ?_
          refine E_loop (n := 8) (σ := Nat × Bool) (fun s => s.1 ≤ M.S.length ∧ s.2 = heldB (M.S.take s.1) k x.1.gen) (fun s => [ptr a, ov.1, I i, ptr b4, I j, ptr b6, .bool s.2, I s.1]) (fun _ => cel true b6 31 (vC x) :: cel true b4 86 [str k, cv.1] :: sls vC 31 4 cv.1 cl :: sls fC 86 2 ov.1 Lo :: cel true a 88 [fv.1, sv.1, I M.now] :: spool fC Pf :: spool vC Qv :: spool rfC Lr :: spool shC Ps :: spool hC Lh :: H) (fun s => M.S.length - s.1) (0, false) (fun _ => rfl) rfl ⟨Nat.zero_le _, rfl⟩ (fun W hW => sm hW) ?_
          rintro ⟨t, c0⟩ K2 ⟨ht, hc0⟩ hk2
          simp only at ht hc0 hk2 ⊢
          refine E_fa fun _ => ?_
          (repeat first | refine gS ?_ | refine gA fun _ => ?_ | refine gX fun _ _ => ?_ | refine gT ?_ | refine gF ?_ | refine gI ?_)
          refine E_if (fun hc2 => ?_) (fun hc2 => ?_)
          · have hS : M.S[t]? = some M.S[t] := List.getElem?_eq_getElem (by omega)
            have hSm := List.mem_of_getElem? hS
            generalize M.S[t] = s at hS hSm
            obtain ⟨hc', hsx, hsh⟩ := hd.getS hS
            have rh := rs_pool (B := B) (enc := hC) hsh
            have hhs := hhl s hSm
            have hstep := heldB_take (n := k) (g := x.1.gen) hS
            rw [← hc0] at hstep
            refine E_loop (n := 9) (σ := Nat × Bool) (fun u => u.1 ≤ s.held.length ∧ u.2 = (c0 || decide ((k, x.1.gen) ∈ s.held.take u.1))) (fun u => [ptr a, ov.1, I i, ptr b4, I j, ptr b6, .bool u.2, I t, I u.1]) (fun _ => cel true b6 31 (vC x) :: cel true b4 86 [str k, cv.1] :: sls vC 31 4 cv.1 cl :: sls fC 86 2 ov.1 Lo :: cel true a 88 [fv.1, sv.1, I M.now] :: spool fC Pf :: spool vC Qv :: spool rfC Lr :: spool shC Ps :: spool hC Lh :: H) (fun u => s.held.length - u.1) (0, c0) (fun _ => rfl) rfl ⟨Nat.zero_le _, by simp⟩ (fun W hW => sm hW) ?_
            rintro ⟨u, c1⟩ K3 ⟨hu, hc1'⟩ hk3
            simp only at hu hc1' hk3 ⊢
            refine E_fa fun _ => ?_
            (repeat first | refine gS ?_ | refine gA fun _ => ?_ | refine gX fun _ _ => ?_ | refine gT ?_ | refine gF ?_ | refine gI ?_)
            refine E_if (fun hc3 => ?_) (fun hc3 => ?_)
            · have hz : s.held[u]? = some s.held[u] := List.getElem?_eq_getElem (by omega)
              generalize s.held[u] = z at hz
              have hst2 : (c0 || decide ((k, x.1.gen) ∈ s.held.take (u + 1))) = (c1 || decide (z = (k, x.1.gen))) := by
                rw [hc1', Bool.or_assoc, List.take_add_one, hz]
                congr 1
                rw [Bool.eq_iff_iff]
                simp only [decide_eq_true_eq, Bool.or_eq_true, List.mem_append, Option.toList_some, List.mem_singleton]
                exact or_congr_right ⟨Eq.symm, Eq.symm⟩
              have hk4 := hk3 (u + 1, c1 || decide (z = (k, x.1.gen))) ⟨by simp only; omega, hst2.symm⟩ (by simp only; omega)
              cases c1 with
              | true =>
                (repeat first | refine gS ?_ | refine gA fun _ => ?_ | refine gX fun _ _ => ?_ | refine gT ?_ | refine gF ?_ | refine gI ?_)
                (repeat (refine E_rck1 (E_gtt (E_fact rfl)) ?_))
                refine E_rck0 ?_
                (repeat first | refine gS ?_ | refine gA fun _ => ?_ | refine gX fun _ _ => ?_ | refine gT ?_ | refine gF ?_ | refine gI ?_)
                exact sm hk4
              | false =>
                (repeat first | refine gS ?_ | refine gA fun _ => ?_ | refine gX fun _ _ => ?_ | refine gT ?_ | refine gF ?_ | refine gI ?_)
                refine E_build (l := [str k, I x.1.gen]) str_held ?_
                refine E_rck1 (E_gft (E_ptldA (E_fact rfl))) ?_
                refine E_rck1 (E_gft (E_ptld (E_fact rfl))) ?_
                refine E_rck1 (E_gft (E_ld (E_fact rfl))) ?_
                refine E_rck0 ?_
                refine E_gft ?_
                refine E_aeq (xs := (hC z).toArray) (ys := #[str k, I x.1.gen]) (b := decide (z = (k, x.1.gen))) (by kernel_rfl) (fun w => eq_held z (k, x.1.gen) w) ?_
                (repeat first | refine gS ?_ | refine gA fun _ => ?_ | refine gX fun _ _ => ?_ | refine gT ?_ | refine gF ?_ | refine gI ?_)
                exact sm hk4
            · have hue : u = s.held.length := by omega
              rw [hue, List.take_length, ← hstep] at hc1'
              refine E_addI (by omega) (by omega) ?_
              exact sm (hk2 (t + 1, c1) ⟨by simp only; omega, hc1'⟩ (by simp only; omega))
          · have hte : t = M.S.length := by omega
            rw [hte, List.take_length] at hc0
            have hkp : keepP M.S x.1 = (c0 || !x.1.gone) := by unfold keepP; rw [hyn, hc0]
            have hnx : (l.take (j + 1)).filter (fun p => keepP M.S p.1) = cl ++ if keepP M.S x.1 = true then [x] else [] := by
              rw [List.take_add_one, hy, List.filter_append, ← hcl]
              cases h9 : keepP M.S x.1 <;> simp [h9]
            rw [hnx] at hq1
            refine E_join1 [ptr a, ov.1, I i, ptr b4, I j, ptr b6, .bool (keepP M.S x.1)] (cel true b6 31 (vC x) :: cel true b4 86 [str k, cv.1] :: sls vC 31 4 cv.1 cl :: sls fC 86 2 ov.1 Lo :: cel true a 88 [fv.1, sv.1, I M.now] :: spool fC Pf :: spool vC Qv :: spool rfC Lr :: spool shC Ps :: spool hC Lh :: H) (fun q2 hq2 => ?_) ?_
            · rw [hkp] at hq2
              (repeat first | refine gS ?_ | refine gY ?_ | refine gA fun _ => ?_ | refine gX fun _ _ => ?_ | refine gI ?_)
              exact sm hq2
            · refine E_fa fun _ => ?_
              cases hkx : keepP M.S x.1 with
              | true =>
                rw [hkx, if_pos rfl] at hq1
                (repeat first | refine gS ?_ | refine gA fun _ => ?_ | refine gX fun _ _ => ?_ | refine gT ?_ | refine gF ?_ | refine gI ?_)
                refine fd (a := sls vC 31 4 cv.1 cl) ?_
                refine E_sapp1 (enc := vC) x u_vers elt_ver rfl (by decide) (by omega) (by omega) fun v' hv' => ?_
                (repeat first | refine gS ?_ | refine gA fun _ => ?_ | refine gX fun _ _ => ?_ | refine gT ?_ | refine gF ?_ | refine gI ?_)
                exact sm (hq1 (⟨v', hv'.pf⟩, cl ++ [x]) rfl)
              | false =>
                rw [hkx, if_neg (by simp), List.append_nil] at hq1
                (repeat first | refine gS ?_ | refine gA fun _ => ?_ | refine gX fun _ _ => ?_ | refine gT ?_ | refine gF ?_ | refine gI ?_)
                exact sm (hq1 (cv, cl) rfl)
        · refine E_fa fun _ => ?_
          refine E_addI (by omega) (by omega) ?_
          exact hk1 (j + 1, s.1, s.2) ⟨by simp only; omega, hs1⟩ (by simp only; omega)
      · have hje : j = l.length := by omega
        rw [hje, List.take_length] at hcl
        have hce : cl.map (·.1) = (fof M.V k).filter (keepP M.S) := by rw [hcl, ← hle, List.filter_map]; rfl
        (repeat first | refine gS ?_ | refine gA fun _ => ?_ | refine gX fun _ _ => ?_ | refine gT ?_ | refine gF ?_ | refine gI ?_)
        rw [List.take_add_one, hx, List.filter_append] at hq
        refine E_if (fun hc2 => ?_) (fun hc2 => ?_)
        · have hne : (fof M.V k).filter (keepP M.S) ≠ [] := by
            rw [← hce]; intro e
            have := List.map_eq_nil_iff.1 e
            rw [this] at hc2; simp at hc2
          (repeat first | refine gS ?_ | refine gA fun _ => ?_ | refine gX fun _ _ => ?_ | refine gT ?_ | refine gF ?_ | refine gI ?_)
          refine fd (a := sls fC 86 2 ov.1 Lo) ?_
          refine E_sapp1 (enc := fC) ((k, cv) : FC) u_fileL elt_file rfl (by decide) (by omega) (by omega) fun v' hv' => ?_
          refine fd (a := spool vC Qv) ?_
          refine fd (a := sls vC 31 4 cv.1 cl) ?_
          refine E_give ?_
          have := hq (⟨v', hv'.pf⟩, Lo ++ [(k, cv)], (cv.1, cl) :: Qv) ⟨by rw [List.map_append, hLo]; congr 1; rw [Option.toList_some, List.filter_cons, if_pos (decide_eq_true hne)]; rfl, fun p hp => ?_, fun q hq => List.mem_cons_of_mem _ (hQ q hq), by simp; omega⟩
          · exact sm this
          · rcases List.mem_append.1 hp with hp | hp
            · obtain ⟨l', hl'⟩ := hLk p hp
              exact ⟨l', hl'.mono (fun _ h => List.mem_cons_of_mem _ h) (fun _ h => h)⟩
            · simp only [List.mem_singleton] at hp
              subst hp
              exact ⟨cl, by simp, hce, fun p hp => hl.r p (List.mem_filter.1 (hcl ▸ hp)).1⟩
        · have hne : ¬ (fof M.V k).filter (keepP M.S) ≠ [] := by
            rw [← hce]
            have : cl = [] := List.length_eq_zero_iff.1 (by omega)
            rw [this]; simp
          have := hq (ov, Lo, Qv) ⟨by rw [Option.toList_some, List.filter_cons, if_neg (by simpa using hne), List.filter_nil, List.append_nil]; exact hLo, hLk, hQ, by simp only; omega⟩
          exact sm this
    · obtain ⟨v', Lo', Qv'⟩ := s
      obtain ⟨h1, h2, h3, h4⟩ := hs'
      refine E_fa fun _ => ?_
      refine E_addI (by omega) (by omega) ?_
      exact hk0 (i + 1, v', Lo', Qv') ⟨by simp only; omega, h1, h2, h3, h4⟩ (by simp only; omega)
  · have hie : i = (nms M.V).length := by omega
    rw [hie, List.take_length, ← nms_filter hs] at hLo
    (repeat first | refine gS ?_ | refine gA fun _ => ?_ | refine gX fun _ _ => ?_ | refine gT ?_ | refine gF ?_ | refine gI ?_)
    have : CellI ov.1 := ⟨ov.2⟩
    refine fd (a := spool fC Pf) ?_
    refine fd (a := sls fC 86 2 ov.1 Lo) ?_
    refine E_give ?_
    refine sm (h ov Lo ((ov.1, Lo) :: Pf) Qv ⟨by simp, ⟨hLo, fun p hp => ?_⟩, hd.s, hd.sh⟩)
    obtain ⟨l', hl'⟩ := hLk p hp
    exact ⟨l', by show VOk Qv Lr p.2.1 l' (fof (sweepV M.S M.V) p.1); unfold sweepV; rw [fof_filter]; exact hl'⟩
end Go.Proofs.YtjafpncngmbcdaaGreat.Nam
