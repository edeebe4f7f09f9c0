/-
  Part 7: NmU, NmV, NmW, NmX, NmY, NmZ, NnA, NnB, NnC, NnD, NnE, NnF, NnG, NnH, NnI, NnJ.
-/
import Derived.Test.YtjafpncngmbcdaaGreatPkLf
set_option linter.unusedSimpArgs false
set_option linter.unusedVariables false
set_option linter.unusedSectionVars false
section
namespace Go.Proofs.YtjafpncngmbcdaaGreat.Nam
open Go Go.SL Go.Proofs Go.Proofs.YtjafpncngmbcdaaGreat.Sh
variable {B : World} {H : List Asrt} {K : Value → WT} {W : WT} {a : Nat} {M : Bk} {f : Fa} {rv hv mv : Value}
theorem E_dlkz {r : Nat} {kf : List (List UInt8 × Value)} {k : List UInt8} {v z : Value} {H' : List Asrt} [ht : TakD H kL true r kf H'] (hv : lk kf k = some v ∨ (lk kf k = none ∧ v = z)) (h : E B (dct kL true r kf :: H') (K v)) : E B H (S.lk .string z false (.map (some r)) (str k) K) := by
  rcases hv with hv | ⟨hv, rfl⟩
  · exact E_dlk1 (κ := List UInt8) hv h
  · exact E_dlk0 (κ := List UInt8) hv h
theorem str_ver : Str Tryz.prog 31 [(0, 1), (1, 1), (2, 1), (3, 1)] [I 0, I 0, nil, .bool false] := str_of (zv := .agg #[I 0, I 0, nil, .bool false]) (by kernel_rfl) (by kernel_rfl) rfl
theorem str_shot : Str Tryz.prog 90 [(0, 1), (1, 1), (2, 1)] [.string ⟨#[]⟩, I 0, nil] := str_of (zv := .agg #[.string ⟨#[]⟩, I 0, nil]) (by kernel_rfl) (by kernel_rfl) rfl
abbrev zFact : List Value := [I 0, I 0, I 0, I 0, .string ⟨#[]⟩, I 0, I 0, nil, nil, nil, I 0, I 0, I 0, I 0]
theorem str_fact : Str Tryz.prog 60 [(0, 1), (1, 3), (4, 1), (5, 1), (6, 1), (7, 1), (8, 1), (9, 1), (10, 4)] zFact := str_of (zv := .agg zFact.toArray) (by kernel_rfl) (by kernel_rfl) rfl
theorem rs_midA {α : Type} {enc : α → List Value} {v : Value} {l : List α} (H' C : List Asrt) (h : ∀ G, Rs B (G ++ H) v enc l) : Rs B (H' ++ (C ++ H)) v enc l := by
  rw [← List.append_assoc]; exact h _
theorem sok_put {Lh Lh' : List (Value × List (List UInt8 × Int))} {ks : List (List UInt8 × Value)} {S S' : List Sn} {k : List UInt8} {s : Sn} {v : Value} (h : SOk Lh ks S) (hc : isCell v = true) (ho : ∀ k', sof S' k' = if k' = k then some s else sof S k') (hm : (v, s.held) ∈ Lh') (hL : ∀ p ∈ Lh, p ∈ Lh') : SOk Lh' (dput ks k (shV s v)) S' := fun k' => by
  rw [ho k', show lk (dput ks k (shV s v)) k' = _ from dget_dput]
  by_cases hk : k' = k
  · rw [if_pos hk, if_pos hk]; exact .inr ⟨⟨v, hc⟩, s, rfl, rfl, hm⟩
  · rw [if_neg hk, if_neg hk]
    rcases h k' with h | ⟨u, t, h1, h2, h3⟩
    · exact .inl h
    · exact .inr ⟨u, t, h1, h2, hL _ h3⟩
theorem sok_del {Lh : List (Value × List (List UInt8 × Int))} {ks : List (List UInt8 × Value)} {S S' : List Sn} {k : List UInt8} (h : SOk Lh ks S) (ho : ∀ k', sof S' k' = if k' = k then none else sof S k') : SOk Lh (ddel ks k) S' := fun k' => by
  rw [ho k', show lk (ddel ks k) k' = _ from dget_ddel]
  by_cases hk : k' = k
  · rw [if_pos hk, if_pos hk]; exact .inl ⟨rfl, rfl⟩
  · rw [if_neg hk, if_neg hk]
    exact h k'
theorem flat_len {α β : Type} {g : α → List β} {c : Nat} : ∀ {l : List α}, (∀ a ∈ l, (g a).length ≤ c) → (l.flatMap g).length ≤ c * l.length
  | [], _ => by simp
  | a :: l, h => by
    have h1 := h a (by simp)
    have h2 := flat_len (l := l) fun b hb => h b (List.mem_cons_of_mem _ hb)
    rw [List.flatMap_cons, List.length_append, List.length_cons, Nat.mul_add, Nat.mul_one]; omega
theorem expireL_len (hw : Inv M) (f : Fa) : (expireL M f).length ≤ 2048 := by
  have h1 : (expireL M f).length ≤ 32 * (nms M.V).length := flat_len fun k _ => by
    refine Nat.le_trans (List.length_filterMap_le _ _) ?_
    rw [List.length_range]
    exact Nat.le_trans (List.length_filter_le _ _) (hw.fl k)
  have := hw.nl
  omega
instance {h : List UInt8 × Int} : AllC (hC h) := ⟨fun y hy => Enc.cell (enc := hC) h y hy⟩
attribute [local irreducible] S.pick S.ld S.ldN S.st S.box S.nc S.fad S.ixS S.ixA S.chr S.prt S.ext S.bin S.sh S.sbin S.beq S.neg1 S.com1 S.not1 S.cvt S.str1 S.lenS S.len S.cap S.lenM S.mx S.mn S.mkM S.cond S.gd S.fa S.dr S.rck S.join S.loop S.cvv S.eqv S.slc S.slcS S.b2s S.lk V U CF Gives E cel mpb osl ros dct dit itr lpo dfo
set_option maxRecDepth 8000
attribute [local irreducible] bk
theorem apply0 [CellI rv] [CellI hv] [CellI mv] [hr1 : Rs B H rv rfC f.refs] [hr2 : Rs B H hv hC f.held] [hr3 : ∀ G, Rs B (G ++ H) mv mvC f.moves] (ho : FaOk f) (hw : Inv M)
    (hrec : f.k = 9 → ∀ (M' : Bk) (x : List UInt8 × Int) (H' : List Asrt) (K' : Value → WT), Inv M' → x.1.length ≤ 1000 → (∀ e, E B (bk a (stepD M' x) :: H') (K' (I e))) → E B (bk a M' :: H') (CF Tryz.prog 23 [ptr a, .agg (faL (dropF x) nil nil nil).toArray] K'))
    (h : E B (bk a (stepM M f) :: H) (K (I (checkB M f)))) : E B (bk a M :: H) (CF Tryz.prog 23 [ptr a, .agg (faL f rv hv mv).toArray] K) := by
  have hr3' : Rs B H mv mvC f.moves := hr3 []
  refine E_mono (W := s23 _ _ K) ?_ fun _ => c23
  unfold s23
  refine E_box (vs := faL f rv hv mv) fun b3 => ?_
  (repeat first | refine gS ?_ | refine gA fun _ => ?_ | refine gX fun _ _ => ?_ | refine gT ?_ | refine gF ?_ | refine gI ?_)
  refine fd (a := bk a M) (check ho hw ?_)
  refine E_neq ?_
  refine E_if (fun hc => ?_) (fun hc => ?_)
  · unfold stepM at h
    rw [if_pos hc] at h
    exact sm h
  have hc0 : checkB M f = 0 := Decidable.not_not.1 hc
  have ok := checkB0.1 hc0
  obtain ⟨hk, hbad, hrl, hhl, hml, hmo, hho, hro, hbare⟩ := checkF0 ok.c
  obtain ⟨hnm, hgen, hng, hnt, h9⟩ := badB0 hbad
  have hfl := hw.fl
  have fin : ∀ M', applyM M f = M' → E B (bk a M' :: H) (K (I 0)) := fun M' e => by
    unfold stepM at h
    rw [if_neg (by simpa using hc0), hc0, e] at h
    exact h
  unfold applyM at fin
  refine E_join1 [] (bk a (applyM M f) :: cel true b3 60 (faL f rv hv mv) :: H) (fun q hq => ?_) ?_
  case refine_2 =>
    refine E_fa fun _ => ?_
    exact sm (fin (applyM M f) rfl)
  clear fin
  have fin : ∀ M', applyM M f = M' → E B (bk a M' :: cel true b3 60 (faL f rv hv mv) :: H) (app 0 q []) := fun M' e => e ▸ hq
  clear hq h
  unfold applyM at fin
  by_cases h8 : f.k = 8
  · rw [if_pos h8] at fin
    refine E_bk fun r1 r2 kf ks Lv Lr Lh hf hs => ?_
    (repeat first | refine gS ?_ | refine gA fun _ => ?_ | refine gX fun _ _ => ?_ | refine gT ?_ | refine gF ?_ | refine gI ?_)
    refine sm (G := cel true a 81 [.map (some r1), .map (some r2), I f.time] :: dct kL true r1 kf :: dct kL true r2 ks :: spool vC Lv :: spool rfC Lr :: spool hC Lh :: cel true b3 60 (faL f rv hv mv) :: H) ?_
    exact E_bkS (M := { M with now := f.time }) r1 r2 hf hs rfl (fin _ rfl)
  rw [if_neg h8] at fin
  by_cases h3 : f.k = 3
  · rw [if_pos h3] at fin
    refine E_bk fun r1 r2 kf ks Lv Lr Lh hf hs => ?_
    obtain ⟨v, l, hrv, hle, hlr, hlk⟩ := fok_get hf f.name
    have i1 := hrv B
    have hll : l.length = (fof M.V f.name).length := by rw [← hle, List.length_map]
    have hln := hfl f.name
    have last : ∀ (u v' : Value) [CellI u] [CellI v'], E B (sls vC 31 4 u (l ++ [(⟨f.name, f.gen, f.time, f.refs, false⟩, ⟨v', CellI.pf⟩)]) :: sls rfC 38 35 v' f.refs :: cel true a 81 [.map (some r1), .map (some r2), I M.now] :: dct kL true r1 kf :: dct kL true r2 ks :: spool vC Lv :: spool rfC Lr :: spool hC Lh :: cel true b3 60 (faL f rv hv mv) :: H) (S.rck [S.ld (.pointer (some ⟨b3, 4, none⟩)) (fun v' _ => v' = str f.name), S.ld (.pointer (some ⟨a, 0, none⟩)) (fun v' _ => v' = .map (some r1))] <| U Tryz.prog (Instr.mapUpdate 78 (.map (some r1)) (str f.name) u) fun _ => app 0 q []) := fun u v' _ _ => by
      (repeat (refine E_rck1 (by first | exact E_ld (E_fact rfl) | exact E_ld' (by assumption) (E_fact rfl) | exact E_b2sR (E_fact rfl) | exact E_gdnF (by assumption) (E_ld (E_fact rfl)) | exact E_gdT (by assumption) (E_ld (E_fact rfl)) | exact E_gtf (E_ld (E_fact rfl)) | exact E_gft (E_ld (E_fact rfl)) | exact E_ldNA (E_fact rfl) | exact E_ptld (E_fact rfl) | exact E_gtf (E_ldNA (E_fact rfl))) ?_)); (first | (refine E_rck0 ?_) | skip)
      refine E_dmu (κ := List UInt8) key_files ?_
      refine fd (a := spool vC Lv) ?_
      refine fd (a := sls vC 31 4 u (l ++ [((⟨f.name, f.gen, f.time, f.refs, false⟩, ⟨v', CellI.pf⟩) : VR)])) ?_
      refine E_give ?_
      refine fd (a := spool rfC Lr) ?_
      refine fd (a := sls rfC 38 35 v' f.refs) ?_
      refine E_give ?_
      have hv' : (l ++ [((⟨f.name, f.gen, f.time, f.refs, false⟩, ⟨v', CellI.pf⟩) : VR)]).map (·.1) = fof (insV M.V ⟨f.name, f.gen, f.time, f.refs, false⟩) f.name := by
        rw [fof_insV hw.v.n, if_pos rfl, List.map_append, hle]; rfl
      refine sm (G := cel true a 81 [.map (some r1), .map (some r2), I M.now] :: dct kL true r1 (dput kf f.name u) :: dct kL true r2 ks :: spool vC ((u, l ++ [((⟨f.name, f.gen, f.time, f.refs, false⟩, ⟨v', CellI.pf⟩) : VR)]) :: Lv) :: spool rfC ((v', f.refs) :: Lr) :: spool hC Lh :: cel true b3 60 (faL f rv hv mv) :: H) ?_
      refine E_bkS (M := { M with V := insV M.V ⟨f.name, f.gen, f.time, f.refs, false⟩ }) r1 r2 (fok_put hf (fun k' hk' => by rw [fof_insV hw.v.n, if_neg hk']) ⟨by simp, hv', fun p hp => ?_⟩ (fun _ h => List.mem_cons_of_mem _ h) (fun _ h => List.mem_cons_of_mem _ h) (by rw [← hv']; simp)) hs rfl (fin _ rfl)
      rcases List.mem_append.1 hp with hp | hp
      · exact List.mem_cons_of_mem _ (hlr p hp)
      · simp only [List.mem_singleton] at hp
        subst hp
        exact List.mem_cons_self
    (repeat first | refine gS ?_ | refine gA fun _ => ?_ | refine gX fun _ _ => ?_ | refine gT ?_ | refine gF ?_ | refine gI ?_)
    refine E_dlkg hlk ?_
    (repeat first | refine gS ?_ | refine gA fun _ => ?_ | refine gX fun _ _ => ?_ | refine gT ?_ | refine gF ?_ | refine gI ?_)
    refine E_both ?_ ?_
    · refine cloneV (v := v) (by omega) fun u _ => ?_
      (repeat (refine E_rck1 (by first | exact E_ld (E_fact rfl) | exact E_ld' (by assumption) (E_fact rfl) | exact E_b2sR (E_fact rfl) | exact E_gdnF (by assumption) (E_ld (E_fact rfl)) | exact E_gdT (by assumption) (E_ld (E_fact rfl)) | exact E_gtf (E_ld (E_fact rfl)) | exact E_gft (E_ld (E_fact rfl)) | exact E_ldNA (E_fact rfl) | exact E_ptld (E_fact rfl) | exact E_gtf (E_ldNA (E_fact rfl))) ?_)); (first | (refine E_rck0 ?_) | skip)
      refine E_build (l := [I f.gen, I f.time, rv, .bool false]) str_ver ?_
      (repeat (refine E_rck1 (by first | exact E_ld (E_fact rfl) | exact E_ld' (by assumption) (E_fact rfl) | exact E_b2sR (E_fact rfl) | exact E_gdnF (by assumption) (E_ld (E_fact rfl)) | exact E_gdT (by assumption) (E_ld (E_fact rfl)) | exact E_gtf (E_ld (E_fact rfl)) | exact E_gft (E_ld (E_fact rfl)) | exact E_ldNA (E_fact rfl) | exact E_ptld (E_fact rfl) | exact E_gtf (E_ldNA (E_fact rfl))) ?_)); (first | (refine E_rck0 ?_) | skip)
      refine copied (l := f.refs) (by omega) fun v' _ => ?_
      (repeat (refine E_rck1 (by first | exact E_ld (E_fact rfl) | exact E_ld' (by assumption) (E_fact rfl) | exact E_b2sR (E_fact rfl) | exact E_gdnF (by assumption) (E_ld (E_fact rfl)) | exact E_gdT (by assumption) (E_ld (E_fact rfl)) | exact E_gtf (E_ld (E_fact rfl)) | exact E_gft (E_ld (E_fact rfl)) | exact E_ldNA (E_fact rfl) | exact E_ptld (E_fact rfl) | exact E_gtf (E_ldNA (E_fact rfl))) ?_)); (first | (refine E_rck0 ?_) | skip)
      refine fd (a := sls vC 31 4 u l) ?_
      refine E_sapp1R (enc := vC) (⟨f.name, f.gen, f.time, f.refs, false⟩, ⟨v', CellI.pf⟩) u_vers elt_ver rfl (by decide) (by omega) (by omega) (fun b W hW => by (repeat (refine E_rck1 (by first | exact E_ld (E_fact rfl) | exact E_ld' (by assumption) (E_fact rfl) | exact E_b2sR (E_fact rfl) | exact E_gdnF (by assumption) (E_ld (E_fact rfl)) | exact E_gdT (by assumption) (E_ld (E_fact rfl)) | exact E_gtf (E_ld (E_fact rfl)) | exact E_gft (E_ld (E_fact rfl)) | exact E_ldNA (E_fact rfl) | exact E_ptld (E_fact rfl) | exact E_gtf (E_ldNA (E_fact rfl))) ?_)); (first | (refine E_rck0 ?_) | skip); exact sm hW) fun u' _ => ?_
      exact sm (last u' v')
    · refine E_build (l := [I f.gen, I f.time, rv, .bool false]) str_ver ?_
      refine E_rck1 (E_dlkg hlk (E_fact rfl)) ?_
      (repeat (refine E_rck1 (by first | exact E_ld (E_fact rfl) | exact E_ld' (by assumption) (E_fact rfl) | exact E_b2sR (E_fact rfl) | exact E_gdnF (by assumption) (E_ld (E_fact rfl)) | exact E_gdT (by assumption) (E_ld (E_fact rfl)) | exact E_gtf (E_ld (E_fact rfl)) | exact E_gft (E_ld (E_fact rfl)) | exact E_ldNA (E_fact rfl) | exact E_ptld (E_fact rfl) | exact E_gtf (E_ldNA (E_fact rfl))) ?_)); (first | (refine E_rck0 ?_) | skip)
      refine cloneV (v := v) (by omega) fun u _ => ?_
      (repeat (refine E_rck1 (by first | exact E_ld (E_fact rfl) | exact E_ld' (by assumption) (E_fact rfl) | exact E_b2sR (E_fact rfl) | exact E_gdnF (by assumption) (E_ld (E_fact rfl)) | exact E_gdT (by assumption) (E_ld (E_fact rfl)) | exact E_gtf (E_ld (E_fact rfl)) | exact E_gft (E_ld (E_fact rfl)) | exact E_ldNA (E_fact rfl) | exact E_ptld (E_fact rfl) | exact E_gtf (E_ldNA (E_fact rfl))) ?_)); (first | (refine E_rck0 ?_) | skip)
      refine copied (l := f.refs) (by omega) fun v' _ => ?_
      (repeat (refine E_rck1 (by first | exact E_ld (E_fact rfl) | exact E_ld' (by assumption) (E_fact rfl) | exact E_b2sR (E_fact rfl) | exact E_gdnF (by assumption) (E_ld (E_fact rfl)) | exact E_gdT (by assumption) (E_ld (E_fact rfl)) | exact E_gtf (E_ld (E_fact rfl)) | exact E_gft (E_ld (E_fact rfl)) | exact E_ldNA (E_fact rfl) | exact E_ptld (E_fact rfl) | exact E_gtf (E_ldNA (E_fact rfl))) ?_)); (first | (refine E_rck0 ?_) | skip)
      refine fd (a := sls vC 31 4 u l) ?_
      refine E_sapp1R (enc := vC) (⟨f.name, f.gen, f.time, f.refs, false⟩, ⟨v', CellI.pf⟩) u_vers elt_ver rfl (by decide) (by omega) (by omega) (fun b W hW => by (repeat (refine E_rck1 (by first | exact E_ld (E_fact rfl) | exact E_ld' (by assumption) (E_fact rfl) | exact E_b2sR (E_fact rfl) | exact E_gdnF (by assumption) (E_ld (E_fact rfl)) | exact E_gdT (by assumption) (E_ld (E_fact rfl)) | exact E_gtf (E_ld (E_fact rfl)) | exact E_gft (E_ld (E_fact rfl)) | exact E_ldNA (E_fact rfl) | exact E_ptld (E_fact rfl) | exact E_gtf (E_ldNA (E_fact rfl))) ?_)); (first | (refine E_rck0 ?_) | skip); exact sm hW) fun u' _ => ?_
      exact sm (last u' v')
  rw [if_neg h3] at fin
  by_cases h4 : f.k = 4
  · rw [if_pos h4] at fin
    refine E_bk fun r1 r2 kf ks Lv Lr Lh hf hs => ?_
    obtain ⟨v, l, hrv, hle, hlr, hlk⟩ := fok_get hf f.name
    have i1 := hrv B
    have hll : l.length = (fof M.V f.name).length := by rw [← hle, List.length_map]
    have hln := hfl f.name
    (repeat first | refine gS ?_ | refine gA fun _ => ?_ | refine gX fun _ _ => ?_ | refine gT ?_ | refine gF ?_ | refine gI ?_)
    refine E_dlkg hlk ?_
    refine cloneV (v := v) (by omega) fun u _ => ?_
    refine fd (a := spool rfC Lr) (pool_dup ?_)
    (repeat first | refine gS ?_ | refine gA fun _ => ?_ | refine gX fun _ _ => ?_ | refine gT ?_ | refine gF ?_ | refine gI ?_)
    refine E_build (l := [str f.name, I f.gen]) str_held ?_
    refine sm (G := cel true a 81 [.map (some r1), .map (some r2), I M.now] :: dct kL true r1 kf :: dct kL true r2 ks :: spool vC Lv :: spool rfC Lr :: spool hC Lh :: sls vC 31 4 u l :: spool rfC Lr :: cel true b3 60 (faL f rv hv mv) :: H) ?_
    refine E_bkS r1 r2 hf hs rfl ?_
    rename List (Value × List Rf) => Lr0
    clear hf hs hlk i1 hrv
    refine at_ (by omega) ?_
    obtain ⟨x0, _, _, _, _, hg0⟩ := live_some (ok.k4 h4)
    rcases fi (fof M.V f.name) (genP f.gen) with ⟨e1, e2⟩ | ⟨i, x, e1, e2, e3⟩
    · exfalso
      unfold genV at hg0
      rw [show (fun v : Ver => decide (v.gen = f.gen)) = genP f.gen from rfl, e2] at hg0; cases hg0
    have hxg : x.gen = f.gen := by simpa [genP] using List.find?_some e3
    rw [e1, show idxI (some i) = (i : Int) from rfl]
    have hp : ∃ p, l[i]? = some p ∧ p.1 = x := by
      rw [← hle, List.getElem?_map] at e2
      cases hp : l[i]? with
      | none => rw [hp] at e2; cases e2
      | some p => rw [hp] at e2; exact ⟨p, rfl, Option.some.inj e2⟩
    obtain ⟨p, hp, hpx⟩ := hp
    refine fd (a := sls vC 31 4 u l) ?_
    refine E_sfld (goneV p.1, p.2) hp (by decide) rfl ?_
    refine fd (a := bk a M) (E_bk fun r1 r2 kf ks Lv Lr Lh hf hs => ?_)
    (repeat first | refine gS ?_ | refine gA fun _ => ?_ | refine gX fun _ _ => ?_ | refine gT ?_ | refine gF ?_ | refine gI ?_)
    refine E_dmu (κ := List UInt8) key_files ?_
    refine fd (a := spool rfC Lr) ?_
    refine fd (a := spool rfC Lr0) (pool_join ?_)
    refine fd (a := spool vC Lv) ?_
    refine fd (a := sls vC 31 4 u (l.set i (goneV p.1, p.2))) ?_
    refine E_give ?_
    (repeat first | refine gS ?_ | refine gA fun _ => ?_ | refine gX fun _ _ => ?_ | refine gT ?_ | refine gF ?_ | refine gI ?_)
    refine sm (G := cel true a 81 [.map (some r1), .map (some r2), I M.now] :: dct kL true r1 (dput kf f.name u) :: dct kL true r2 ks :: spool vC ((u, l.set i (goneV p.1, p.2)) :: Lv) :: spool rfC (Lr0 ++ Lr) :: spool hC Lh :: cel true b3 60 (faL f rv hv mv) :: H) ?_
    have hv' : (l.set i (goneV p.1, p.2)).map (·.1) = fof (markV M.V f.name f.gen) f.name := by
      rw [← hxg, fof_mark hw.v e2, List.map_set, hle, hpx]
    have hil : i < l.length := (List.getElem?_eq_some_iff.1 hp).1
    refine E_bkS (M := { M with V := markV M.V f.name f.gen }) r1 r2 (fok_put hf (fun k' hk' => fof_mark_ne hk') ⟨by simp, hv', fun y hy => ?_⟩ (fun _ h => List.mem_cons_of_mem _ h) (fun _ h => List.mem_append_right _ h) (by
      rw [← hv']
      intro e
      have h0 := congrArg List.length e
      rw [List.length_map, List.length_set, List.length_nil] at h0
      omega)) hs rfl ?_
    · rcases List.mem_or_eq_of_mem_set hy with hy | hy
      · exact List.mem_append_left _ (hlr y hy)
      · subst hy
        exact List.mem_append_left _ (hlr p (List.mem_of_getElem? hp))
    refine sweep hw.su (fun s hs => Nat.le_trans (hw.hh s hs) (by decide)) (by
      show (fof (markV M.V f.name f.gen) f.name).length ≤ 1000000
      rw [← hv']; simp; omega) ?_
    exact sm (fin _ (by
      show dropM M f.name f.gen = _
      unfold dropM
      rw [← swN_mark hw.sw]))
  rw [if_neg h4] at fin
  by_cases h5 : f.k = 5
  · rw [if_pos h5] at fin
    refine E_bk fun r1 r2 kf ks Lv Lr Lh hf hs => ?_
    (repeat first | refine gS ?_ | refine gA fun _ => ?_ | refine gX fun _ _ => ?_ | refine gT ?_ | refine gF ?_ | refine gI ?_)
    refine cloneH (v := hv) (l := f.held) (by omega) fun v' _ => ?_
    (repeat (refine E_rck1 (by first | exact E_ld (E_fact rfl) | exact E_ld' (by assumption) (E_fact rfl) | exact E_b2sR (E_fact rfl) | exact E_gdnF (by assumption) (E_ld (E_fact rfl)) | exact E_gdT (by assumption) (E_ld (E_fact rfl)) | exact E_gtf (E_ld (E_fact rfl)) | exact E_gft (E_ld (E_fact rfl)) | exact E_ldNA (E_fact rfl) | exact E_ptld (E_fact rfl) | exact E_gtf (E_ldNA (E_fact rfl))) ?_)); (first | (refine E_rck0 ?_) | skip)
    refine E_build (l := [str f.name, I f.time, v']) str_shot ?_
    (repeat (refine E_rck1 (by first | exact E_ld (E_fact rfl) | exact E_ld' (by assumption) (E_fact rfl) | exact E_b2sR (E_fact rfl) | exact E_gdnF (by assumption) (E_ld (E_fact rfl)) | exact E_gdT (by assumption) (E_ld (E_fact rfl)) | exact E_gtf (E_ld (E_fact rfl)) | exact E_gft (E_ld (E_fact rfl)) | exact E_ldNA (E_fact rfl) | exact E_ptld (E_fact rfl) | exact E_gtf (E_ldNA (E_fact rfl))) ?_)); (first | (refine E_rck0 ?_) | skip)
    refine E_dmu (κ := List UInt8) key_shots ?_
    refine fd (a := spool hC Lh) ?_
    refine fd (a := sls hC 53 2 v' f.held) ?_
    refine E_give ?_
    refine sm (G := cel true a 81 [.map (some r1), .map (some r2), I M.now] :: dct kL true r1 kf :: dct kL true r2 (dput ks f.name (shV ⟨f.name, f.time, f.held⟩ v')) :: spool vC Lv :: spool rfC Lr :: spool hC ((v', f.held) :: Lh) :: cel true b3 60 (faL f rv hv mv) :: H) ?_
    exact E_bkS (M := { M with S := insS M.S ⟨f.name, f.time, f.held⟩ }) r1 r2 hf (sok_put hs CellI.pf (sof_insS (s := ⟨f.name, f.time, f.held⟩) (ok.k5 h5).2.1) (by simp) (fun _ h => List.mem_cons_of_mem _ h)) rfl (fin _ rfl)
  rw [if_neg h5] at fin
  by_cases h6 : f.k = 6
  · rw [if_pos h6] at fin
    refine E_bk fun r1 r2 kf ks Lv Lr Lh hf hs => ?_
    obtain ⟨s0, hv0, hrh, hlk, hsi, hst, _⟩ := sok_get hs f.name
    obtain ⟨s, hss⟩ := Option.isSome_iff_exists.1 (ok.k6 h6)
    have := hst s hss
    subst this
    obtain ⟨hsm, hsn⟩ := sof_some hss
    have ih := hrh B
    (repeat first | refine gS ?_ | refine gA fun _ => ?_ | refine gX fun _ _ => ?_ | refine gT ?_ | refine gF ?_ | refine gI ?_)
    refine E_dlkz hlk ?_
    (repeat first | refine gS ?_ | refine gA fun _ => ?_ | refine gX fun _ _ => ?_ | refine gT ?_ | refine gF ?_ | refine gI ?_)
    rename_i b7
    refine E_rck1 (E_dlkz hlk (E_fact rfl)) ?_
    (repeat (refine E_rck1 (by first | exact E_ld (E_fact rfl) | exact E_ld' (by assumption) (E_fact rfl) | exact E_b2sR (E_fact rfl) | exact E_gdnF (by assumption) (E_ld (E_fact rfl)) | exact E_gdT (by assumption) (E_ld (E_fact rfl)) | exact E_gtf (E_ld (E_fact rfl)) | exact E_gft (E_ld (E_fact rfl)) | exact E_ldNA (E_fact rfl) | exact E_ptld (E_fact rfl) | exact E_gtf (E_ldNA (E_fact rfl))) ?_)); (first | (refine E_rck0 ?_) | skip)
    refine E_stW (vs := [str s0.name, I s0.time, hv0.1]) rfl rfl ?_
    (repeat first | refine gS ?_ | refine gT ?_ | refine gF ?_)
    refine E_ddel (κ := List UInt8) rfl key_shots ?_
    (repeat first | refine gS ?_ | refine gA fun _ => ?_)
    refine fd (a := spool hC Lh) (pool_dup ?_)
    refine sm (G := cel true a 81 [.map (some r1), .map (some r2), I M.now] :: dct kL true r1 kf :: dct kL true r2 (ddel ks f.name) :: spool vC Lv :: spool rfC Lr :: spool hC Lh :: spool hC Lh :: cel true b3 60 (faL f rv hv mv) :: H) ?_
    refine E_bkS (M := { M with S := M.S.filter fun s => decide (s.name ≠ f.name) }) r1 r2 hf (sok_del hs fun k' => sof_filter _ _ _) rfl ?_
    have hhl := hw.hh s0 hsm
    clear hf hs hlk
    refine E_loop (n := 4) (σ := Nat) (fun i => i ≤ s0.held.length) (fun i => [ptr a, hv0.1, I s0.held.length, I i])
      (fun i => bk a { M with S := M.S.filter fun s => decide (s.name ≠ f.name), V := swL (M.S.filter fun s => decide (s.name ≠ f.name)) M.V ((s0.held.take i).map (·.1)) } :: spool hC Lh :: cel true b3 60 (faL f rv hv mv) :: H) (fun i => s0.held.length - i) 0 (fun _ => rfl) rfl (Nat.zero_le _)
      (fun W hW => by
        rw [List.take_zero, List.map_nil, swL_nil] at hW
        exact sm hW) ?_
    rintro i K0 hi hk0
    refine E_fa fun _ => ?_
    refine E_lss ?_
    refine E_if (fun hc1 => ?_) (fun hc1 => ?_)
    · have hx : s0.held[i]? = some s0.held[i] := List.getElem?_eq_getElem (by omega)
      generalize s0.held[i] = x at hx
      have iv : Rs B (bk a { M with S := M.S.filter fun s => decide (s.name ≠ f.name), V := swL (M.S.filter fun s => decide (s.name ≠ f.name)) M.V ((s0.held.take i).map (·.1)) } :: spool hC Lh :: cel true b3 60 (faL f rv hv mv) :: H) hv0.1 hC s0.held := rs_there (h := ih _)
      refine E_rsix (v := hv0.1) (l := s0.held) hx fun _ _ => ?_
      refine E_ptldA ?_
      refine E_box fun b9 => ?_
      refine E_stW (vs := hC x) rfl rfl ?_
      (repeat first | refine gS ?_ | refine gA fun _ => ?_)
      refine fd (a := bk a { M with S := M.S.filter fun s => decide (s.name ≠ f.name), V := swL (M.S.filter fun s => decide (s.name ≠ f.name)) M.V ((s0.held.take i).map (·.1)) }) (sweep (k := x.1) (fun s hs => ?_) (fun s hs => ?_) ?_ ?_)
      · have hs1 := List.mem_filter.1 hs
        rw [sof_filter, if_neg (by simpa using hs1.2)]
        exact hw.su s hs1.1
      · exact Nat.le_trans (hw.hh s (List.mem_filter.1 hs).1) (by decide)
      · refine Nat.le_trans (?_ : _ ≤ (fof M.V x.1).length) (by have := hfl x.1; omega)
        show (fof (swL _ M.V _) x.1).length ≤ _
        unfold swL
        rw [fof_filter]
        exact List.length_filter_le _ _
      · refine E_addI (by omega) (by omega) ?_
        have hk1 := hk0 (i + 1) (by omega) (by omega)
        rw [List.take_add_one, hx, List.map_append, Option.toList_some, List.map_singleton, ← swL_snoc] at hk1
        exact sm hk1
    · have hie : i = s0.held.length := by omega
      subst hie
      rw [List.take_length]
      have hfin := fin _ rfl
      rw [← hsn, ← swL_all hw.sw (by rw [hsn]; exact hss) hw.su, hsn] at hfin
      exact sm hfin
  rw [if_neg h6] at fin
  by_cases h7 : f.k = 7
  · rw [if_pos h7] at fin
    (repeat first | refine gS ?_ | refine gA fun _ => ?_ | refine gX fun _ _ => ?_ | refine gT ?_ | refine gF ?_ | refine gI ?_)
    have : ∀ G, Rs B (G ++ (cel true b3 60 (faL f rv hv mv) :: H)) mv mvC f.moves := fun G => rs_midA G [cel true b3 60 (faL f rv hv mv)] hr3
    refine fd (a := bk a M) (moved (ms := f.moves) hw (by omega) ?_)
    exact sm (fin _ rfl)
  rw [if_neg h7] at fin
  by_cases h9' : f.k = 9
  · rw [if_pos h9'] at fin
    have hru := h9 h9'
    simp only [ruleB, Bool.and_eq_true, decide_eq_true_eq, numB_iff] at hru
    have hkeep : keepOk f = true := decide_eq_true (by omega)
    (repeat first | refine gS ?_ | refine gA fun _ => ?_ | refine gX fun _ _ => ?_ | refine gT ?_ | refine gF ?_ | refine gI ?_)
    refine gY ?_
    refine fd (a := bk a M) (expire (f := f) hw (by omega) fun v _ => ?_)
    rw [if_pos hkeep, if_pos hkeep]
    (repeat first | refine gS ?_ | refine gA fun _ => ?_)
    have hxn : ∀ x ∈ expireL M f, x.1.length ≤ 1000 := fun x hx => by
      obtain ⟨k, hk, hxk⟩ := List.mem_flatMap.1 hx
      obtain ⟨j, _, hj⟩ := List.mem_filterMap.1 hxk
      obtain ⟨w, hw1, hw2⟩ := nms_mem.1 hk
      have hok := hw.nm w hw1
      have : x.1 = k := by
        split at hj
        · cases hj
        · split at hj
          · cases hj
          · cases hj; rfl
      rw [this, ← hw2]
      simp only [nameOk, decide_eq_true_eq] at hok
      omega
    have hrec' := hrec h9'
    have hLl := expireL_len hw f
    generalize hL : expireL M f = L at fin hxn hLl ⊢
    refine E_loop (n := 4) (σ := Nat) (fun i => i ≤ L.length) (fun i => [ptr a, v, I L.length, I i])
      (fun i => bk a ((L.take i).foldl stepD M) :: sls hC 53 2 v L :: cel true b3 60 (faL f rv hv mv) :: H) (fun i => L.length - i) 0 (fun _ => rfl) rfl (Nat.zero_le _) (fun W hW => by
        rw [List.take_zero, List.foldl_nil] at hW
        exact sm hW) ?_
    rintro i K0 hi hk0
    refine E_fa fun _ => ?_
    refine E_lss ?_
    refine E_if (fun hc1 => ?_) (fun hc1 => ?_)
    · have hx : L[i]? = some L[i] := List.getElem?_eq_getElem (by omega)
      have hxm := List.mem_of_getElem? hx
      generalize L[i] = x at hx hxm
      refine E_rsix (v := v) (l := L) hx fun _ _ => ?_
      refine E_ptldA ?_
      refine E_box fun b9 => ?_
      refine E_stW (vs := hC x) rfl rfl ?_
      (repeat first | refine gS ?_ | refine gA fun _ => ?_)
      refine E_build (l := faL (dropF x) nil nil nil) str_fact ?_
      refine fd (a := bk a ((L.take i).foldl stepD M)) (hrec' _ x _ _ (hw.fold _) (hxn x hxm) fun e => ?_)
      refine E_addI (by omega) (by omega) ?_
      have hk1 := hk0 (i + 1) (by omega) (by omega)
      rw [List.take_add_one, hx, List.foldl_append, Option.toList_some, List.foldl_cons, List.foldl_nil] at hk1
      exact sm hk1
    · have hie : i = L.length := by omega
      subst hie
      rw [List.take_length]
      exact sm (fin _ rfl)
  rw [if_neg h9'] at fin
  (repeat first | refine gS ?_ | refine gA fun _ => ?_ | refine gX fun _ _ => ?_ | refine gT ?_ | refine gF ?_ | refine gI ?_)
  exact sm (fin _ rfl)
theorem stepD_eq (M : Bk) (x : List UInt8 × Int) : stepM M (dropF x) = stepD M x := rfl
theorem apply [CellI rv] [CellI hv] [CellI mv] [hr1 : Rs B H rv rfC f.refs] [hr2 : Rs B H hv hC f.held] [hr3 : ∀ G, Rs B (G ++ H) mv mvC f.moves] (ho : FaOk f) (hw : Inv M)
    (h : E B (bk a (stepM M f) :: H) (K (I (checkB M f)))) : E B (bk a M :: H) (CF Tryz.prog 23 [ptr a, .agg (faL f rv hv mv).toArray] K) := by
  have rn : ∀ {α : Type} {enc : α → List Value} (H' : List Asrt), Rs B H' nil enc [] := fun H' => ⟨fun _ => .inl ⟨rfl, rfl, rfl⟩⟩
  refine apply0 ho hw (fun _ M' x H' K' hw' hx hk => ?_) h
  have i1 : Rs B H' nil rfC (dropF x).refs := rn (enc := rfC) H'
  have i2 : Rs B H' nil hC (dropF x).held := rn (enc := hC) H'
  have i3 : ∀ G, Rs B (G ++ H') nil mvC (dropF x).moves := fun G => rn (enc := mvC) _
  refine apply0 (f := dropF x) (hr1 := i1) (hr2 := i2) (hr3 := i3) ⟨by show x.1.length ≤ _; omega, Nat.zero_le _, Nat.zero_le _, Nat.zero_le _, fun h hh => by cases hh⟩ hw' (fun e => by cases e) ?_
  rw [stepD_eq]
  exact hk _
end Go.Proofs.YtjafpncngmbcdaaGreat.Nam
end
section
namespace Go.Proofs.YtjafpncngmbcdaaGreat.Nam
open Go Go.SL Go.Proofs Go.Proofs.YtjafpncngmbcdaaGreat.Sh
variable {B : World} {H : List Asrt} {K : Value → WT} {W : WT} {a : Nat} {M : Bk} {f : Fa}
def newG (V : List Ver) (n : List UInt8) : Int := topG (liveL V n)
def newestL (M : Bk) : List (List UInt8 × Int) := (nms M.V).filterMap fun k => if 0 < newG M.V k then some (k, newG M.V k) else none
def liveV (V : List Ver) (n : List UInt8) (g : Int) : Option Ver := match genV V n g with | none => none | some v => if v.gone then none else some v
def getM (V : List Ver) (n : List UInt8) (g : Int) : Option Ver := liveV V n (if g = 0 then newG V n else g)
def viaM (M : Bk) (s n : List UInt8) : Option Ver := match sof M.S s with
  | none => none
  | some t => match t.held.find? (fun h => decide (h.1 = n)) with
    | none => none
    | some h => genV M.V h.1 h.2
theorem liveB_liveV (V : List Ver) (n : List UInt8) (g : Int) : liveB V n g = (liveV V n g).isSome := by
  unfold liveB liveV
  cases genV V n g with
  | none => rfl
  | some v => cases h : v.gone <;> simp [h]
theorem topG_snoc (l : List Ver) (v : Ver) : topG (l ++ [v]) = v.gen := by simp [topG]
attribute [local irreducible] S.pick S.ld S.ldN S.st S.box S.nc S.fad S.ixS S.ixA S.chr S.prt S.ext S.bin S.sh S.sbin S.beq S.neg1 S.com1 S.not1 S.cvt S.str1 S.lenS S.len S.cap S.lenM S.mx S.mn S.mkM S.cond S.gd S.fa S.dr S.rck S.join S.loop S.cvv S.eqv S.slc S.slcS S.b2s S.lk V U CF Gives E cel mpb osl ros dct dit itr lpo dfo
set_option maxRecDepth 8000
attribute [local irreducible] bk
theorem now (h : E B (bk a M :: H) (K (I M.now))) : E B (bk a M :: H) (CF Tryz.prog 24 [ptr a] K) := by
  refine E_mono (W := s24 _ K) ?_ fun _ => c24
  unfold s24
  refine E_peq u_pBook ?_
  refine E_ff ?_
  refine E_bk fun r1 r2 kf ks Lv Lr Lh hf hs => ?_
  (repeat first | refine gS ?_ | refine gA fun _ => ?_ | refine gX fun _ _ => ?_ | refine gT ?_ | refine gF ?_ | refine gI ?_)
  refine sm (G := cel true a 81 [.map (some r1), .map (some r2), I M.now] :: dct kL true r1 kf :: dct kL true r2 ks :: spool vC Lv :: spool rfC Lr :: spool hC Lh :: H) ?_
  exact E_bkS r1 r2 hf hs rfl h
theorem newest {n : List UInt8} (hn : (fof M.V n).length ≤ 1000000) (h : E B (bk a M :: H) (K (I (newG M.V n)))) : E B (bk a M :: H) (CF Tryz.prog 40 [ptr a, str n] K) := by
  refine E_mono (W := s40 _ _ K) ?_ fun _ => c40
  unfold s40
  refine E_bk fun r1 r2 kf ks Lv Lr Lh hf hs => ?_
  have hend := E_bkS (a := a) (M := M) r1 r2 (n := M.now) hf hs rfl h
  obtain ⟨v, l, hrv, hle, hlr, hlk⟩ := fok_get hf n
  have i1 := hrv B
  have hll : l.length = (fof M.V n).length := by rw [← hle, List.length_map]
  (repeat first | refine gS ?_ | refine gA fun _ => ?_ | refine gX fun _ _ => ?_ | refine gT ?_ | refine gF ?_ | refine gI ?_)
  refine E_dlkg hlk ?_
  refine E_rslen (v := v) (l := l) ?_
  refine E_loop (n := 4) (σ := Nat) (fun i => i ≤ l.length) (fun i => [I (topG ((l.take i).filter (fun p => !p.1.gone) |>.map (·.1))), v, I l.length, I i]) (fun _ => cel true a 81 [.map (some r1), .map (some r2), I M.now] :: dct kL true r1 kf :: dct kL true r2 ks :: spool vC Lv :: spool rfC Lr :: spool hC Lh :: H) (fun i => l.length - i) 0 (fun _ => rfl) rfl (Nat.zero_le _) (fun W hW => sm hW) ?_
  rintro i K0 hi hk0
  refine E_fa fun _ => ?_
  refine E_lss ?_
  refine E_if (fun hc1 => ?_) (fun hc1 => ?_)
  · have hx : l[i]? = some l[i] := List.getElem?_eq_getElem (by omega)
    generalize l[i] = x at hx
    refine E_join1 [I (topG ((l.take (i + 1)).filter (fun p => !p.1.gone) |>.map (·.1))), v, I l.length, I i] (cel true a 81 [.map (some r1), .map (some r2), I M.now] :: dct kL true r1 kf :: dct kL true r2 ks :: spool vC Lv :: spool rfC Lr :: spool hC Lh :: H) (fun q hq => ?_) ?_
    · rw [List.take_add_one, hx, List.filter_append, List.map_append] at hq
      refine E_rsix (v := v) (l := l) hx fun _ _ => ?_
      refine E_ptldA ?_
      refine E_box fun b7 => ?_
      refine E_stW (vs := vC x) rfl rfl ?_
      (repeat first | refine gS ?_ | refine gA fun _ => ?_ | refine gX fun _ _ => ?_ | refine gT ?_ | refine gF ?_ | refine gI ?_)
      cases hg : x.1.gone with
      | false =>
        (repeat first | refine gS ?_ | refine gA fun _ => ?_ | refine gX fun _ _ => ?_ | refine gT ?_ | refine gF ?_ | refine gI ?_)
        simp only [Option.toList_some, List.filter_cons, hg, Bool.not_false, if_true, List.filter_nil, List.map_cons, List.map_nil, topG_snoc] at hq
        exact sm hq
      | true =>
        (repeat first | refine gS ?_ | refine gA fun _ => ?_ | refine gX fun _ _ => ?_ | refine gT ?_ | refine gF ?_ | refine gI ?_)
        simp only [Option.toList_some, List.filter_cons, hg, Bool.not_true, Bool.false_eq_true, if_false, List.filter_nil, List.map_nil, List.append_nil] at hq
        exact sm hq
    · refine E_fa fun _ => ?_
      refine E_addI (by omega) (by omega) ?_
      exact hk0 (i + 1) (by omega) (by omega)
  · have hie : i = l.length := by omega
    subst hie
    have e : ((l.filter (fun p => !p.1.gone)).map (·.1)) = liveL M.V n := by
      unfold liveL; rw [← hle, List.filter_map]; rfl
    rw [List.take_length, e]
    exact sm hend
theorem newestAll (hw : Inv M) (h : ∀ v [CellI v], E B (sls hC 53 2 v (newestL M) :: bk a M :: H) (K v)) : E B (bk a M :: H) (CF Tryz.prog 22 [ptr a] K) := by
  have hnl := hw.nl
  unfold newestL at h
  refine E_mono (W := s22 _ K) ?_ fun _ => c22
  unfold s22
  refine order hw.v.n (by have := hw.n; omega) fun nv _ => ?_
  refine E_rslen (v := nv) (l := nms M.V) ?_
  refine E_loop (n := 5) (σ := Nat × Value × List (List UInt8 × Int)) (fun s => s.1 ≤ (nms M.V).length ∧ isCell s.2.1 = true ∧ s.2.2 = ((nms M.V).take s.1).filterMap (fun k => if 0 < newG M.V k then some (k, newG M.V k) else none) ∧ s.2.2.length ≤ s.1)
    (fun s => [ptr a, s.2.1, nv, I (nms M.V).length, I s.1]) (fun s => sls hC 53 2 s.2.1 s.2.2 :: bk a M :: sls cS 9 1 nv (nms M.V) :: H) (fun s => (nms M.V).length - s.1) (0, nil, []) (fun _ => rfl) rfl ⟨Nat.zero_le _, rfl, rfl, Nat.le_refl _⟩
    (fun W hW => by
      refine sls_nil hC 2 (T := 53) ?_
      exact sm hW) ?_
  rintro ⟨i, ov, zs⟩ K0 ⟨hi, hov, hzs, hzl⟩ hk0
  simp only at hi hov hzs hzl hk0 ⊢
  have : CellI ov := ⟨hov⟩
  refine E_fa fun _ => ?_
  refine E_lss ?_
  refine E_if (fun hc1 => ?_) (fun hc1 => ?_)
  · have hx : (nms M.V)[i]? = some (nms M.V)[i] := List.getElem?_eq_getElem (by omega)
    generalize (nms M.V)[i] = k at hx
    refine E_joinC (σ := Value × List (List UInt8 × Int)) (fun s => isCell s.1 = true ∧ s.2 = ((nms M.V).take (i + 1)).filterMap (fun k => if 0 < newG M.V k then some (k, newG M.V k) else none) ∧ s.2.length ≤ i + 1)
      (fun s => [ptr a, s.1, nv, I (nms M.V).length, I i]) (fun s => sls hC 53 2 s.1 s.2 :: bk a M :: sls cS 9 1 nv (nms M.V) :: H) (fun q hq => ?_) (fun s hs => ?_)
    · refine E_rsix (v := nv) (l := nms M.V) hx fun _ _ => ?_
      refine E_ptld ?_
      refine fd (a := bk a M) (newest (by have := hw.fl k; omega) ?_)
      rw [List.take_add_one, hx, List.filterMap_append, ← hzs] at hq
      refine E_gtr ?_
      refine E_if (fun hg => ?_) (fun hg => ?_)
      · simp only [Option.toList_some, List.filterMap_cons, hg, if_true, List.filterMap_nil] at hq
        refine E_build (l := [str k, I (newG M.V k)]) str_held ?_
        refine fd (a := sls hC 53 2 ov zs) ?_
        refine E_sapp1 (enc := hC) (k, newG M.V k) u_helds elt_held rfl (by decide) (by omega) (by omega) fun v' hv' => ?_
        have := hq (v', zs ++ [(k, newG M.V k)]) ⟨hv'.pf, rfl, by simp; omega⟩
        exact sm this
      · simp only [Option.toList_some, List.filterMap_cons, hg, if_false, List.filterMap_nil, List.append_nil] at hq
        have := hq (ov, zs) ⟨hov, rfl, by simp only; omega⟩
        exact sm this
    · obtain ⟨v', zs'⟩ := s
      obtain ⟨h1, h2, h3⟩ := hs
      refine E_fa fun _ => ?_
      refine E_addI (by omega) (by omega) ?_
      exact hk0 (i + 1, v', zs') ⟨by simp only; omega, h1, h2, by simpa using h3⟩ (by simp only; omega)
  · have hie : i = (nms M.V).length := by omega
    subst hie
    rw [List.take_length] at hzs
    subst hzs
    exact sm (h ov)
theorem atO {r1 r2 : Nat} {kf ks : List (List UInt8 × Value)} {Lv : List (Value × List VR)} {Lr : List (Value × List Rf)} {Lh : List (Value × List (List UInt8 × Int))} {n : List UInt8} {g : Int} (hf : FOk Lv Lr kf M.V) (hn : (fof M.V n).length ≤ 140737488355328)
    (h : E B (cel true a 81 [.map (some r1), .map (some r2), I M.now] :: dct kL true r1 kf :: dct kL true r2 ks :: spool vC Lv :: spool rfC Lr :: spool hC Lh :: H) (K (I (idxI ((fof M.V n).findIdx? (genP g)))))) : E B (cel true a 81 [.map (some r1), .map (some r2), I M.now] :: dct kL true r1 kf :: dct kL true r2 ks :: spool vC Lv :: spool rfC Lr :: spool hC Lh :: H) (CF Tryz.prog 43 [ptr a, .agg #[str n, I g]] K) := by
  refine E_mono (W := s43 _ _ K) ?_ fun _ => c43
  unfold s43
  refine E_box (vs := [str n, I g]) fun b => ?_
  (repeat first | refine gS ?_ | refine gA fun _ => ?_ | refine gX fun _ _ => ?_ | refine gT ?_ | refine gF ?_ | refine gI ?_)
  rcases hf n with ⟨h1, h2⟩ | ⟨v, l, h1, h2, h3⟩
  · refine E_dlk0 (κ := List UInt8) h1 ?_
    refine fd (a := cel true b 53 [str n, I g]) ?_
    refine idxGen (l := []) (hv := ⟨fun _ => .inl ⟨rfl, rfl, rfl⟩⟩) (by simp) ?_
    rw [h2] at h
    exact sm h
  · refine E_dlk1 (κ := List UInt8) h1 ?_
    have rv := rs_pool (B := B) (enc := vC) h2.m
    refine fd (a := cel true b 53 [str n, I g]) ?_
    refine idxGen (l := l) (by rw [← h2.e] at hn; simpa using hn) ?_
    rw [idx_map h2.e]
    exact sm h
theorem liveO {r1 r2 : Nat} {kf ks : List (List UInt8 × Value)} {Lv : List (Value × List VR)} {Lr : List (Value × List Rf)} {Lh : List (Value × List (List UInt8 × Int))} {n : List UInt8} {g : Int} (hf : FOk Lv Lr kf M.V) (hn : (fof M.V n).length ≤ 140737488355328)
    (h : E B (cel true a 81 [.map (some r1), .map (some r2), I M.now] :: dct kL true r1 kf :: dct kL true r2 ks :: spool vC Lv :: spool rfC Lr :: spool hC Lh :: H) (K (.bool (liveB M.V n g)))) : E B (cel true a 81 [.map (some r1), .map (some r2), I M.now] :: dct kL true r1 kf :: dct kL true r2 ks :: spool vC Lv :: spool rfC Lr :: spool hC Lh :: H) (CF Tryz.prog 41 [ptr a, .agg #[str n, I g]] K) := by
  have fin : ∀ b : Bool, liveB M.V n g = b → E B (cel true a 81 [.map (some r1), .map (some r2), I M.now] :: dct kL true r1 kf :: dct kL true r2 ks :: spool vC Lv :: spool rfC Lr :: spool hC Lh :: H) (K (.bool b)) := fun b hb => hb ▸ h
  unfold liveB genV at fin
  refine E_mono (W := s41 _ _ K) ?_ fun _ => c41
  unfold s41
  refine E_box (vs := [str n, I g]) fun b => ?_
  (repeat first | refine gS ?_ | refine gA fun _ => ?_ | refine gX fun _ _ => ?_ | refine gT ?_ | refine gF ?_ | refine gI ?_)
  refine sm (G := cel true a 81 [.map (some r1), .map (some r2), I M.now] :: dct kL true r1 kf :: dct kL true r2 ks :: spool vC Lv :: spool rfC Lr :: spool hC Lh :: cel true b 53 [str n, I g] :: H) ?_
  refine atO hf hn ?_
  rcases fi (fof M.V n) (genP g) with ⟨e1, e2⟩ | ⟨i, x, e1, e2, e3⟩
  · rw [e1, show idxI none = (-1 : Int) from rfl]
    (repeat first | refine gS ?_ | refine gA fun _ => ?_ | refine gX fun _ _ => ?_ | refine gT ?_ | refine gF ?_ | refine gI ?_)
    exact sm (fin false (by rw [show (fun v : Ver => decide (v.gen = g)) = genP g from rfl, e2]))
  · rw [e1, show idxI (some i) = (i : Int) from rfl]
    have hi : (0 : Int) ≤ (i : Int) := by omega
    rcases hf n with ⟨h1, h2⟩ | ⟨v, l, h1, h2, h3⟩
    · rw [h2] at e2; cases e2
    have rv := rs_pool (B := B) (enc := vC) h2.m
    (repeat first | refine gS ?_ | refine gA fun _ => ?_ | refine gX fun _ _ => ?_ | refine gT ?_ | refine gF ?_ | refine gI ?_)
    refine E_dlk1 (κ := List UInt8) h1 ?_
    have hx : ∃ p, l[i]? = some p ∧ p.1 = x := by
      rw [← h2.e, List.getElem?_map] at e2
      cases hp : l[i]? with
      | none => rw [hp] at e2; cases e2
      | some p => rw [hp] at e2; exact ⟨p, rfl, Option.some.inj e2⟩
    obtain ⟨p, hp, hpx⟩ := hx
    (repeat first | refine gS ?_ | refine gA fun _ => ?_ | refine gX fun _ _ => ?_ | refine gT ?_ | refine gF ?_ | refine gI ?_)
    refine gY ?_
    (repeat first | refine gS ?_ | refine gA fun _ => ?_ | refine gX fun _ _ => ?_ | refine gT ?_ | refine gF ?_ | refine gI ?_)
    refine sm (fin _ ?_)
    rw [show (fun v : Ver => decide (v.gen = g)) = genP g from rfl, e3, hpx]
theorem get {n : List UInt8} {g : Int} (hw : Inv M) (h0 : getM M.V n g = none → E B (bk a M :: H) (K (.tuple #[.agg #[I 0, I 0, nil, .bool false], I 9])))
    (h1 : ∀ v (c : Value) [CellI c], getM M.V n g = some v → E B (sls rfC 38 35 c v.refs :: bk a M :: H) (K (.tuple #[.agg #[I v.gen, I v.time, c, .bool v.gone], I 0]))) :
    E B (bk a M :: H) (CF Tryz.prog 11 [ptr a, str n, I g] K) := by
  have hfl := hw.fl n
  refine E_mono (W := s11 _ _ _ K) ?_ fun _ => c11
  unfold s11
  refine E_box (vs := [I 0, I 0, nil, .bool false]) fun b6 => ?_
  refine E_peq u_pBook ?_
  refine E_ff ?_
  refine E_join1 [ptr a, str n, I (if g = 0 then newG M.V n else g), ptr b6] (bk a M :: cel true b6 31 [I 0, I 0, nil, .bool false] :: H) (fun q hq => ?_) ?_
  · refine E_eql ?_
    refine E_if (fun hc => ?_) (fun hc => ?_)
    · rw [if_pos hc] at hq
      refine fd (a := bk a M) (newest (by omega) ?_)
      exact sm hq
    · rw [if_neg hc] at hq
      exact sm hq
  refine E_fa fun _ => ?_
  unfold getM at h0 h1
  generalize (if g = 0 then newG M.V n else g) = g' at h0 h1 ⊢
  refine E_build (l := [str n, I g']) str_held ?_
  (repeat first | refine gS ?_ | refine gA fun _ => ?_ | refine gX fun _ _ => ?_ | refine gT ?_ | refine gF ?_ | refine gI ?_)
  rename_i b8
  refine fd (a := bk a M) (E_bk fun r1 r2 kf ks Lv Lr Lh hf hs => ?_)
  have hend0 := fun e => E_bkS (a := a) (M := M) r1 r2 (n := M.now) hf hs rfl (h0 e)
  refine sm (G := cel true a 81 [.map (some r1), .map (some r2), I M.now] :: dct kL true r1 kf :: dct kL true r2 ks :: spool vC Lv :: spool rfC Lr :: spool hC Lh :: cel true b8 53 [str n, I g'] :: cel true b6 31 [I 0, I 0, nil, .bool false] :: H) ?_
  refine liveO hf (by omega) ?_
  rw [liveB_liveV]
  cases hl : liveV M.V n g' with
  | none =>
    rw [Option.isSome_none]
    (repeat first | refine gS ?_ | refine gA fun _ => ?_ | refine gX fun _ _ => ?_ | refine gT ?_ | refine gF ?_ | refine gI ?_)
    refine E_build (l := [I 0, I 0, nil, .bool false]) str_ver ?_
    (repeat first | refine gS ?_ | refine gA fun _ => ?_ | refine gX fun _ _ => ?_ | refine gT ?_ | refine gF ?_ | refine gI ?_)
    exact sm (hend0 hl)
  | some x =>
    rw [Option.isSome_some]
    (repeat first | refine gS ?_ | refine gA fun _ => ?_ | refine gX fun _ _ => ?_ | refine gT ?_ | refine gF ?_ | refine gI ?_)
    obtain ⟨v, l, hrv, hle, hlr, hlk⟩ := fok_get hf n
    have i1 := hrv B
    refine E_dlkg hlk ?_
    (repeat first | refine gS ?_ | refine gA fun _ => ?_ | refine gX fun _ _ => ?_ | refine gT ?_ | refine gF ?_ | refine gI ?_)
    refine sm (G := cel true a 81 [.map (some r1), .map (some r2), I M.now] :: dct kL true r1 kf :: dct kL true r2 ks :: spool vC Lv :: spool rfC Lr :: spool hC Lh :: cel true b8 53 [str n, I g'] :: cel true b6 31 [I 0, I 0, nil, .bool false] :: H) ?_
    refine atO hf (by omega) ?_
    have hgx : genV M.V n g' = some x := by
      unfold liveV at hl
      cases hg : genV M.V n g' with
      | none => rw [hg] at hl; cases hl
      | some y =>
        rw [hg] at hl
        simp only at hl
        split at hl
        · cases hl
        · exact hl
    rcases fi (fof M.V n) (genP g') with ⟨e1, e2⟩ | ⟨i, x', e1, e2, e3⟩
    · unfold genV at hgx
      rw [show (fun v : Ver => decide (v.gen = g')) = genP g' from rfl, e2] at hgx; cases hgx
    unfold genV at hgx
    rw [show (fun v : Ver => decide (v.gen = g')) = genP g' from rfl, e3] at hgx
    cases hgx
    rw [e1, show idxI (some i) = (i : Int) from rfl]
    refine E_rck1 (E_dlkg hlk (E_fact rfl)) ?_
    (repeat (refine E_rck1 (by first | exact E_ld (E_fact rfl) | exact E_ld' (by assumption) (E_fact rfl) | exact E_b2sR (E_fact rfl) | exact E_gdnF (by assumption) (E_ld (E_fact rfl)) | exact E_gdT (by assumption) (E_ld (E_fact rfl)) | exact E_gtf (E_ld (E_fact rfl)) | exact E_gft (E_ld (E_fact rfl)) | exact E_ldNA (E_fact rfl) | exact E_ptld (E_fact rfl) | exact E_gtf (E_ldNA (E_fact rfl))) ?_)); (first | (refine E_rck0 ?_) | skip)
    have hp : ∃ p, l[i]? = some p ∧ p.1 = x := by
      rw [← hle, List.getElem?_map] at e2
      cases hp : l[i]? with
      | none => rw [hp] at e2; cases e2
      | some p => rw [hp] at e2; exact ⟨p, rfl, Option.some.inj e2⟩
    obtain ⟨p, hp, hpx⟩ := hp
    subst hpx
    have hxm := fof_mem.1 (List.mem_of_getElem? e2)
    refine E_rsix (v := v) (l := l) hp fun _ _ => ?_
    refine E_ptldA ?_
    have rr := rs_pool (B := B) (enc := rfC) (hlr p (List.mem_of_getElem? hp))
    refine fd (a := spool rfC Lr) ?_
    refine copied (v := p.2.1) (l := p.1.refs) (by have := hw.r _ hxm.1; omega) fun v' _ => ?_
    (repeat first | refine gS ?_ | refine gA fun _ => ?_ | refine gX fun _ _ => ?_ | refine gT ?_ | refine gF ?_ | refine gI ?_)
    have h1' := E_bkS (a := a) (M := M) (H := sls rfC 38 35 v' p.1.refs :: H) r1 r2 (n := M.now) hf hs rfl (sm (h1 p.1 v' hl))
    exact sm h1'
theorem via {s n : List UInt8} (hw : Inv M) (h0 : viaM M s n = none → E B (bk a M :: H) (K (.tuple #[.agg #[I 0, I 0, nil, .bool false], I 9])))
    (h1 : ∀ v (c : Value) [CellI c], viaM M s n = some v → E B (sls rfC 38 35 c v.refs :: bk a M :: H) (K (.tuple #[.agg #[I v.gen, I v.time, c, .bool v.gone], I 0]))) :
    E B (bk a M :: H) (CF Tryz.prog 13 [ptr a, str s, str n] K) := by
  have hfl := hw.fl
  refine E_mono (W := s13 _ _ _ K) ?_ fun _ => c13
  unfold s13
  refine E_box (vs := [str n]) fun b5 => ?_
  refine E_box (vs := [I 0, I 0, nil, .bool false]) fun b6 => ?_
  refine E_peq u_pBook ?_
  refine E_ff ?_
  refine fd (a := bk a M) (E_bk fun r1 r2 kf ks Lv Lr Lh hf hs => ?_)
  have hend0 := fun e => E_bkS (a := a) (M := M) r1 r2 (n := M.now) hf hs rfl (h0 e)
  obtain ⟨s0, hv0, hrh, hlks, _, hst, hnil⟩ := sok_get hs s
  have ih := hrh B
  (repeat first | refine gS ?_ | refine gA fun _ => ?_ | refine gX fun _ _ => ?_ | refine gT ?_ | refine gF ?_ | refine gI ?_)
  refine E_dlkz hlks ?_
  (repeat first | refine gS ?_ | refine gA fun _ => ?_)
  have hsl : s0.held.length ≤ 64 := by
    cases hsf : sof M.S s with
    | none => rw [hnil hsf]; exact Nat.zero_le _
    | some t => rw [hst t hsf]; exact hw.hh t (sof_some hsf).1
  have hvia : viaM M s n = match s0.held.find? (fun h => decide (h.1 = n)) with | none => none | some h => genV M.V h.1 h.2 := by
    unfold viaM
    cases hsf : sof M.S s with
    | none => rw [hnil hsf]; rfl
    | some t => rw [hst t hsf]
  refine E_mono (W := s45 _ _ _) ?_ fun _ => c45
  rw [s45_eq]
  refine sm (G := cel true b5 9 [str n] :: cel true a 81 [.map (some r1), .map (some r2), I M.now] :: dct kL true r1 kf :: dct kL true r2 ks :: spool vC Lv :: spool rfC Lr :: spool hC Lh :: cel true b6 31 [I 0, I 0, nil, .bool false] :: H) ?_
  have iv : Rs B (cel true b5 9 [str n] :: cel true a 81 [.map (some r1), .map (some r2), I M.now] :: dct kL true r1 kf :: dct kL true r2 ks :: spool vC Lv :: spool rfC Lr :: spool hC Lh :: cel true b6 31 [I 0, I 0, nil, .bool false] :: H) hv0.1 hC s0.held := inferInstance
  refine idxC_ok (C := [cel true b5 9 [str n]]) (hv := iv) (enc := hC) (p := fun h : List UInt8 × Int => decide (h.1 = n)) (by omega) (fun m hm H' K' hK => ?_) ?_
  · refine E_cvv (by kernel_rfl) ?_
    show E B (cel true b5 9 [str n] :: H') (CF Tryz.prog 46 [.agg (hC m).toArray, ptr b5] K')
    refine E_mono (W := s46 _ _ K') ?_ fun _ => c46
    unfold s46
    (repeat first | refine gS ?_ | refine gA fun _ => ?_ | refine gX fun _ _ => ?_ | refine gT ?_ | refine gF ?_ | refine gI ?_)
    have hK2 : E B (cel true b5 9 [str n] :: H') (K' (.bool (decide (m.1 = n)))) := hK
    exact sm hK2
  show E B (cel true b5 9 [str n] :: cel true a 81 [.map (some r1), .map (some r2), I M.now] :: dct kL true r1 kf :: dct kL true r2 ks :: spool vC Lv :: spool rfC Lr :: spool hC Lh :: cel true b6 31 [I 0, I 0, nil, .bool false] :: H) _
  rcases fi s0.held (fun h => decide (h.1 = n)) with ⟨e1, e2⟩ | ⟨j, y, e1, e2, e3⟩
  · rw [e1, show idxI none = (-1 : Int) from rfl]
    rw [e2] at hvia
    (repeat first | refine gS ?_ | refine gA fun _ => ?_ | refine gX fun _ _ => ?_ | refine gT ?_ | refine gF ?_ | refine gI ?_)
    refine E_build (l := [I 0, I 0, nil, .bool false]) str_ver ?_
    (repeat first | refine gS ?_ | refine gA fun _ => ?_ | refine gX fun _ _ => ?_ | refine gT ?_ | refine gF ?_ | refine gI ?_)
    exact sm (hend0 hvia)
  · rw [e1, show idxI (some j) = (j : Int) from rfl]
    rw [e3] at hvia
    have hj : ¬ (j : Int) < 0 := by omega
    have hyn : y.1 = n := by simpa using List.find?_some e3
    (repeat first | refine gS ?_ | refine gA fun _ => ?_ | refine gX fun _ _ => ?_ | refine gT ?_ | refine gF ?_ | refine gI ?_)
    obtain ⟨v, l, hrv, hle, hlr, hlk⟩ := fok_get hf n
    have i1 := hrv B
    refine E_dlkg hlk ?_
    refine E_rsix (v := hv0.1) (l := s0.held) e2 fun _ _ => ?_
    refine E_ptldA ?_
    refine sm (G := cel true a 81 [.map (some r1), .map (some r2), I M.now] :: dct kL true r1 kf :: dct kL true r2 ks :: spool vC Lv :: spool rfC Lr :: spool hC Lh :: cel true b5 9 [str n] :: cel true b6 31 [I 0, I 0, nil, .bool false] :: H) ?_
    have hfn := hfl n
    show E B _ (CF Tryz.prog 43 [ptr a, .agg #[str y.1, I y.2]] _)
    rw [hyn]
    refine atO hf (by omega) ?_
    have hsm : s0 ∈ M.S := by
      cases hsf : sof M.S s with
      | none => rw [hnil hsf] at e2; cases e2
      | some t => rw [hst t hsf]; exact (sof_some hsf).1
    obtain ⟨x, hx1, hx2, hx3⟩ := hw.se s0 hsm y (List.mem_of_getElem? e2)
    have hgx : genV M.V n y.2 = some x := by rw [← hyn, ← hx2, ← hx3]; exact hw.v.genV hx1
    simp only [hyn, hgx] at hvia
    rcases fi (fof M.V n) (genP y.2) with ⟨g1, g2⟩ | ⟨i, x', g1, g2, g3⟩
    · unfold genV at hgx
      rw [show (fun v : Ver => decide (v.gen = y.2)) = genP y.2 from rfl, g2] at hgx; cases hgx
    unfold genV at hgx
    rw [show (fun v : Ver => decide (v.gen = y.2)) = genP y.2 from rfl, g3] at hgx
    cases hgx
    rw [g1, show idxI (some i) = (i : Int) from rfl]
    refine E_rck1 (E_dlkg hlk (E_fact rfl)) ?_
    (repeat (refine E_rck1 (by first | exact E_ld (E_fact rfl) | exact E_ld' (by assumption) (E_fact rfl) | exact E_b2sR (E_fact rfl) | exact E_gdnF (by assumption) (E_ld (E_fact rfl)) | exact E_gdT (by assumption) (E_ld (E_fact rfl)) | exact E_gtf (E_ld (E_fact rfl)) | exact E_gft (E_ld (E_fact rfl)) | exact E_ldNA (E_fact rfl) | exact E_ptld (E_fact rfl) | exact E_gtf (E_ldNA (E_fact rfl))) ?_)); (first | (refine E_rck0 ?_) | skip)
    have hp : ∃ p, l[i]? = some p ∧ p.1 = x := by
      rw [← hle, List.getElem?_map] at g2
      cases hp : l[i]? with
      | none => rw [hp] at g2; cases g2
      | some p => rw [hp] at g2; exact ⟨p, rfl, Option.some.inj g2⟩
    obtain ⟨p, hp, hpx⟩ := hp
    subst hpx
    refine E_rsix (v := v) (l := l) hp fun _ _ => ?_
    refine E_ptldA ?_
    have rr := rs_pool (B := B) (enc := rfC) (hlr p (List.mem_of_getElem? hp))
    refine fd (a := spool rfC Lr) ?_
    refine copied (v := p.2.1) (l := p.1.refs) (by have := hw.r _ hx1; omega) fun v' _ => ?_
    (repeat first | refine gS ?_ | refine gA fun _ => ?_ | refine gX fun _ _ => ?_ | refine gT ?_ | refine gF ?_ | refine gI ?_)
    have h1' := E_bkS (a := a) (M := M) (H := sls rfC 38 35 v' p.1.refs :: H) r1 r2 (n := M.now) hf hs rfl (sm (h1 p.1 v' hvia))
    exact sm h1'
end Go.Proofs.YtjafpncngmbcdaaGreat.Nam
end
section
namespace Go.Proofs.YtjafpncngmbcdaaGreat.Nam
open Go Go.SL Go.Proofs Go.Proofs.YtjafpncngmbcdaaGreat.Sh
variable {B : World} {H : List Asrt} {K : Value → WT} {W : WT} {a : Nat} {M : Bk} {f : Fa}
abbrev SC := Sn × Cv
def shC (p : SC) : List Value := [str p.1.name, I p.1.time, p.2.1]
instance : Enc shC 3 := ⟨fun _ => rfl, fun p y hy => by
  simp [shC] at hy
  rcases hy with rfl | rfl | rfl
  all_goals first | rfl | exact p.2.2⟩
instance {v : SC} : AtLen (shC v) 3 := ⟨rfl⟩
instance {v : SC} : AllC (shC v) := ⟨fun y hy => Enc.cell (enc := shC) v y hy⟩
instance {v : SC} : AtI (shC v) 0 (str v.1.name) := ⟨rfl⟩
instance {v : SC} : AtI (shC v) 1 (I v.1.time) := ⟨rfl⟩
instance {v : SC} : AtI (shC v) 2 v.2.1 := ⟨rfl⟩
def ShOk (Lh : List (Value × List (List UInt8 × Int))) (L : List SC) (S : List Sn) : Prop := L.map (·.1) = S ∧ ∀ p ∈ L, (p.2.1, p.1.held) ∈ Lh
abbrev FC := List UInt8 × Cv
def fC (p : FC) : List Value := [str p.1, p.2.1]
instance : Enc fC 2 := ⟨fun _ => rfl, fun p y hy => by
  simp [fC] at hy
  rcases hy with rfl | rfl
  all_goals first | rfl | exact p.2.2⟩
instance {v : FC} : AtLen (fC v) 2 := ⟨rfl⟩
instance {v : FC} : AllC (fC v) := ⟨fun y hy => Enc.cell (enc := fC) v y hy⟩
instance {v : FC} : AtI (fC v) 0 (str v.1) := ⟨rfl⟩
instance {v : FC} : AtI (fC v) 1 v.2.1 := ⟨rfl⟩
def FsOk (Lv : List (Value × List VR)) (Lr : List (Value × List Rf)) (L : List FC) (V : List Ver) : Prop := L.map (·.1) = nms V ∧ ∀ p ∈ L, ∃ l, VOk Lv Lr p.2.1 l (fof V p.1)
theorem u_shotL : Tryz.prog.underlying 73 = some (.slice 90) := by kernel_rfl
theorem u_fileL : Tryz.prog.underlying 71 = some (.slice 86) := by kernel_rfl
theorem elt_shot : Elt Tryz.prog 90 3 48 [.string ⟨#[]⟩, I 0, nil] := elt_of (zv := .agg #[.string ⟨#[]⟩, I 0, nil]) (by kernel_rfl) rfl rfl
theorem elt_file : Elt Tryz.prog 86 2 40 [.string ⟨#[]⟩, nil] := elt_of (zv := .agg #[.string ⟨#[]⟩, nil]) (by kernel_rfl) rfl rfl
theorem str_file : Str Tryz.prog 86 [(0, 1), (1, 1)] [.string ⟨#[]⟩, nil] := str_of (zv := .agg #[.string ⟨#[]⟩, nil]) (by kernel_rfl) (by kernel_rfl) rfl
attribute [local irreducible] S.pick S.ld S.ldN S.st S.box S.nc S.fad S.ixS S.ixA S.chr S.prt S.ext S.bin S.sh S.sbin S.beq S.neg1 S.com1 S.not1 S.cvt S.str1 S.lenS S.len S.cap S.lenM S.mx S.mn S.mkM S.cond S.gd S.fa S.dr S.rck S.join S.loop S.cvv S.eqv S.slc S.slcS S.b2s S.lk V U CF Gives E cel mpb osl ros dct dit itr lpo dfo
set_option maxRecDepth 8000
attribute [local irreducible] bk
theorem sortedShots {o : Bool} {r : Nat} {kv : List (List UInt8 × Value)} {H' : List Asrt} [ht : TakD H kL o r kv H'] (hn : kv.length ≤ 1048576)
    (h : ∀ sv zs [CellI sv], zs.Perm (kv.map (·.1)) → E B (sls cS 9 1 sv (sortS zs) :: dct kL o r kv :: H') (K sv)) :
    E B H (CF Tryz.prog 88 [.map (some r)] fun v9 => CF Tryz.prog 87 [v9] K) := by
  refine E_find ht.pf ?_
  refine E_mono (W := s88 _ _) ?_ fun _ => c88
  unfold s88
  (first | refine gS ?_ | refine gA fun _ => ?_ | refine gX fun _ _ => ?_ | refine gT ?_ | refine gF ?_ | refine gI ?_)
  rename_i mb
  refine E_mono (W := s87 _ _) ?_ fun _ => c87
  unfold s87
  refine E_mono (W := s117 _ _) ?_ fun _ => c117
  unfold s117
  refine E_mono (W := s142 _ _ _) ?_ fun _ => c142
  unfold s142
  (first | refine gS ?_ | refine gA fun _ => ?_ | refine gX fun _ _ => ?_ | refine gT ?_ | refine gF ?_ | refine gI ?_)
  rename_i sb
  refine E_rf (by kernel_rfl) fun l dl L hY => ?_
  refine E_mono (W := s119 _ _ _) ?_ fun _ => c119
  unfold s119
  (repeat first | refine gS ?_ | refine gA fun _ => ?_ | refine gX fun _ _ => ?_ | refine gT ?_ | refine gF ?_ | refine gI ?_)
  refine E_drange (κ := List UInt8) u_shots fun it => ?_
  refine E_loop (σ := List (List UInt8 × Value) × Option (List UInt8 × Value) × List (List UInt8) × Value)
    (fun s => (s.2.2.1 ++ s.1.map (·.1)).Perm (kv.map (·.1)) ∧ isCell s.2.2.2 = true)
    (fun s => [.func (.yield l) #[] #[], .pointer (some ⟨it, 0, none⟩)])
    (fun s => dit kL o it r kv s.1 s.2.1 :: lpo l L .ready .nrm :: sls cS 9 1 s.2.2.2 s.2.2.1 :: cel true sb 94 [s.2.2.2] :: dfo dl :: cel true mb 79 [.map (some r)] :: H')
    (fun s => s.1.length) (kv, none, [], .slice none 0 0) (fun s => rfl) rfl ⟨by simp, rfl⟩ ?_ ?_
  · intro W hW
    refine sls_nil cS 1 (E_same (by repeat (first | exact Same.refl | (refine Same.cons (by repeat (first | exact Find.here | apply Find.there)) ?_) | (refine Same.drop ?_))) hW)
  · rintro ⟨rest, cur, zs, sv⟩ K ⟨hφ, hcl⟩ hk
    simp only at hφ hk hcl ⊢
    have : CellI sv := ⟨hcl⟩
    refine E_fa fun _ => ?_
    refine E_dnext (κ := List UInt8) (fun hr => ?_) (fun p rest' hp => ?_)
    · subst hr
      (repeat first | refine gS ?_ | refine gA fun _ => ?_ | refine gX fun _ _ => ?_ | refine gT ?_ | refine gF ?_ | refine gI ?_)
      refine fd (a := lpo l L .ready .nrm) (E_over (by simp) ?_)
      unfold aft
      (repeat first | refine gS ?_ | refine gA fun _ => ?_ | refine gX fun _ _ => ?_ | refine gT ?_ | refine gF ?_ | refine gI ?_)
      refine fd (a := dfo dl) (E_done1 ?_)
      refine fd (a := sls cS 9 1 sv zs) ?_
      have hz : zs.Perm (kv.map (·.1)) := by simpa using hφ
      have hl : zs.length = kv.length := by have := hz.length_eq; simpa using this
      refine E_sortS sortOkS (by omega) ?_
      refine fd (a := dit kL o it r kv [] none) (E_idone ?_)
      refine sm (h sv zs hz)
    · (repeat first | refine gS ?_ | refine gA fun _ => ?_ | refine gX fun _ _ => ?_ | refine gT ?_ | refine gF ?_ | refine gI ?_)
      refine E_dentry (κ := List UInt8) ?_
      (repeat first | refine gS ?_ | refine gA fun _ => ?_ | refine gX fun _ _ => ?_ | refine gT ?_ | refine gF ?_ | refine gI ?_)
      refine fd (a := lpo l L .ready .nrm) (hY _ _ _ rfl ?_)
      refine E_begun ?_
      (repeat first | refine gS ?_ | refine gA fun _ => ?_ | refine gX fun _ _ => ?_ | refine gT ?_ | refine gF ?_ | refine gI ?_)
      refine fd (a := sls cS 9 1 sv zs) ?_
      have hl : zs.length + rest.length = kv.length := by have := hφ.length_eq; simpa using this
      have hr : rest.length = rest'.length + 1 := by simpa using hp.length_eq
      refine E_sapp1 (enc := cS) p.1 u_strs elt_string rfl (by decide) (by omega) (by omega) fun v' _ => ?_
      (repeat first | refine gS ?_ | refine gA fun _ => ?_ | refine gX fun _ _ => ?_ | refine gT ?_ | refine gF ?_ | refine gI ?_)
      refine fd (a := lpo l L .busy .nrm) (E_ended ?_)
      refine E_notb ?_
      refine E_ff ?_
      show E _ _ (K _ _)
      have h1 := (hp.map (·.1)).append_left zs
      have hk' := hk (rest', some p, zs ++ [p.1], v') ⟨by simpa using h1.symm.trans hφ, CellI.pf⟩ (by simp [hr])
      simp only at hk'
      exact sm hk'
theorem shots (hw : Inv M) (h : ∀ v L Lo [CellI v], ShOk Lo L M.S → E B (sls shC 90 3 v L :: spool hC Lo :: bk a M :: H) (K v)) : E B (bk a M :: H) (CF Tryz.prog 37 [ptr a] K) := by
  have h16 := hw.s16
  refine E_mono (W := s37 _ K) ?_ fun _ => c37
  unfold s37
  refine E_peq u_pBook ?_
  refine E_ff ?_
  refine E_bk fun r1 r2 kf ks Lv Lr Lh hf hs => ?_
  refine fd (a := dct kL true r2 ks) (E_dnod fun hnod => ?_)
  have hkeys := sok_keys hs hnod hw.ss
  have hkl : ks.length = M.S.length := by have := hkeys.length_eq; simpa using this
  (repeat first | refine gS ?_ | refine gA fun _ => ?_ | refine gX fun _ _ => ?_ | refine gT ?_ | refine gF ?_ | refine gI ?_)
  refine sortedShots (by omega) fun sv zs _ hz => ?_
  rw [sortS_eq (hz.trans hkeys) (List.pairwise_map.2 hw.ss)]
  refine E_rslen (v := sv) (l := M.S.map fun s : Sn => s.name) (enc := cS) ?_
  rw [List.length_map]
  refine E_loop (n := 5) (σ := Nat × Value × List SC × List (Value × List (List UInt8 × Int))) (fun s => s.1 ≤ M.S.length ∧ isCell s.2.1 = true ∧ s.2.2.1.map (·.1) = M.S.take s.1 ∧ (∀ p ∈ s.2.2.1, (p.2.1, p.1.held) ∈ s.2.2.2))
    (fun s => [ptr a, s.2.1, sv, I M.S.length, I s.1]) (fun s => sls shC 90 3 s.2.1 s.2.2.1 :: spool hC s.2.2.2 :: sls cS 9 1 sv (M.S.map fun s : Sn => s.name) :: cel true a 81 [.map (some r1), .map (some r2), I M.now] :: dct kL true r1 kf :: dct kL true r2 ks :: spool vC Lv :: spool rfC Lr :: spool hC Lh :: H) (fun s => M.S.length - s.1) (0, nil, [], []) (fun _ => rfl) rfl ⟨Nat.zero_le _, rfl, rfl, by simp⟩
    (fun W hW => by
      refine sls_nil shC 3 (T := 90) ?_
      refine pool_new (slQ hC) ?_
      exact sm hW) ?_
  rintro ⟨i, ov, L, Lo⟩ K0 ⟨hi, hov, hL, hLo⟩ hk0
  simp only at hi hov hL hLo hk0 ⊢
  have : CellI ov := ⟨hov⟩
  have hLl : L.length = i := by have := congrArg List.length hL; simp at this; omega
  refine E_fa fun _ => ?_
  refine E_lss ?_
  refine E_if (fun hc1 => ?_) (fun hc1 => ?_)
  · have hx : M.S[i]? = some M.S[i] := List.getElem?_eq_getElem (by omega)
    have hxm := List.mem_of_getElem? hx
    generalize M.S[i] = x at hx hxm
    have hx' : (M.S.map fun s : Sn => s.name)[i]? = some x.name := by rw [List.getElem?_map, hx]; rfl
    refine E_rsix (v := sv) (l := M.S.map fun s : Sn => s.name) (enc := cS) hx' fun _ _ => ?_
    refine E_ptld ?_
    obtain ⟨s0, hv0, hrh, hlk, _, hst, _⟩ := sok_get hs x.name
    have := hst x (hw.su x hxm)
    subst this
    have ih := hrh B
    have hhl := hw.hh s0 hxm
    (repeat first | refine gS ?_ | refine gA fun _ => ?_ | refine gX fun _ _ => ?_ | refine gT ?_ | refine gF ?_ | refine gI ?_)
    refine E_dlkz hlk ?_
    refine E_box fun b7 => ?_
    refine E_stW (vs := [str s0.name, I s0.time, hv0.1]) rfl rfl ?_
    (repeat first | refine gS ?_ | refine gA fun _ => ?_ | refine gX fun _ _ => ?_ | refine gT ?_ | refine gF ?_ | refine gI ?_)
    refine fd (a := spool hC Lh) ?_
    refine cloneH (v := hv0.1) (l := s0.held) (by omega) fun v' _ => ?_
    (repeat first | refine gS ?_ | refine gA fun _ => ?_ | refine gX fun _ _ => ?_ | refine gT ?_ | refine gF ?_ | refine gI ?_)
    refine fd (a := sls shC 90 3 ov L) ?_
    refine E_sapp1 (enc := shC) ((s0, ⟨v', CellI.pf⟩) : SC) u_shotL elt_shot rfl (by decide) (by omega) (by omega) fun ov' _ => ?_
    refine E_addI (by omega) (by omega) ?_
    refine fd (a := spool hC Lo) ?_
    refine fd (a := sls hC 53 2 v' s0.held) ?_
    refine E_give ?_
    refine sm (hk0 (i + 1, ov', L ++ [((s0, ⟨v', CellI.pf⟩) : SC)], (v', s0.held) :: Lo) ⟨by simp only; omega, CellI.pf, by simp only; rw [List.map_append, hL, List.take_add_one, hx]; rfl, fun p hp => ?_⟩ (by simp only; omega))
    rcases List.mem_append.1 hp with hp | hp
    · exact List.mem_cons_of_mem _ (hLo p hp)
    · simp only [List.mem_singleton] at hp
      subst hp
      exact List.mem_cons_self
  · have hie : i = M.S.length := by omega
    rw [hie, List.take_length] at hL
    refine sm (G := cel true a 81 [.map (some r1), .map (some r2), I M.now] :: dct kL true r1 kf :: dct kL true r2 ks :: spool vC Lv :: spool rfC Lr :: spool hC Lh :: sls shC 90 3 ov L :: spool hC Lo :: H) ?_
    refine E_bkS r1 r2 hf hs rfl ?_
    exact sm (h ov L Lo ⟨hL, hLo⟩)
noncomputable def tail86 [Amb] (v2'2 v_4'2 : Value) (K : Value → WT) : WT :=
 S.ld v2'2 fun v25 =>
 S.ld v2'2 fun v26 =>
 S.len v26 fun v27 =>
 S.bin .sub v27 (SL.I 1) fun v28 =>
 S.ixS 2 v25 v28 fun v29 =>
 S.dr <|
 S.nc v29 fun v32 =>
 S.fad v32 1 fun v33 =>
 S.ld v33 fun v34 =>
 S.ldN 4 v_4'2 fun v35 =>
 CF Tryz.prog 42 [v35] fun v36 =>
 S.rck [S.ld v33 (fun v' _ => v' = v34)] <|
 V Tryz.prog (Instr.buildSlice 63 1 #[(0, v36)]) fun v37 =>
 S.rck [S.ld v33 (fun v' _ => v' = v34)] <|
 V Tryz.prog (Builtin.append_ #[63, 63] 63 #[v34, v37]) fun v38 =>
 S.nc v29 fun v39 =>
 S.fad v39 1 fun v40 =>
 S.st 1 v40 v38 fun _ =>
 K (.tuple #[])
theorem told2 {ob b4 : Nat} {ov cv : Value} {L : List FC} {k : List UInt8} {cl : List VR} {x : VR} [CellI ov] [hcv : CellI cv] [hr : ∀ G, Rs B (G ++ H) x.2.1 rfC x.1.refs] (hn : cl.length ≤ 1000) (hL : L.length ≤ 1000) (hrn : x.1.refs.length ≤ 1000000)
    (h : ∀ cv' rv [hcv' : CellI cv'] [hrv : CellI rv], E B (cel true ob 71 [ov] :: sls fC 86 2 ov (L ++ [(k, ⟨cv', hcv'.pf⟩)]) :: sls vC 31 4 cv' (cl ++ [(x.1, ⟨rv, hrv.pf⟩)]) :: sls rfC 38 35 rv x.1.refs :: H) (K (.tuple #[]))) :
    E B (cel true b4 31 (vC x) :: cel true ob 71 [ov] :: sls fC 86 2 ov (L ++ [(k, ⟨cv, hcv.pf⟩)]) :: sls vC 31 4 cv cl :: H) (tail86 (ptr ob) (ptr b4) K) := by
  unfold tail86
  (repeat refine gS ?_)
  refine E_subI (by simp) (by simp; omega) ?_
  rw [show ((L ++ [((k, ⟨cv, hcv.pf⟩) : FC)]).length : Int) - 1 = (L.length : Int) by simp]
  refine fd (a := sls fC 86 2 ov (L ++ [(k, ⟨cv, hcv.pf⟩)])) ?_
  refine E_oslo (by simp) fun b cap spare hv hle hxl hsl => ?_
  have hld : ((L ++ [((k, ⟨cv, hcv.pf⟩) : FC)]).flatMap fC ++ spare)[0 + L.length * 2 + 1]? = some cv := by
    rw [List.flatMap_append, List.append_assoc, List.getElem?_append_right (by rw [enc_length]; omega), enc_length, show 0 + L.length * 2 + 1 - L.length * 2 = 1 by omega]
    rfl
  subst hv
  refine E_ixN (by simp) ?_
  refine E_dr ?_
  (repeat refine gS ?_)
  refine E_ld' hld ?_
  (repeat refine gS ?_)
  refine copied (hv := rs_midA [] [_, _, _, _] hr) (by omega) fun rv hrv => ?_
  refine E_rck1 (E_ld' hld (E_fact rfl)) (E_rck0 ?_)
  refine fd (a := sls vC 31 4 cv cl) ?_
  refine E_sapp1R (enc := vC) ((x.1, ⟨rv, hrv.pf⟩) : VR) u_vers elt_ver rfl (by decide) (by omega) (by omega) (fun b' W hW => E_rck1 (E_ld' hld (E_fact rfl)) (E_rck0 hW)) fun cv' hcv' => ?_
  (repeat refine gS ?_)
  have hset := enc_set1 (enc := fC) (l := L ++ [((k, ⟨cv, hcv.pf⟩) : FC)]) (i := L.length) (o := 1) (x := (k, ⟨cv, hcv.pf⟩)) (x' := ((k, ⟨cv', hcv'.pf⟩) : FC)) (u := cv') spare (by simp) (by decide) rfl
  refine fd (a := cel true b 86 ((L ++ [((k, ⟨cv, hcv.pf⟩) : FC)]).flatMap fC ++ spare)) ?_
  refine E_st' (hf := takC_here) (by rw [List.length_append, enc_length]; simp; omega) ?_
  rw [Nat.zero_add, hset, show (L ++ [((k, ⟨cv, hcv.pf⟩) : FC)]).set L.length (k, ⟨cv', hcv'.pf⟩) = L ++ [(k, ⟨cv', hcv'.pf⟩)] by simp]
  refine E_osls (n := (L ++ [((k, ⟨cv, hcv.pf⟩) : FC)]).length) (cap := cap) (sz := 2) hle (by rw [enc_length]; simp) hsl ?_
  have h' := h cv' rv
  unfold sls at h' ⊢
  simp only [List.length_append, List.length_singleton] at h' ⊢
  exact sm h'
theorem told {ob : Nat} {ov cv : Value} {L : List FC} {k : List UInt8} {cl : List VR} {x : VR} [CellI ov] [hcv : CellI cv] [hr : ∀ G, Rs B (G ++ H) x.2.1 rfC x.1.refs] (hn : cl.length ≤ 1000) (hL : L.length ≤ 1000) (hrn : x.1.refs.length ≤ 1000000)
    (h : ∀ cv' rv [hcv' : CellI cv'] [hrv : CellI rv], E B (cel true ob 71 [ov] :: sls fC 86 2 ov (L ++ [(k, ⟨cv', hcv'.pf⟩)]) :: sls vC 31 4 cv' (cl ++ [(x.1, ⟨rv, hrv.pf⟩)]) :: sls rfC 38 35 rv x.1.refs :: H) (K (.tuple #[]))) :
    E B (cel true ob 71 [ov] :: sls fC 86 2 ov (L ++ [(k, ⟨cv, hcv.pf⟩)]) :: sls vC 31 4 cv cl :: H) (CF Tryz.prog 86 [str k, .agg (vC x).toArray, ptr ob] K) := by
  refine E_mono (W := s86 _ _ _ K) ?_ fun _ => c86
  unfold s86
  refine E_box (vs := vC x) fun b4 => ?_
  have hlast : (L ++ [((k, ⟨cv, hcv.pf⟩) : FC)])[L.length]? = some (k, ⟨cv, hcv.pf⟩) := by simp
  refine E_join1 [ptr ob, ptr b4] (cel true b4 31 (vC x) :: cel true ob 71 [ov] :: sls fC 86 2 ov (L ++ [(k, ⟨cv, hcv.pf⟩)]) :: sls vC 31 4 cv cl :: H) (fun q hq => ?_) ?_
  · refine E_join1 [str k, ptr ob, ptr b4, .bool false] (cel true b4 31 (vC x) :: cel true ob 71 [ov] :: sls fC 86 2 ov (L ++ [(k, ⟨cv, hcv.pf⟩)]) :: sls vC 31 4 cv cl :: H) (fun q2 hq2 => ?_) ?_
    · (repeat first | refine gS ?_ | refine gA fun _ => ?_ | refine gX fun _ _ => ?_ | refine gT ?_ | refine gF ?_ | refine gI ?_)
      have hne : ¬ ((L ++ [((k, ⟨cv, hcv.pf⟩) : FC)]).length : Int) = 0 := by simp; omega
      rw [decide_eq_false hne]
      (repeat first | refine gS ?_ | refine gA fun _ => ?_ | refine gX fun _ _ => ?_ | refine gT ?_ | refine gF ?_ | refine gI ?_)
      try refine E_gft ?_
      refine E_subI (by simp) (by simp; omega) ?_
      rw [show ((L ++ [((k, ⟨cv, hcv.pf⟩) : FC)]).length : Int) - 1 = (L.length : Int) by simp]
      refine E_gft ?_
      refine E_rsix (v := ov) (l := L ++ [(k, ⟨cv, hcv.pf⟩)]) hlast fun _ _ => ?_
      (repeat first | refine gS ?_ | refine gA fun _ => ?_ | refine gX fun _ _ => ?_ | refine gT ?_ | refine gF ?_ | refine gI ?_)
      have e : decide (k ≠ k) = false := by simp
      try rw [e]
      (repeat first | refine gS ?_ | refine gA fun _ => ?_ | refine gX fun _ _ => ?_ | refine gT ?_ | refine gF ?_ | refine gI ?_)
      exact sm hq2
    · refine E_fa fun _ => ?_
      refine E_ff ?_
      exact hq
  refine E_fa fun _ => ?_
  show E B _ (tail86 (ptr ob) (ptr b4) K)
  exact told2 hn hL hrn h
theorem told0 {ob : Nat} {ov : Value} {L : List FC} {k : List UInt8} {x : VR} [hov : CellI ov] [hr : ∀ G, Rs B (G ++ H) x.2.1 rfC x.1.refs] (hL : L.length ≤ 1000) (hrn : x.1.refs.length ≤ 1000000) (hne : ∀ p ∈ L, p.1 ≠ k)
    (h : ∀ ov' cv' rv [CellI ov'] [hcv : CellI cv'] [hrv : CellI rv], E B (cel true ob 71 [ov'] :: sls fC 86 2 ov' (L ++ [(k, ⟨cv', hcv.pf⟩)]) :: sls vC 31 4 cv' [(x.1, ⟨rv, hrv.pf⟩)] :: sls rfC 38 35 rv x.1.refs :: H) (K (.tuple #[]))) :
    E B (cel true ob 71 [ov] :: sls fC 86 2 ov L :: H) (CF Tryz.prog 86 [str k, .agg (vC x).toArray, ptr ob] K) := by
  refine E_mono (W := s86 _ _ _ K) ?_ fun _ => c86
  unfold s86
  refine E_box (vs := vC x) fun b4 => ?_
  refine E_joinC (σ := Cv) (fun _ => True) (fun _ => [ptr ob, ptr b4]) (fun ov' => cel true b4 31 (vC x) :: cel true ob 71 [ov'.1] :: sls fC 86 2 ov'.1 (L ++ [(k, ⟨nil, rfl⟩)]) :: sls vC 31 4 nil [] :: H) (fun q hq => ?_) (fun ov' _ => ?_)
  · refine E_join1 [str k, ptr ob, ptr b4, .bool true] (cel true b4 31 (vC x) :: cel true ob 71 [ov] :: sls fC 86 2 ov L :: H) (fun q2 hq2 => ?_) ?_
    · (repeat first | refine gS ?_ | refine gA fun _ => ?_ | refine gX fun _ _ => ?_ | refine gT ?_ | refine gF ?_ | refine gI ?_)
      by_cases hl0 : L = []
      · subst hl0
        (repeat first | refine gS ?_ | refine gA fun _ => ?_ | refine gX fun _ _ => ?_ | refine gT ?_ | refine gF ?_ | refine gI ?_)
        exact sm hq2
      · have hpos : 0 < L.length := List.length_pos_iff.2 hl0
        have hne0 : ¬ (L.length : Int) = 0 := by omega
        rw [decide_eq_false hne0]
        (repeat first | refine gS ?_ | refine gA fun _ => ?_ | refine gX fun _ _ => ?_ | refine gT ?_ | refine gF ?_ | refine gI ?_)
        try refine E_gft ?_
        rw [show (L.length : Int) - 1 = ((L.length - 1 : Nat) : Int) by omega]
        have hlast : L[L.length - 1]? = some L[L.length - 1] := List.getElem?_eq_getElem (by omega)
        have hnk := hne _ (List.mem_of_getElem? hlast)
        generalize L[L.length - 1] = p at hlast hnk
        refine E_rsix (v := ov) (l := L) hlast fun _ _ => ?_
        (repeat first | refine gS ?_ | refine gA fun _ => ?_ | refine gX fun _ _ => ?_ | refine gT ?_ | refine gF ?_ | refine gI ?_)
        rw [decide_eq_true hnk]
        (repeat first | refine gS ?_ | refine gA fun _ => ?_ | refine gX fun _ _ => ?_ | refine gT ?_ | refine gF ?_ | refine gI ?_)
        exact sm hq2
    · refine E_fa fun _ => ?_
      refine E_tt ?_
      (repeat first | refine gS ?_ | refine gA fun _ => ?_ | refine gX fun _ _ => ?_ | refine gT ?_ | refine gF ?_ | refine gI ?_)
      refine E_build (l := [str k, nil]) str_file ?_
      refine fd (a := sls fC 86 2 ov L) ?_
      refine E_sapp1 (enc := fC) ((k, ⟨nil, rfl⟩) : FC) u_fileL elt_file rfl (by decide) (by omega) (by omega) fun ov' hov' => ?_
      (repeat first | refine gS ?_ | refine gA fun _ => ?_ | refine gX fun _ _ => ?_ | refine gT ?_ | refine gF ?_ | refine gI ?_)
      refine sls_nil vC 4 (T := 31) ?_
      exact sm (hq ⟨ov', hov'.pf⟩ trivial)
  refine E_fa fun _ => ?_
  show E B _ (tail86 (ptr ob) (ptr b4) K)
  have hcn : CellI nil := ⟨rfl⟩
  exact told2 (cv := nil) (cl := []) (by simp) hL hrn fun cv' rv hcv' hrv => h ov'.1 cv' rv
theorem files (hw : Inv M) (h : ∀ v L Lv Lr [CellI v], FsOk Lv Lr L M.V → E B (sls fC 86 2 v L :: spool vC Lv :: spool rfC Lr :: bk a M :: H) (K v)) : E B (bk a M :: H) (CF Tryz.prog 36 [ptr a] K) := by
  have hnl := hw.nl
  have hfl := hw.fl
  refine E_mono (W := s36 _ K) ?_ fun _ => c36
  unfold s36
  refine E_box (vs := [nil]) fun ob => ?_
  refine E_mono (W := s61 _ _ _) ?_ fun _ => c61
  unfold s61
  refine fd (a := bk a M) (order hw.v.n (by have := hw.n; omega) fun nv _ => ?_)
  refine E_rslen (v := nv) (l := nms M.V) ?_
  refine E_loop (n := 5) (σ := Nat × Cv × List FC × List (Value × List VR) × List (Value × List Rf)) (fun s => s.1 ≤ (nms M.V).length ∧ s.2.2.1.map (·.1) = (nms M.V).take s.1 ∧ (∀ p ∈ s.2.2.1, ∃ l, VOk s.2.2.2.1 s.2.2.2.2 p.2.1 l (fof M.V p.1)))
    (fun s => [ptr a, .func (.func 86) #[] #[ptr ob], nv, I (nms M.V).length, I s.1]) (fun s => cel true ob 71 [s.2.1.1] :: sls fC 86 2 s.2.1.1 s.2.2.1 :: spool vC s.2.2.2.1 :: spool rfC s.2.2.2.2 :: sls cS 9 1 nv (nms M.V) :: bk a M :: H) (fun s => (nms M.V).length - s.1) (0, ⟨nil, rfl⟩, [], [], []) (fun _ => rfl) rfl ⟨Nat.zero_le _, rfl, by simp⟩
    (fun W hW => by
      refine sls_nil fC 2 (T := 86) ?_
      refine pool_new (slQ vC) ?_
      refine pool_new (slQ rfC) ?_
      exact sm hW) ?_
  rintro ⟨i, ov, L, Pv, Pr⟩ K0 ⟨hi, hL, hLo⟩ hk0
  simp only at hi hL hLo hk0 ⊢
  have hLl : L.length = i := by have := congrArg List.length hL; simp at this; omega
  refine E_fa fun _ => ?_
  refine E_lss ?_
  refine E_if (fun hc1 => ?_) (fun hc1 => ?_)
  · have hx : (nms M.V)[i]? = some (nms M.V)[i] := List.getElem?_eq_getElem (by omega)
    have hnd := nms_lt hw.v.n
    have hnk : (nms M.V)[i] ∉ (nms M.V).take i := fun hmem => by
      obtain ⟨j, hj, e⟩ := List.mem_take_iff_getElem.1 hmem
      have := List.pairwise_iff_getElem.1 hnd j i (by omega) (by omega) (by omega)
      exact slt_ne this e
    generalize (nms M.V)[i] = k at hx hnk
    have hkne := fof_some (List.mem_of_getElem? hx)
    have hnL : ∀ p ∈ L, p.1 ≠ k := fun p hp e => hnk (by rw [← hL, ← e]; exact List.mem_map_of_mem hp)
    have hfk := hfl k
    refine E_rsix (v := nv) (l := nms M.V) hx fun _ _ => ?_
    refine E_ptld ?_
    refine fd (a := bk a M) (E_bk fun r1 r2 kf ks Lv Lr Lh hf hs => ?_)
    obtain ⟨v, l, hrv, hle, hlr, hlk⟩ := fok_get hf k
    have i1 := hrv B
    have hll : l.length = (fof M.V k).length := by rw [← hle, List.length_map]
    (repeat first | refine gS ?_ | refine gA fun _ => ?_)
    refine E_dlkg hlk ?_
    refine E_rslen (v := v) (l := l) ?_
    refine E_loop (n := 9) (σ := Nat × Cv × List FC × Cv × List VR × List (Value × List Rf)) (fun s => s.1 ≤ l.length ∧ s.2.2.1 = (if s.1 = 0 then L else L ++ [(k, s.2.2.2.1)]) ∧ s.2.2.2.2.1.map (·.1) = (l.take s.1).map (·.1) ∧ (∀ p ∈ s.2.2.2.2.1, (p.2.1, p.1.refs) ∈ s.2.2.2.2.2) ∧ (∀ p ∈ Pr, p ∈ s.2.2.2.2.2) ∧ (s.1 = 0 → s.2.2.2.1 = ⟨nil, rfl⟩))
      (fun s => [ptr a, .func (.func 86) #[] #[ptr ob], str k, nv, I (nms M.V).length, I i, v, I l.length, I s.1])
      (fun s => cel true ob 71 [s.2.1.1] :: sls fC 86 2 s.2.1.1 s.2.2.1 :: sls vC 31 4 s.2.2.2.1.1 s.2.2.2.2.1 :: spool rfC s.2.2.2.2.2 :: spool vC Pv :: sls cS 9 1 nv (nms M.V) :: cel true a 81 [.map (some r1), .map (some r2), I M.now] :: dct kL true r1 kf :: dct kL true r2 ks :: spool vC Lv :: spool rfC Lr :: spool hC Lh :: H) (fun s => l.length - s.1) (0, ov, L, ⟨nil, rfl⟩, [], Pr) (fun _ => rfl) rfl ⟨Nat.zero_le _, rfl, rfl, by simp, fun p hp => hp, fun _ => rfl⟩
      (fun W hW => by
        refine sls_nil vC 4 (T := 31) ?_
        exact sm hW) ?_
    rintro ⟨j, ou, L', cv, cl, Qr⟩ K1 ⟨hj, hL', hcl, hcr, hPQ, hj0⟩ hk1
    simp only at hj hL' hcl hcr hPQ hj0 hk1 ⊢
    have hcll : cl.length = j := by have := congrArg List.length hcl; simp at this; omega
    refine E_fa fun _ => ?_
    refine E_lss ?_
    refine E_if (fun hc2 => ?_) (fun hc2 => ?_)
    · have hy : l[j]? = some l[j] := List.getElem?_eq_getElem (by omega)
      have hym := hlr _ (List.mem_of_getElem? hy)
      have hyV : (l[j]).1 ∈ M.V := (fof_mem.1 (hle ▸ List.mem_map_of_mem (List.getElem_mem _))).1
      generalize l[j] = x at hy hym hyV
      have hrl := hw.r _ hyV
      have htk : (l.take (j + 1)).map (·.1) = (l.take j).map (·.1) ++ [x.1] := by rw [List.take_add_one, hy, List.map_append]; rfl
      refine E_rsix (v := v) (l := l) hy fun _ _ => ?_
      refine E_ptldA ?_
      refine E_box fun b7 => ?_
      refine E_stW (vs := vC x) rfl rfl ?_
      (repeat first | refine gS ?_ | refine gA fun _ => ?_)
      refine E_cvv (by kernel_rfl) ?_
      show E B _ (CF Tryz.prog 86 [str k, .agg (vC x).toArray, ptr ob] _)
      have rp := rs_pool (B := B) (enc := rfC) hym
      have hrx : ∀ G, Rs B (G ++ (spool rfC Lr :: spool rfC Qr :: spool vC Pv :: sls cS 9 1 nv (nms M.V) :: cel true b7 31 (vC x) :: cel true a 81 [.map (some r1), .map (some r2), I M.now] :: dct kL true r1 kf :: dct kL true r2 ks :: spool vC Lv :: spool hC Lh :: H)) x.2.1 rfC x.1.refs := fun G => rs_app G (rp _)
      by_cases hj1 : j = 0
      · subst hj1
        rw [if_pos rfl] at hL'
        rw [hL']
        clear hL'
        have hcl0 : cl = [] := List.length_eq_zero_iff.1 hcll
        subst hcl0
        refine sm (G := cel true ob 71 [ou.1] :: sls fC 86 2 ou.1 L :: spool rfC Lr :: spool rfC Qr :: spool vC Pv :: sls cS 9 1 nv (nms M.V) :: cel true b7 31 (vC x) :: cel true a 81 [.map (some r1), .map (some r2), I M.now] :: dct kL true r1 kf :: dct kL true r2 ks :: spool vC Lv :: spool hC Lh :: H) ?_
        refine told0 (by omega) (by omega) hnL fun ov' cv' rv hov' hcv' hrv' => ?_
        refine E_addI (by omega) (by omega) ?_
        refine fd (a := spool rfC Qr) ?_
        refine fd (a := sls rfC 38 35 rv x.1.refs) ?_
        refine E_give ?_
        refine sm (hk1 (1, ⟨ov', hov'.pf⟩, L ++ [(k, ⟨cv', hcv'.pf⟩)], ⟨cv', hcv'.pf⟩, [(x.1, ⟨rv, hrv'.pf⟩)], (rv, x.1.refs) :: Qr) ⟨by simp only; omega, rfl, ?_, ?_, fun p hp => List.mem_cons_of_mem _ (hPQ p hp), fun e => by cases e⟩ (by simp only; omega))
        · simp only; rw [htk]; rfl
        · intro p hp
          simp only [List.mem_singleton] at hp
          subst hp
          exact List.mem_cons_self
      · rw [if_neg hj1] at hL'
        subst hL'
        refine sm (G := cel true ob 71 [ou.1] :: sls fC 86 2 ou.1 (L ++ [(k, cv)]) :: sls vC 31 4 cv.1 cl :: spool rfC Lr :: spool rfC Qr :: spool vC Pv :: sls cS 9 1 nv (nms M.V) :: cel true b7 31 (vC x) :: cel true a 81 [.map (some r1), .map (some r2), I M.now] :: dct kL true r1 kf :: dct kL true r2 ks :: spool vC Lv :: spool hC Lh :: H) ?_
        refine told (cv := cv.1) (by omega) (by omega) (by omega) fun cv' rv hcv' hrv' => ?_
        refine E_addI (by omega) (by omega) ?_
        refine fd (a := spool rfC Qr) ?_
        refine fd (a := sls rfC 38 35 rv x.1.refs) ?_
        refine E_give ?_
        refine sm (hk1 (j + 1, ou, L ++ [(k, ⟨cv', hcv'.pf⟩)], ⟨cv', hcv'.pf⟩, cl ++ [(x.1, ⟨rv, hrv'.pf⟩)], (rv, x.1.refs) :: Qr) ⟨by simp only; omega, by simp, ?_, ?_, fun p hp => List.mem_cons_of_mem _ (hPQ p hp), fun e => by cases e⟩ (by simp only; omega))
        · simp only; rw [htk, List.map_append, hcl]; rfl
        · intro p hp
          rcases List.mem_append.1 hp with hp | hp
          · exact List.mem_cons_of_mem _ (hcr p hp)
          · simp only [List.mem_singleton] at hp
            subst hp
            exact List.mem_cons_self
    · have hje : j = l.length := by omega
      have hj1 : j ≠ 0 := fun e => by
        have : (fof M.V k).length = 0 := by omega
        exact hkne (List.length_eq_zero_iff.1 this)
      rw [if_neg hj1] at hL'
      subst hL'
      rw [hje, List.take_length, hle] at hcl
      refine E_addI (by omega) (by omega) ?_
      refine fd (a := spool vC Pv) ?_
      refine fd (a := sls vC 31 4 cv.1 cl) ?_
      refine E_give ?_
      refine sm (G := cel true a 81 [.map (some r1), .map (some r2), I M.now] :: dct kL true r1 kf :: dct kL true r2 ks :: spool vC Lv :: spool rfC Lr :: spool hC Lh :: cel true ob 71 [ou.1] :: sls fC 86 2 ou.1 (L ++ [(k, cv)]) :: spool vC ((cv.1, cl) :: Pv) :: spool rfC Qr :: sls cS 9 1 nv (nms M.V) :: H) ?_
      refine E_bkS r1 r2 hf hs rfl ?_
      refine sm (hk0 (i + 1, ou, L ++ [(k, cv)], (cv.1, cl) :: Pv, Qr) ⟨by simp only; omega, by simp only; rw [List.map_append, hL, List.take_add_one, hx]; rfl, fun p hp => ?_⟩ (by simp only; omega))
      rcases List.mem_append.1 hp with hp | hp
      · obtain ⟨l', hl'⟩ := hLo p hp
        exact ⟨l', hl'.mono (fun _ h => List.mem_cons_of_mem _ h) hPQ⟩
      · simp only [List.mem_singleton] at hp
        subst hp
        exact ⟨cl, by simp, hcl, hcr⟩
  · have hie : i = (nms M.V).length := by omega
    rw [hie, List.take_length] at hL
    have : CellI ov.1 := ⟨ov.2⟩
    (repeat first | refine gS ?_ | refine gA fun _ => ?_ | refine gX fun _ _ => ?_ | refine gT ?_ | refine gF ?_ | refine gI ?_)
    exact sm (h ov.1 L Pv Pr ⟨hL, hLo⟩)
end Go.Proofs.YtjafpncngmbcdaaGreat.Nam
end
section
namespace Go.Proofs.YtjafpncngmbcdaaGreat.Nam
open Go Go.SL Go.Proofs Go.Proofs.YtjafpncngmbcdaaGreat.Sh
variable {B : World} {H : List Asrt} {K : Value → WT} {W : WT} {a : Nat} {M : Bk} {f : Fa}
def posL (ns : List (List UInt8)) (k : List UInt8) : Nat := (ns.takeWhile fun x => decide (x < k)).length
theorem pos_at {ns : List (List UInt8)} {k x : List UInt8} {i : Nat} (hs : ns.Pairwise (· < ·)) (hx : ns[i]? = some x) (ha : ∀ y ∈ ns.take i, y < k) (hn : ¬ x < k) : posL ns k = i ∧ (k ∈ ns ↔ x = k) := by
  obtain ⟨hi, hxe⟩ := List.getElem?_eq_some_iff.1 hx
  have e : ns = ns.take i ++ x :: ns.drop (i + 1) := by rw [← hxe, List.getElem_cons_drop, List.take_append_drop]
  constructor
  · unfold posL
    rw [e, List.takeWhile_append_of_pos (fun y hy => by simpa using ha y hy), List.takeWhile_cons, if_neg (by simpa using hn)]
    simp; omega
  · constructor
    · intro hk
      rw [e] at hk hs
      rcases List.mem_append.1 hk with hk | hk
      · exact (slt_irr _ (ha k hk)).elim
      · rcases List.mem_cons.1 hk with hk | hk
        · exact hk.symm
        · have h1 := (List.pairwise_cons.1 (List.pairwise_append.1 hs).2.1).1 k hk
          exact (hn h1).elim
    · intro h; rw [← h]; exact List.mem_of_getElem? hx
theorem takeWhile_all {ns : List (List UInt8)} {k : List UInt8} (ha : ∀ y ∈ ns, y < k) : ns.takeWhile (fun x => decide (x < k)) = ns := by
  induction ns with
  | nil => rfl
  | cons x t ih => rw [List.takeWhile_cons, if_pos (by simpa using ha x (by simp)), ih fun y hy => ha y (List.mem_cons_of_mem _ hy)]
theorem pos_end {ns : List (List UInt8)} {k : List UInt8} (ha : ∀ y ∈ ns, y < k) : posL ns k = ns.length ∧ k ∉ ns := by
  constructor
  · unfold posL
    rw [takeWhile_all ha]
  · exact fun hk => slt_irr _ (ha k hk)
theorem pos_le (ns : List (List UInt8)) (k : List UInt8) : posL ns k ≤ ns.length := by
  unfold posL
  exact (List.takeWhile_prefix _).length_le
theorem pos_mem {ns : List (List UInt8)} {k : List UInt8} (hs : ns.Pairwise (· < ·)) (hk : k ∈ ns) : ns[posL ns k]? = some k := by
  obtain ⟨i, hi, hke⟩ := List.getElem_of_mem hk
  have := pos_at (x := k) (i := i) (k := k) hs (by rw [List.getElem?_eq_getElem hi, hke]) (fun y hy => by
    obtain ⟨j, hj, e⟩ := List.mem_take_iff_getElem.1 hy
    have := List.pairwise_iff_getElem.1 hs j i (by omega) hi (by omega)
    rw [e, hke] at this; exact this) (slt_irr k)
  rw [this.1, List.getElem?_eq_getElem hi, hke]
structure DR where
  fv : Cv
  sv : Cv
  L : List FC
  LS : List SC
  Pf : List (Value × List FC)
  Lv : List (Value × List VR)
  Lr : List (Value × List Rf)
  Ps : List (Value × List SC)
  Lh : List (Value × List (List UInt8 × Int))
structure DOk (x : DR) (M : Bk) : Prop where
  f : (x.fv.1, x.L) ∈ x.Pf
  fs : FsOk x.Lv x.Lr x.L M.V
  s : (x.sv.1, x.LS) ∈ x.Ps
  sh : ShOk x.Lh x.LS M.S
def dbk (a : Nat) (M : Bk) : Asrt := ex fun x : DR => all [cel true a 88 [x.fv.1, x.sv.1, I M.now], spool fC x.Pf, spool vC x.Lv, spool rfC x.Lr, spool shC x.Ps, spool hC x.Lh, pur (DOk x M)]
theorem E_dbk (h : ∀ fv sv L LS Pf Lv Lr Ps Lh, DOk ⟨fv, sv, L, LS, Pf, Lv, Lr, Ps, Lh⟩ M → E B (cel true a 88 [fv.1, sv.1, I M.now] :: spool fC Pf :: spool vC Lv :: spool rfC Lr :: spool shC Ps :: spool hC Lh :: H) W) : E B (dbk a M :: H) W := by
  refine E_ex fun x => E_all ?_
  refine E_find (a := pur (DOk x M)) (by repeat (first | exact Find.here | apply Find.there)) (E_pur fun hr => ?_)
  exact h x.fv x.sv x.L x.LS x.Pf x.Lv x.Lr x.Ps x.Lh hr
theorem E_dbkS {fv sv : Cv} {L : List FC} {LS : List SC} {Pf : List (Value × List FC)} {Lv : List (Value × List VR)} {Lr : List (Value × List Rf)} {Ps : List (Value × List SC)} {Lh : List (Value × List (List UInt8 × Int))} {n : Int}
    (hd : DOk ⟨fv, sv, L, LS, Pf, Lv, Lr, Ps, Lh⟩ M) (hn : n = M.now := by rfl) (h : E B (dbk a M :: H) W) : E B (cel true a 88 [fv.1, sv.1, I n] :: spool fC Pf :: spool vC Lv :: spool rfC Lr :: spool shC Ps :: spool hC Lh :: H) W := by
  subst hn
  refine E_pur' hd ?_
  have h' := E_all' (E_ex' (f := fun x : DR => all [cel true a 88 [x.fv.1, x.sv.1, I M.now], spool fC x.Pf, spool vC x.Lv, spool rfC x.Lr, spool shC x.Ps, spool hC x.Lh, pur (DOk x M)]) ⟨fv, sv, L, LS, Pf, Lv, Lr, Ps, Lh⟩ h)
  exact E_same (by repeat (first | exact Same.refl | (refine Same.cons (by repeat (first | exact Find.here | apply Find.there)) ?_) | (refine Same.drop ?_))) h'
variable {fv sv : Cv} {L : List FC} {LS : List SC} {Pf : List (Value × List FC)} {Lv : List (Value × List VR)} {Lr : List (Value × List Rf)} {Ps : List (Value × List SC)} {Lh : List (Value × List (List UInt8 × Int))}
theorem DOk.len (hd : DOk ⟨fv, sv, L, LS, Pf, Lv, Lr, Ps, Lh⟩ M) : L.length = (nms M.V).length := by rw [← hd.fs.1, List.length_map]
theorem DOk.lenS (hd : DOk ⟨fv, sv, L, LS, Pf, Lv, Lr, Ps, Lh⟩ M) : LS.length = M.S.length := by rw [← hd.sh.1, List.length_map]
theorem DOk.get (hd : DOk ⟨fv, sv, L, LS, Pf, Lv, Lr, Ps, Lh⟩ M) {i : Nat} {k : List UInt8} (h : (nms M.V)[i]? = some k) : ∃ c l, L[i]? = some (k, c) ∧ VOk Lv Lr c.1 l (fof M.V k) := by
  rw [← hd.fs.1, List.getElem?_map] at h
  cases hp : L[i]? with
  | none => rw [hp] at h; cases h
  | some p =>
    rw [hp] at h
    obtain ⟨k', c⟩ := p
    cases h
    obtain ⟨l, hl⟩ := hd.fs.2 _ (List.mem_of_getElem? hp)
    exact ⟨c, l, rfl, hl⟩
theorem DOk.getS (hd : DOk ⟨fv, sv, L, LS, Pf, Lv, Lr, Ps, Lh⟩ M) {i : Nat} {s : Sn} (h : M.S[i]? = some s) : ∃ c, LS[i]? = some (s, c) ∧ (c.1, s.held) ∈ Lh := by
  rw [← hd.sh.1, List.getElem?_map] at h
  cases hp : LS[i]? with
  | none => rw [hp] at h; cases h
  | some p =>
    rw [hp] at h
    obtain ⟨s', c⟩ := p
    cases h
    exact ⟨c, rfl, hd.sh.2 _ (List.mem_of_getElem? hp)⟩
theorem snm (M : Bk) (i : Nat) : (M.S.map fun s : Sn => s.name)[i]? = (M.S[i]?).map fun s : Sn => s.name := List.getElem?_map ..
theorem nms_len32 (hd : DOk ⟨fv, sv, L, LS, Pf, Lv, Lr, Ps, Lh⟩ M) (hw : Inv M) : L.length ≤ 64 := by rw [hd.len]; exact hw.nl
attribute [local irreducible] S.pick S.ld S.ldN S.st S.box S.nc S.fad S.ixS S.ixA S.chr S.prt S.ext S.bin S.sh S.sbin S.beq S.neg1 S.com1 S.not1 S.cvt S.str1 S.lenS S.len S.cap S.lenM S.mx S.mn S.mkM S.cond S.gd S.fa S.dr S.rck S.join S.loop S.cvv S.eqv S.slc S.slcS S.b2s S.lk V U CF Gives E cel mpb osl ros dct dit itr lpo dfo
set_option maxRecDepth 8000
attribute [local irreducible] bk dbk
theorem fileD {k : List UInt8} (hd : DOk ⟨fv, sv, L, LS, Pf, Lv, Lr, Ps, Lh⟩ M) (hw : Inv M) (h : E B (cel true a 88 [fv.1, sv.1, I M.now] :: spool fC Pf :: spool vC Lv :: spool rfC Lr :: spool shC Ps :: spool hC Lh :: H) (K (.tuple #[I (posL (nms M.V) k), .bool (decide (k ∈ nms M.V))]))) : E B (cel true a 88 [fv.1, sv.1, I M.now] :: spool fC Pf :: spool vC Lv :: spool rfC Lr :: spool shC Ps :: spool hC Lh :: H) (CF Tryz.prog 44 [ptr a, str k] K) := by
  have hL := nms_len32 hd hw
  have hns := nms_lt hw.v.n
  have hlen := hd.len
  refine E_mono (W := s44 _ _ K) ?_ fun _ => c44
  unfold s44
  have rf : ∀ H, Rs B (spool fC Pf :: H) fv.1 fC L := rs_pool hd.f
  refine E_loop (n := 3) (σ := Nat) (fun i => i ≤ L.length ∧ ∀ y ∈ (nms M.V).take i, y < k) (fun i => [ptr a, str k, I i]) (fun _ => cel true a 88 [fv.1, sv.1, I M.now] :: spool fC Pf :: spool vC Lv :: spool rfC Lr :: spool shC Ps :: spool hC Lh :: H) (fun i => L.length - i) 0 (fun _ => rfl) rfl ⟨Nat.zero_le _, by simp⟩ (fun W hW => sm hW) ?_
  rintro i K0 ⟨hi, ha⟩ hk0
  refine E_fa fun _ => ?_
  by_cases hil : (i : Int) < (L.length : Int)
  · have hx : (nms M.V)[i]? = some (nms M.V)[i] := List.getElem?_eq_getElem (by omega)
    generalize (nms M.V)[i] = x at hx
    obtain ⟨p, hx', hpx⟩ : ∃ p, L[i]? = some p ∧ p.1 = x := by
      obtain ⟨c, l, h1, _⟩ := hd.get hx
      exact ⟨_, h1, rfl⟩
    subst hpx
    have hle := fun hn : ¬ p.1 < k => pos_at hns hx ha hn
    refine E_join1 [ptr a, str k, I i, .bool (decide (p.1 < k))] (cel true a 88 [fv.1, sv.1, I M.now] :: spool fC Pf :: spool vC Lv :: spool rfC Lr :: spool shC Ps :: spool hC Lh :: H) (fun q hq => ?_) ?_
    · (repeat first | refine gS ?_ | refine gA fun _ => ?_ | refine gX fun _ _ => ?_ | refine gT ?_ | refine gF ?_ | refine gI ?_)
      exact sm hq
    · refine E_fa fun _ => ?_
      refine E_if (fun hlt => ?_) (fun hlt => ?_)
      · refine E_addI (by omega) (by omega) ?_
        refine hk0 (i + 1) ⟨by omega, fun y hy => ?_⟩ (by omega)
        rw [List.take_add_one, hx] at hy
        rcases List.mem_append.1 hy with hy | hy
        · exact ha y hy
        · simp at hy; subst hy; exact hlt
      · obtain ⟨e1, e2⟩ := hle hlt
        rw [e1, decide_eq_decide.2 e2] at h
        (repeat first | refine gS ?_ | refine gA fun _ => ?_ | refine gX fun _ _ => ?_ | refine gT ?_ | refine gF ?_ | refine gI ?_)
        exact sm h
  · have hie : i = (nms M.V).length := by omega
    have hall := pos_end (ns := nms M.V) (k := k) (by rw [hie, List.take_length] at ha; exact ha)
    rw [hall.1, decide_eq_false hall.2, ← hie] at h
    refine E_join1 [ptr a, str k, I i, .bool false] (cel true a 88 [fv.1, sv.1, I M.now] :: spool fC Pf :: spool vC Lv :: spool rfC Lr :: spool shC Ps :: spool hC Lh :: H) (fun q hq => ?_) ?_
    · (repeat first | refine gS ?_ | refine gA fun _ => ?_ | refine gX fun _ _ => ?_ | refine gT ?_ | refine gF ?_ | refine gI ?_)
      exact sm hq
    · refine E_fa fun _ => ?_
      refine E_ff ?_
      (repeat first | refine gS ?_ | refine gA fun _ => ?_ | refine gX fun _ _ => ?_ | refine gT ?_ | refine gF ?_ | refine gI ?_)
      exact sm h
theorem shotD {k : List UInt8} (hd : DOk ⟨fv, sv, L, LS, Pf, Lv, Lr, Ps, Lh⟩ M) (hw : Inv M) (h : E B (cel true a 88 [fv.1, sv.1, I M.now] :: spool fC Pf :: spool vC Lv :: spool rfC Lr :: spool shC Ps :: spool hC Lh :: H) (K (.tuple #[I (posL (M.S.map fun s : Sn => s.name) k), .bool (decide (k ∈ M.S.map fun s : Sn => s.name))]))) : E B (cel true a 88 [fv.1, sv.1, I M.now] :: spool fC Pf :: spool vC Lv :: spool rfC Lr :: spool shC Ps :: spool hC Lh :: H) (CF Tryz.prog 47 [ptr a, str k] K) := by
  have hL := (show LS.length ≤ 64 by have := hd.lenS; have := hw.s16; omega)
  have hns := List.pairwise_map.2 hw.ss
  have hlen : LS.length = (M.S.map fun s : Sn => s.name).length := by rw [List.length_map]; exact hd.lenS
  refine E_mono (W := s47 _ _ K) ?_ fun _ => c47
  unfold s47
  have rf : ∀ H, Rs B (spool shC Ps :: H) sv.1 shC LS := rs_pool hd.s
  refine E_loop (n := 3) (σ := Nat) (fun i => i ≤ LS.length ∧ ∀ y ∈ (M.S.map fun s : Sn => s.name).take i, y < k) (fun i => [ptr a, str k, I i]) (fun _ => cel true a 88 [fv.1, sv.1, I M.now] :: spool fC Pf :: spool vC Lv :: spool rfC Lr :: spool shC Ps :: spool hC Lh :: H) (fun i => LS.length - i) 0 (fun _ => rfl) rfl ⟨Nat.zero_le _, by simp⟩ (fun W hW => sm hW) ?_
  rintro i K0 ⟨hi, ha⟩ hk0
  refine E_fa fun _ => ?_
  by_cases hil : (i : Int) < (LS.length : Int)
  · have hx : (M.S.map fun s : Sn => s.name)[i]? = some (M.S.map fun s : Sn => s.name)[i] := List.getElem?_eq_getElem (by omega)
    generalize (M.S.map fun s : Sn => s.name)[i] = x at hx
    obtain ⟨p, hx', hpx⟩ : ∃ p, LS[i]? = some p ∧ p.1.name = x := by
      rw [snm] at hx
      obtain ⟨t, ht, rfl⟩ := Option.map_eq_some_iff.1 hx
      obtain ⟨c, h1, _⟩ := hd.getS ht
      exact ⟨_, h1, rfl⟩
    subst hpx
    have hle := fun hn : ¬ p.1.name < k => pos_at hns hx ha hn
    refine E_join1 [ptr a, str k, I i, .bool (decide (p.1.name < k))] (cel true a 88 [fv.1, sv.1, I M.now] :: spool fC Pf :: spool vC Lv :: spool rfC Lr :: spool shC Ps :: spool hC Lh :: H) (fun q hq => ?_) ?_
    · (repeat first | refine gS ?_ | refine gA fun _ => ?_ | refine gX fun _ _ => ?_ | refine gT ?_ | refine gF ?_ | refine gI ?_)
      exact sm hq
    · refine E_fa fun _ => ?_
      refine E_if (fun hlt => ?_) (fun hlt => ?_)
      · refine E_addI (by omega) (by omega) ?_
        refine hk0 (i + 1) ⟨by omega, fun y hy => ?_⟩ (by omega)
        rw [List.take_add_one, hx] at hy
        rcases List.mem_append.1 hy with hy | hy
        · exact ha y hy
        · simp at hy; subst hy; exact hlt
      · obtain ⟨e1, e2⟩ := hle hlt
        rw [e1, decide_eq_decide.2 e2] at h
        (repeat first | refine gS ?_ | refine gA fun _ => ?_ | refine gX fun _ _ => ?_ | refine gT ?_ | refine gF ?_ | refine gI ?_)
        exact sm h
  · have hie : i = (M.S.map fun s : Sn => s.name).length := by omega
    have hall := pos_end (ns := M.S.map fun s : Sn => s.name) (k := k) (by rw [hie, List.take_length] at ha; exact ha)
    rw [hall.1, decide_eq_false hall.2, ← hie] at h
    refine E_join1 [ptr a, str k, I i, .bool false] (cel true a 88 [fv.1, sv.1, I M.now] :: spool fC Pf :: spool vC Lv :: spool rfC Lr :: spool shC Ps :: spool hC Lh :: H) (fun q hq => ?_) ?_
    · (repeat first | refine gS ?_ | refine gA fun _ => ?_ | refine gX fun _ _ => ?_ | refine gT ?_ | refine gF ?_ | refine gI ?_)
      exact sm hq
    · refine E_fa fun _ => ?_
      refine E_ff ?_
      (repeat first | refine gS ?_ | refine gA fun _ => ?_ | refine gX fun _ _ => ?_ | refine gT ?_ | refine gF ?_ | refine gI ?_)
      exact sm h
end Go.Proofs.YtjafpncngmbcdaaGreat.Nam
end
section
namespace Go.Proofs.YtjafpncngmbcdaaGreat.Nam
open Go Go.SL Go.Proofs Go.Proofs.YtjafpncngmbcdaaGreat.Sh
variable {B : World} {H : List Asrt} {K : Value → WT} {W : WT} {a : Nat} {M : Bk} {f : Fa}
variable {fv sv : Cv} {L : List FC} {LS : List SC} {Pf : List (Value × List FC)} {Lv : List (Value × List VR)} {Lr : List (Value × List Rf)} {Ps : List (Value × List SC)} {Lh : List (Value × List (List UInt8 × Int))}
def getP (g : Int) (v : Ver) : Bool := !v.gone && (decide (g = 0) || decide (v.gen = g))
theorem genV_gen {V : List Ver} (h : SrtG V) {n : List UInt8} {v : Ver} (hv : v ∈ fof V n) : genV V n v.gen = some v := by
  obtain ⟨h1, h2⟩ := fof_mem.1 hv
  rw [← h2]; exact h.genV h1
theorem genV_none {V : List Ver} {n : List UInt8} {g : Int} (h : ∀ v ∈ fof V n, v.gen ≠ g) : genV V n g = none := List.find?_eq_none.2 fun v hv => by simpa using h v hv
theorem getM_last (hw : Inv M) (n : List UInt8) (g : Int) : getM M.V n g = ((fof M.V n).filter (getP g)).getLast? := by
  unfold getM
  by_cases hg : g = 0
  · rw [if_pos hg]
    have e : (fof M.V n).filter (getP g) = liveL M.V n := List.filter_congr fun v _ => by simp [getP, hg]
    rw [e]
    unfold newG topG
    cases hl : (liveL M.V n).getLast? with
    | none =>
      simp only
      unfold liveV
      rw [genV_none fun v hv => by have := (hw.g v (fof_mem.1 hv).1).1; omega]
    | some v =>
      simp only
      have hm := List.mem_of_getLast? hl
      obtain ⟨h1, h2⟩ := List.mem_filter.1 hm
      unfold liveV
      rw [genV_gen hw.v h1]
      simp only
      rw [if_neg (by simpa using h2)]
  · rw [if_neg hg]
    unfold liveV
    cases hv : genV M.V n g with
    | none =>
      have hno : ∀ v ∈ fof M.V n, v.gen ≠ g := fun v hm e => by
        have := genV_gen hw.v hm
        rw [e, hv] at this; cases this
      rw [List.filter_eq_nil_iff.2 fun v hm => by simp [getP, hg, hno v hm]]
      rfl
    | some v =>
      obtain ⟨h1, h2, h3⟩ := genV_some hv
      have hu : ∀ w ∈ fof M.V n, w.gen = g → w = v := fun w hw' e => by
        obtain ⟨e1, e2⟩ := fof_mem.1 hw'
        exact hw.v.uniq e1 h1 (e2.trans h2.symm) (e.trans h3.symm)
      simp only
      cases hgo : v.gone with
      | true =>
        rw [if_pos rfl, List.filter_eq_nil_iff.2 fun w hm => ?_]
        · rfl
        · by_cases e : w.gen = g
          · rw [hu w hm e]; simp [getP, hgo]
          · simp [getP, hg, e]
      | false =>
        rw [if_neg (by simp)]
        have hall : ∀ w ∈ (fof M.V n).filter (getP g), w = v := fun w hm => by
          obtain ⟨m1, m2⟩ := List.mem_filter.1 hm
          simp [getP, hg] at m2
          exact hu w m1 m2.2
        have hin : v ∈ (fof M.V n).filter (getP g) := List.mem_filter.2 ⟨fof_mem.2 ⟨h1, h2⟩, by simp [getP, hgo, h3]⟩
        cases hl : ((fof M.V n).filter (getP g)).getLast? with
        | none => rw [List.getLast?_eq_none_iff.1 hl] at hin; cases hin
        | some w => rw [hall w (List.mem_of_getLast? hl)]
theorem findIdx_take {l : List VR} {V : List Ver} {g : Int} {j : Nat} {x : VR} (e : l.map (·.1) = V) (hx : l[j]? = some x) (ha : ∀ y ∈ l.take j, y.1.gen ≠ g) (hg : x.1.gen = g) : V.findIdx? (genP g) = some j := by
  rw [← idx_map e]
  obtain ⟨hj, hxe⟩ := List.getElem?_eq_some_iff.1 hx
  rw [List.findIdx?_eq_some_iff_getElem]
  refine ⟨hj, by rw [hxe]; simp [genP, hg], fun i hi => ?_⟩
  have := ha l[i] (List.mem_take_iff_getElem.2 ⟨i, by omega, rfl⟩)
  simp [genP, this]
theorem findIdx_all {l : List VR} {V : List Ver} {g : Int} (e : l.map (·.1) = V) (ha : ∀ y ∈ l, y.1.gen ≠ g) : V.findIdx? (genP g) = none := by
  rw [← idx_map e, List.findIdx?_eq_none_iff]
  intro x hx; simp [genP, ha x hx]
attribute [local irreducible] S.pick S.ld S.ldN S.st S.box S.nc S.fad S.ixS S.ixA S.chr S.prt S.ext S.bin S.sh S.sbin S.beq S.neg1 S.com1 S.not1 S.cvt S.str1 S.lenS S.len S.cap S.lenM S.mx S.mn S.mkM S.cond S.gd S.fa S.dr S.rck S.join S.loop S.cvv S.eqv S.slc S.slcS S.b2s S.lk V U CF Gives E cel mpb osl ros dct dit itr lpo dfo
set_option maxRecDepth 8000
attribute [local irreducible] bk dbk
theorem findD {n : List UInt8} {g : Int} (hd : DOk ⟨fv, sv, L, LS, Pf, Lv, Lr, Ps, Lh⟩ M) (hw : Inv M) (h0 : (fof M.V n).findIdx? (genP g) = none → E B (cel true a 88 [fv.1, sv.1, I M.now] :: spool fC Pf :: spool vC Lv :: spool rfC Lr :: spool shC Ps :: spool hC Lh :: H) (K (.tuple #[I (-1), I (-1)])))
    (h1 : ∀ j, (fof M.V n).findIdx? (genP g) = some j → n ∈ nms M.V → E B (cel true a 88 [fv.1, sv.1, I M.now] :: spool fC Pf :: spool vC Lv :: spool rfC Lr :: spool shC Ps :: spool hC Lh :: H) (K (.tuple #[I (posL (nms M.V) n), I j]))) : E B (cel true a 88 [fv.1, sv.1, I M.now] :: spool fC Pf :: spool vC Lv :: spool rfC Lr :: spool shC Ps :: spool hC Lh :: H) (CF Tryz.prog 48 [ptr a, .agg #[str n, I g]] K) := by
  have hns := nms_lt hw.v.n
  have hfl := hw.fl n
  refine E_mono (W := s48 _ _ K) ?_ fun _ => c48
  unfold s48
  refine E_box (vs := [str n, I g]) fun b => ?_
  (repeat first | refine gS ?_ | refine gA fun _ => ?_ | refine gX fun _ _ => ?_ | refine gT ?_ | refine gF ?_ | refine gI ?_)
  refine sm (G := cel true a 88 [fv.1, sv.1, I M.now] :: spool fC Pf :: spool vC Lv :: spool rfC Lr :: spool shC Ps :: spool hC Lh :: cel true b 53 [str n, I g] :: H) ?_
  refine fileD hd hw ?_
  by_cases hn : n ∈ nms M.V
  · rw [decide_eq_true hn]
    (repeat first | refine gS ?_ | refine gA fun _ => ?_ | refine gX fun _ _ => ?_ | refine gT ?_ | refine gF ?_ | refine gI ?_)
    obtain ⟨c, l, hx, hl⟩ := hd.get (pos_mem hns hn)
    have rf : ∀ H, Rs B (spool fC Pf :: H) fv.1 fC L := rs_pool hd.f
    have rl := rs_pool (B := B) (enc := vC) hl.m
    have hll : l.length = (fof M.V n).length := by rw [← hl.e, List.length_map]
    refine E_loop (n := 4) (σ := Nat) (fun j => j ≤ l.length ∧ ∀ y ∈ l.take j, y.1.gen ≠ g) (fun j => [ptr a, ptr b, I (posL (nms M.V) n), I j]) (fun _ => cel true a 88 [fv.1, sv.1, I M.now] :: spool fC Pf :: spool vC Lv :: spool rfC Lr :: spool shC Ps :: spool hC Lh :: cel true b 53 [str n, I g] :: H) (fun j => l.length - j) 0 (fun _ => rfl) rfl ⟨Nat.zero_le _, by simp⟩ (fun W hW => sm hW) ?_
    rintro j K0 ⟨hj, ha⟩ hk0
    refine E_fa fun _ => ?_
    (repeat first | refine gS ?_ | refine gA fun _ => ?_ | refine gX fun _ _ => ?_ | refine gT ?_ | refine gF ?_ | refine gI ?_)
    refine E_if (fun hc => ?_) (fun hc => ?_)
    · have hy : l[j]? = some l[j] := List.getElem?_eq_getElem (by omega)
      generalize l[j] = x at hy
      (repeat first | refine gS ?_ | refine gA fun _ => ?_ | refine gX fun _ _ => ?_ | refine gT ?_ | refine gF ?_ | refine gI ?_)
      refine E_if (fun e => ?_) (fun e => ?_)
      · exact sm (h1 j (findIdx_take hl.e hy ha e) hn)
      · refine E_addI (by omega) (by omega) ?_
        refine hk0 (j + 1) ⟨by omega, fun y hy' => ?_⟩ (by omega)
        rw [List.take_add_one, hy] at hy'
        rcases List.mem_append.1 hy' with hy' | hy'
        · exact ha y hy'
        · simp at hy'; subst hy'; exact e
    · have hje : j = l.length := by omega
      rw [hje, List.take_length] at ha
      exact sm (h0 (findIdx_all hl.e ha))
  · rw [decide_eq_false hn]
    (repeat first | refine gS ?_ | refine gA fun _ => ?_ | refine gX fun _ _ => ?_ | refine gT ?_ | refine gF ?_ | refine gI ?_)
    exact sm (h0 (by rw [fof_none hn]; rfl))
theorem liveD {n : List UInt8} {g : Int} (hd : DOk ⟨fv, sv, L, LS, Pf, Lv, Lr, Ps, Lh⟩ M) (hw : Inv M) (h : E B (cel true a 88 [fv.1, sv.1, I M.now] :: spool fC Pf :: spool vC Lv :: spool rfC Lr :: spool shC Ps :: spool hC Lh :: H) (K (.bool (liveB M.V n g)))) : E B (cel true a 88 [fv.1, sv.1, I M.now] :: spool fC Pf :: spool vC Lv :: spool rfC Lr :: spool shC Ps :: spool hC Lh :: H) (CF Tryz.prog 90 [ptr a, .agg #[str n, I g]] K) := by
  have fin : ∀ b : Bool, liveB M.V n g = b → E B (cel true a 88 [fv.1, sv.1, I M.now] :: spool fC Pf :: spool vC Lv :: spool rfC Lr :: spool shC Ps :: spool hC Lh :: H) (K (.bool b)) := fun b hb => hb ▸ h
  unfold liveB genV at fin
  rw [show (fun v : Ver => decide (v.gen = g)) = genP g from rfl] at fin
  have hns := nms_lt hw.v.n
  refine E_mono (W := s90 _ _ K) ?_ fun _ => c90
  unfold s90
  refine E_box (vs := [str n, I g]) fun b => ?_
  (repeat first | refine gS ?_ | refine gA fun _ => ?_ | refine gX fun _ _ => ?_ | refine gT ?_ | refine gF ?_ | refine gI ?_)
  refine sm (G := cel true a 88 [fv.1, sv.1, I M.now] :: spool fC Pf :: spool vC Lv :: spool rfC Lr :: spool shC Ps :: spool hC Lh :: cel true b 53 [str n, I g] :: H) ?_
  refine findD hd hw (fun e => ?_) (fun j e hn => ?_)
  · (repeat first | refine gS ?_ | refine gA fun _ => ?_ | refine gX fun _ _ => ?_ | refine gT ?_ | refine gF ?_ | refine gI ?_)
    refine sm (fin false ?_)
    rcases fi (fof M.V n) (genP g) with ⟨_, e2⟩ | ⟨_, _, e2, _, _⟩
    · rw [e2]
    · rw [e] at e2; cases e2
  · have hp0 : (0 : Int) ≤ (posL (nms M.V) n : Int) := by omega
    obtain ⟨c, l, hx, hl⟩ := hd.get (pos_mem hns hn)
    have rf : ∀ H, Rs B (spool fC Pf :: H) fv.1 fC L := rs_pool hd.f
    have rl := rs_pool (B := B) (enc := vC) hl.m
    rcases fi (fof M.V n) (genP g) with ⟨e2, _⟩ | ⟨j', x, e2, e3, e4⟩
    · rw [e] at e2; cases e2
    rw [e] at e2; cases e2
    have hp : ∃ p, l[j]? = some p ∧ p.1 = x := by
      rw [← hl.e, List.getElem?_map] at e3
      cases hp : l[j]? with
      | none => rw [hp] at e3; cases e3
      | some p => rw [hp] at e3; exact ⟨p, rfl, Option.some.inj e3⟩
    obtain ⟨p, hp, hpx⟩ := hp
    (repeat first | refine gS ?_ | refine gA fun _ => ?_ | refine gX fun _ _ => ?_ | refine gT ?_ | refine gF ?_ | refine gI ?_)
    refine gY ?_
    (repeat first | refine gS ?_ | refine gA fun _ => ?_ | refine gX fun _ _ => ?_ | refine gT ?_ | refine gF ?_ | refine gI ?_)
    refine sm (fin _ ?_)
    rw [e4, hpx]
theorem nextD {n : List UInt8} (hd : DOk ⟨fv, sv, L, LS, Pf, Lv, Lr, Ps, Lh⟩ M) (hw : Inv M) (h : E B (cel true a 88 [fv.1, sv.1, I M.now] :: spool fC Pf :: spool vC Lv :: spool rfC Lr :: spool shC Ps :: spool hC Lh :: H) (K (I (nextG M.V n)))) : E B (cel true a 88 [fv.1, sv.1, I M.now] :: spool fC Pf :: spool vC Lv :: spool rfC Lr :: spool shC Ps :: spool hC Lh :: H) (CF Tryz.prog 17 [ptr a, str n] K) := by
  have hns := nms_lt hw.v.n
  have hfl := hw.fl n
  refine E_mono (W := s17 _ _ K) ?_ fun _ => c17
  unfold s17
  refine fileD hd hw ?_
  unfold nextG at h
  by_cases hn : n ∈ nms M.V
  · rw [decide_eq_true hn]
    obtain ⟨c, l, hx, hl⟩ := hd.get (pos_mem hns hn)
    have rf : ∀ H, Rs B (spool fC Pf :: H) fv.1 fC L := rs_pool hd.f
    have rl := rs_pool (B := B) (enc := vC) hl.m
    have hll : l.length = (fof M.V n).length := by rw [← hl.e, List.length_map]
    have hne := fof_some hn
    obtain ⟨x, hxl, hxg⟩ := topG_some hne
    have hpos : 0 < l.length := by rw [hll]; exact List.length_pos_iff.2 hne
    have hp : ∃ p, l[l.length - 1]? = some p ∧ p.1 = x := by
      rw [← hll, ← hl.e, List.getElem?_map] at hxl
      cases hp : l[l.length - 1]? with
      | none => rw [hp] at hxl; cases hxl
      | some p => rw [hp] at hxl; exact ⟨p, rfl, Option.some.inj hxl⟩
    obtain ⟨p, hp, hpx⟩ := hp
    have hxm := hw.g x (fof_mem.1 (List.mem_of_getElem? hxl)).1
    (repeat first | refine gS ?_ | refine gA fun _ => ?_ | refine gX fun _ _ => ?_ | refine gT ?_ | refine gF ?_ | refine gI ?_)
    rw [show (l.length : Int) - 1 = ((l.length - 1 : Nat) : Int) by omega]
    refine E_rsix (v := c.1) (l := l) hp fun _ _ => ?_
    refine E_ptfad0 fun _ _ => ?_
    refine E_ptld ?_
    refine E_addI (by rw [hpx]; omega) (by rw [hpx]; omega) ?_
    rw [hxg, ← hpx] at h
    exact sm h
  · rw [decide_eq_false hn]
    rw [fof_none hn] at h
    (repeat first | refine gS ?_ | refine gA fun _ => ?_ | refine gX fun _ _ => ?_ | refine gT ?_ | refine gF ?_ | refine gI ?_)
    exact sm h
theorem filt_last {l : List VR} {k : Nat} {x : VR} {p : Ver → Bool} (hx : l[k]? = some x) (ha : ∀ y ∈ l.drop (k + 1), p y.1 = false) (hp : p x.1 = true) : ((l.map (·.1)).filter p).getLast? = some x.1 := by
  obtain ⟨hk, hxe⟩ := List.getElem?_eq_some_iff.1 hx
  have e : l = l.take k ++ x :: l.drop (k + 1) := by rw [← hxe, List.getElem_cons_drop, List.take_append_drop]
  have key : ∀ A C : List VR, (∀ y ∈ C, p y.1 = false) → (((A ++ x :: C).map (·.1)).filter p).getLast? = some x.1 := fun A C hC => by
    have hD : (C.map (·.1)).filter p = [] := List.filter_eq_nil_iff.2 fun y hy => by
      obtain ⟨z, hz, rfl⟩ := List.mem_map.1 hy
      rw [hC z hz]; simp
    rw [List.map_append, List.filter_append, List.map_cons, List.filter_cons, hp, if_pos rfl, hD]
    simp
  have h' := key (l.take k) (l.drop (k + 1)) ha
  rw [← e] at h'
  exact h'
theorem getD {n : List UInt8} {g : Int} (hd : DOk ⟨fv, sv, L, LS, Pf, Lv, Lr, Ps, Lh⟩ M) (hw : Inv M) (h0 : getM M.V n g = none → E B (cel true a 88 [fv.1, sv.1, I M.now] :: spool fC Pf :: spool vC Lv :: spool rfC Lr :: spool shC Ps :: spool hC Lh :: H) (K (.tuple #[.agg #[I 0, I 0, nil, .bool false], I 9])))
    (h1 : ∀ v (c : Cv), getM M.V n g = some v → (c.1, v.refs) ∈ Lr → E B (cel true a 88 [fv.1, sv.1, I M.now] :: spool fC Pf :: spool vC Lv :: spool rfC Lr :: spool shC Ps :: spool hC Lh :: H) (K (.tuple #[.agg #[I v.gen, I v.time, c.1, .bool v.gone], I 0]))) : E B (cel true a 88 [fv.1, sv.1, I M.now] :: spool fC Pf :: spool vC Lv :: spool rfC Lr :: spool shC Ps :: spool hC Lh :: H) (CF Tryz.prog 12 [ptr a, str n, I g] K) := by
  have hns := nms_lt hw.v.n
  have hfl := hw.fl n
  rw [getM_last hw] at h0 h1
  refine E_mono (W := s12 _ _ _ K) ?_ fun _ => c12
  unfold s12
  refine E_box (vs := [I 0, I 0, nil, .bool false]) fun b6 => ?_
  refine sm (G := cel true a 88 [fv.1, sv.1, I M.now] :: spool fC Pf :: spool vC Lv :: spool rfC Lr :: spool shC Ps :: spool hC Lh :: cel true b6 31 [I 0, I 0, nil, .bool false] :: H) ?_
  refine fileD hd hw ?_
  by_cases hn : n ∈ nms M.V
  · rw [decide_eq_true hn]
    obtain ⟨c, l, hx, hl⟩ := hd.get (pos_mem hns hn)
    have rf : ∀ H, Rs B (spool fC Pf :: H) fv.1 fC L := rs_pool hd.f
    have rl := rs_pool (B := B) (enc := vC) hl.m
    have hll : l.length = (fof M.V n).length := by rw [← hl.e, List.length_map]
    rw [← hl.e] at h0 h1
    (repeat first | refine gS ?_ | refine gA fun _ => ?_ | refine gX fun _ _ => ?_ | refine gT ?_ | refine gF ?_ | refine gI ?_)
    refine E_loop (n := 5) (σ := Nat) (fun k => k ≤ l.length ∧ ∀ y ∈ l.drop k, getP g y.1 = false) (fun k => [ptr a, I g, ptr b6, I (posL (nms M.V) n), I ((k : Int) - 1)]) (fun _ => cel true a 88 [fv.1, sv.1, I M.now] :: spool fC Pf :: spool vC Lv :: spool rfC Lr :: spool shC Ps :: spool hC Lh :: cel true b6 31 [I 0, I 0, nil, .bool false] :: H) (fun k => k) l.length (fun _ => rfl) rfl ⟨Nat.le_refl _, by simp⟩ (fun W hW => sm hW) ?_
    rintro k K0 ⟨hk, ha⟩ hk0
    refine E_fa fun _ => ?_
    refine E_geq ?_
    refine E_if (fun hc => ?_) (fun hc => ?_)
    · obtain ⟨j, rfl⟩ : ∃ j, k = j + 1 := ⟨k - 1, by omega⟩
      rw [show ((j + 1 : Nat) : Int) - 1 = (j : Int) by omega]
      have hy : l[j]? = some l[j] := List.getElem?_eq_getElem (by omega)
      have hym := List.mem_of_getElem? hy
      generalize l[j] = x at hy hym
      (repeat first | refine gS ?_ | refine gA fun _ => ?_ | refine gX fun _ _ => ?_ | refine gT ?_ | refine gF ?_ | refine gI ?_)
      rename_i b11
      refine E_stW (vs := vC x) rfl rfl ?_
      refine E_join1 [ptr a, I g, ptr b6, I (posL (nms M.V) n), I j, ptr b11, .bool (getP g x.1)] (cel true b11 31 (vC x) :: cel true a 88 [fv.1, sv.1, I M.now] :: spool fC Pf :: spool vC Lv :: spool rfC Lr :: spool shC Ps :: spool hC Lh :: cel true b6 31 [I 0, I 0, nil, .bool false] :: H) (fun q hq => ?_) ?_
      · unfold getP at hq
        (repeat first | refine gS ?_ | refine gY ?_ | refine gA fun _ => ?_ | refine gX fun _ _ => ?_ | refine gI ?_)
        exact sm hq
      · refine E_fa fun _ => ?_
        cases hp : getP g x.1 with
        | true =>
          (repeat first | refine gS ?_ | refine gA fun _ => ?_ | refine gX fun _ _ => ?_ | refine gT ?_ | refine gF ?_ | refine gI ?_)
          refine E_stW (vs := vC x) rfl rfl ?_
          (repeat first | refine gS ?_ | refine gA fun _ => ?_ | refine gX fun _ _ => ?_ | refine gT ?_ | refine gF ?_ | refine gI ?_)
          exact sm (h1 x.1 x.2 (filt_last hy ha hp) (hl.r x hym))
        | false =>
          (repeat first | refine gS ?_ | refine gA fun _ => ?_ | refine gX fun _ _ => ?_ | refine gT ?_ | refine gF ?_ | refine gI ?_)
          refine sm (hk0 j ⟨by omega, fun y hy' => ?_⟩ (by omega))
          rw [List.drop_eq_getElem_cons (show j < l.length by omega)] at hy'
          rcases List.mem_cons.1 hy' with hy' | hy'
          · have : l[j] = x := (List.getElem?_eq_some_iff.1 hy).2
            rw [hy', this]; exact hp
          · exact ha y hy'
    · have hk0' : k = 0 := by omega
      subst hk0'
      refine E_build (l := [I 0, I 0, nil, .bool false]) str_ver ?_
      (repeat first | refine gS ?_ | refine gA fun _ => ?_ | refine gX fun _ _ => ?_ | refine gT ?_ | refine gF ?_ | refine gI ?_)
      refine sm (h0 ?_)
      rw [List.filter_eq_nil_iff.2 fun y hy => by
        obtain ⟨z, hz, rfl⟩ := List.mem_map.1 hy
        rw [ha z hz]; simp]
      rfl
  · rw [decide_eq_false hn]
    rw [fof_none hn] at h0
    (repeat first | refine gS ?_ | refine gA fun _ => ?_ | refine gX fun _ _ => ?_ | refine gT ?_ | refine gF ?_ | refine gI ?_)
    refine E_build (l := [I 0, I 0, nil, .bool false]) str_ver ?_
    (repeat first | refine gS ?_ | refine gA fun _ => ?_ | refine gX fun _ _ => ?_ | refine gT ?_ | refine gF ?_ | refine gI ?_)
    exact sm (h0 rfl)
theorem newG_get (hw : Inv M) (n : List UInt8) : (getM M.V n 0 = none ∧ ¬ 0 < newG M.V n) ∨ ∃ v, getM M.V n 0 = some v ∧ 0 < newG M.V n ∧ v.gen = newG M.V n := by
  rw [getM_last hw]
  have e : (fof M.V n).filter (getP 0) = liveL M.V n := List.filter_congr fun v _ => by simp [getP]
  rw [e]
  unfold newG topG
  cases hl : (liveL M.V n).getLast? with
  | none => exact .inl ⟨rfl, by simp⟩
  | some v =>
    have := (hw.g v (fof_mem.1 (List.mem_filter.1 (List.mem_of_getLast? hl)).1).1).1
    exact .inr ⟨v, rfl, by simp only; omega, rfl⟩
theorem newestD (hd : DOk ⟨fv, sv, L, LS, Pf, Lv, Lr, Ps, Lh⟩ M) (hw : Inv M) (h : ∀ v [CellI v], E B (sls hC 53 2 v (newestL M) :: cel true a 88 [fv.1, sv.1, I M.now] :: spool fC Pf :: spool vC Lv :: spool rfC Lr :: spool shC Ps :: spool hC Lh :: H) (K v)) : E B (cel true a 88 [fv.1, sv.1, I M.now] :: spool fC Pf :: spool vC Lv :: spool rfC Lr :: spool shC Ps :: spool hC Lh :: H) (CF Tryz.prog 57 [ptr a] K) := by
  have hns := nms_lt hw.v.n
  have hL := nms_len32 hd hw
  have hlen := hd.len
  unfold newestL at h
  have rf : ∀ H, Rs B (spool fC Pf :: H) fv.1 fC L := rs_pool hd.f
  refine E_mono (W := s57 _ K) ?_ fun _ => c57
  unfold s57
  refine E_bsl0 u_helds elt_held fun b0 => ?_
  refine E_slsC (enc := hC) [] 0 rfl rfl ?_
  refine E_loop (n := 3) (σ := Nat × Cv × List (List UInt8 × Int)) (fun s => s.1 ≤ L.length ∧ s.2.2 = ((nms M.V).take s.1).filterMap (fun k => if 0 < newG M.V k then some (k, newG M.V k) else none) ∧ s.2.2.length ≤ s.1)
    (fun s => [ptr a, s.2.1.1, I s.1]) (fun s => cel true a 88 [fv.1, sv.1, I M.now] :: spool fC Pf :: spool vC Lv :: spool rfC Lr :: spool shC Ps :: spool hC Lh :: sls hC 53 2 s.2.1.1 s.2.2 :: H) (fun s => L.length - s.1) (0, ⟨.slice (some ⟨b0, 0, none⟩) 0 0, rfl⟩, []) (fun _ => rfl) rfl ⟨Nat.zero_le _, rfl, Nat.le_refl _⟩ (fun W hW => sm hW) ?_
  rintro ⟨i, ov, zs⟩ K0 ⟨hi, hzs, hzl⟩ hk0
  simp only at hi hzs hzl hk0 ⊢
  refine E_fa fun _ => ?_
  (repeat first | refine gS ?_ | refine gA fun _ => ?_ | refine gX fun _ _ => ?_ | refine gT ?_ | refine gF ?_ | refine gI ?_)
  refine E_if (fun hc => ?_) (fun hc => ?_)
  · have hx : (nms M.V)[i]? = some (nms M.V)[i] := List.getElem?_eq_getElem (by omega)
    generalize (nms M.V)[i] = k at hx
    obtain ⟨c, l, hx', hl⟩ := hd.get hx
    refine E_joinC (σ := Cv × List (List UInt8 × Int)) (fun s => s.2 = ((nms M.V).take (i + 1)).filterMap (fun k => if 0 < newG M.V k then some (k, newG M.V k) else none) ∧ s.2.length ≤ i + 1)
      (fun s => [ptr a, s.1.1, I i]) (fun s => cel true a 88 [fv.1, sv.1, I M.now] :: spool fC Pf :: spool vC Lv :: spool rfC Lr :: spool shC Ps :: spool hC Lh :: sls hC 53 2 s.1.1 s.2 :: H) (fun q hq => ?_) (fun s hs => ?_)
    · (repeat first | refine gS ?_ | refine gA fun _ => ?_ | refine gX fun _ _ => ?_ | refine gT ?_ | refine gF ?_ | refine gI ?_)
      rw [List.take_add_one, hx, List.filterMap_append, ← hzs] at hq
      refine getD hd hw (fun e => ?_) (fun v cv e hcv => ?_)
      · rcases newG_get hw k with ⟨_, hg⟩ | ⟨v, e2, _⟩
        · simp only [Option.toList_some, List.filterMap_cons, hg, if_false, List.filterMap_nil, List.append_nil] at hq
          (repeat first | refine gS ?_ | refine gA fun _ => ?_ | refine gX fun _ _ => ?_ | refine gT ?_ | refine gF ?_ | refine gI ?_)
          have := hq (ov, zs) ⟨rfl, by simp only; omega⟩
          exact sm this
        · rw [e] at e2; cases e2
      · rcases newG_get hw k with ⟨e2, _⟩ | ⟨v', e2, hg, hgv⟩
        · rw [e] at e2; cases e2
        rw [e] at e2; cases e2
        simp only [Option.toList_some, List.filterMap_cons, hg, if_true, List.filterMap_nil] at hq
        (repeat first | refine gS ?_ | refine gA fun _ => ?_ | refine gX fun _ _ => ?_ | refine gT ?_ | refine gF ?_ | refine gI ?_)
        refine E_build (l := [str k, I v.gen]) str_held ?_
        refine fd (a := sls hC 53 2 ov.1 zs) ?_
        refine E_sapp1 (enc := hC) (k, v.gen) u_helds elt_held rfl (by decide) (by omega) (by omega) fun v' hv' => ?_
        rw [hgv]
        have := hq (⟨v', hv'.pf⟩, zs ++ [(k, newG M.V k)]) ⟨rfl, by simp; omega⟩
        exact sm this
    · obtain ⟨v', zs'⟩ := s
      obtain ⟨h2, h3⟩ := hs
      refine E_fa fun _ => ?_
      refine E_addI (by omega) (by omega) ?_
      exact hk0 (i + 1, v', zs') ⟨by simp only; omega, h2, by simpa using h3⟩ (by simp only; omega)
  · have hie : i = (nms M.V).length := by omega
    rw [hie, List.take_length] at hzs
    rw [hzs]
    have : CellI ov.1 := ⟨ov.2⟩
    exact sm (h ov.1)
theorem newD (h : ∀ a, E B (dbk a ⟨[], [], 0⟩ :: H) (K (ptr a))) : E B H (CF Tryz.prog 38 [] K) := by
  refine E_mono (W := s38 K) ?_ fun _ => c38
  unfold s38
  refine E_build (l := [nil, nil, I 0]) (str_of (zv := .agg #[nil, nil, I 0]) (by kernel_rfl) (by kernel_rfl) rfl : Str Tryz.prog 88 [(0, 1), (1, 1), (2, 1)] [nil, nil, I 0]) ?_
  refine E_box (vs := [nil, nil, I 0]) fun a => ?_
  refine pool_new (slQ fC) ?_
  refine sls_nil fC 2 (T := 86) ?_
  refine E_give ?_
  refine pool_new (slQ shC) ?_
  refine sls_nil shC 3 (T := 90) ?_
  refine E_give ?_
  refine pool_new (slQ vC) ?_
  refine pool_new (slQ rfC) ?_
  refine pool_new (slQ hC) ?_
  refine sm (G := cel true a 88 [nil, nil, I 0] :: spool fC [(nil, [])] :: spool vC [] :: spool rfC [] :: spool shC [(nil, [])] :: spool hC [] :: H) ?_
  exact E_dbkS (M := ⟨[], [], 0⟩) (fv := ⟨nil, rfl⟩) (sv := ⟨nil, rfl⟩) (L := []) (LS := []) ⟨by simp, ⟨rfl, by simp⟩, by simp, ⟨rfl, by simp⟩⟩ rfl (h a)
end Go.Proofs.YtjafpncngmbcdaaGreat.Nam
end
section
namespace Go.Proofs.YtjafpncngmbcdaaGreat.Nam
open Go Go.SL Go.Proofs Go.Proofs.YtjafpncngmbcdaaGreat.Sh
variable {B : World} {H : List Asrt} {K : Value → WT} {W : WT} {a : Nat} {M : Bk} {f : Fa}
def grF (f : Fa) (m : Int) (w : Ver) : Option Int := if m < w.time / f.step then some (w.time / f.step) else none
theorem gr_snoc {f : Fa} {m : Int} {l : List VR} {j : Nat} {y : VR} (hy : l[j]? = some y) : (((l.take (j + 1)).map (·.1)).filterMap (grF f m)).foldl addN [] = (match grF f m y.1 with | none => (((l.take j).map (·.1)).filterMap (grF f m)).foldl addN [] | some s => addN ((((l.take j).map (·.1)).filterMap (grF f m)).foldl addN []) s) := by
  rw [List.take_add_one, hy, List.map_append, List.filterMap_append, List.foldl_append]
  cases h : grF f m y.1 <;> simp [h]
attribute [local irreducible] S.pick S.ld S.ldN S.st S.box S.nc S.fad S.ixS S.ixA S.chr S.prt S.ext S.bin S.sh S.sbin S.beq S.neg1 S.com1 S.not1 S.cvt S.str1 S.lenS S.len S.cap S.lenM S.mx S.mn S.mkM S.cond S.gd S.fa S.dr S.rck S.join S.loop S.cvv S.eqv S.slc S.slcS S.b2s S.lk V U CF Gives E cel mpb osl ros dct dit itr lpo dfo
set_option maxRecDepth 8000
attribute [local irreducible] bk dbk
theorem staysD {v p q : Value} {l : List VR} {i : Nat} {x : VR} (hv : ∀ G, Rs B (G ++ H) v vC l) (hk : KOk f (l.map (·.1))) (hnow : 0 ≤ M.now ∧ M.now ≤ 9007199254740991) (hx : l[i]? = some x)
    (h : E B (cel true a 88 [p, q, I M.now] :: H) (K (.bool (staysB M.now f (l.map (·.1)) i)))) : E B (cel true a 88 [p, q, I M.now] :: H) (CF Tryz.prog 54 [ptr a, v, I i, .agg (keepL f).toArray] K) := by
  have hil := (List.getElem?_eq_some_iff.1 hx).1
  have hln : l.length ≤ 1000 := by have := hk.n; simpa using this
  have htm : ∀ y ∈ l, 0 ≤ y.1.time ∧ y.1.time ≤ 9007199254740991 := fun y hy => hk.t _ (List.mem_map_of_mem hy)
  have hkk := hk.k
  have hkb := hk.b
  have hxt := htm x (List.mem_of_getElem? hx)
  have hst : staysB M.now f (l.map (·.1)) i = (decide ((l.length : Int) - i ≤ f.last) || decide (M.now - f.young < x.1.time) || (!((l.drop (i + 1)).any fun p => decide (p.1.time / f.step = x.1.time / f.step)) && decide (((((l.map (·.1)).filterMap (grF f (x.1.time / f.step))).foldl addN []).length : Int) < f.count))) := by
    have e1 : (l.map (·.1))[i]? = some x.1 := by rw [List.getElem?_map, hx]; rfl
    unfold staysB
    rw [e1]
    simp only
    have e2 : ((l.map (·.1)).drop (i + 1)).any (fun w => decide (w.time / f.step = x.1.time / f.step)) = (l.drop (i + 1)).any fun p => decide (p.1.time / f.step = x.1.time / f.step) := by
      rw [← List.map_drop, List.any_map]; rfl
    rw [e2, List.length_map]; rfl
  rw [hst] at h
  generalize hm : x.1.time / f.step = m at h
  have hv1 : ∀ G, Rs B (G :: H) v vC l := fun G => hv [G]
  have hv2 : ∀ G1 G2, Rs B (G1 :: G2 :: H) v vC l := fun G1 G2 => hv [G1, G2]
  have hv3 : ∀ G1 G2 G3, Rs B (G1 :: G2 :: G3 :: H) v vC l := fun G1 G2 G3 => hv [G1, G2, G3]
  refine E_mono (W := s54 _ _ _ _ K) ?_ fun _ => c54
  unfold s54
  refine E_box (vs := keepL f) fun b7 => ?_
  refine E_join1 [v, I i, ptr b7, .bool (decide ((l.length : Int) - i ≤ f.last) || decide (M.now - f.young < x.1.time))] (cel true b7 43 (keepL f) :: cel true a 88 [p, q, I M.now] :: H) (fun k hk1 => ?_) ?_
  · refine E_dr ?_
    refine E_rslen (v := v) (l := l) ?_
    refine E_subI (by omega) (by omega) ?_
    (repeat first | refine gS ?_ | refine gA fun _ => ?_ | refine gX fun _ _ => ?_ | refine gT ?_ | refine gF ?_ | refine gI ?_)
    by_cases h1 : (l.length : Int) - i ≤ f.last
    · rw [decide_eq_true h1] at hk1 ⊢
      (repeat first | refine gS ?_ | refine gA fun _ => ?_ | refine gX fun _ _ => ?_ | refine gT ?_ | refine gF ?_ | refine gI ?_)
      exact sm hk1
    · rw [decide_eq_false h1] at hk1 ⊢
      (repeat first | refine gS ?_ | refine gA fun _ => ?_ | refine gX fun _ _ => ?_ | refine gT ?_ | refine gF ?_ | refine gI ?_)
      exact sm hk1
  refine E_fa fun _ => ?_
  refine E_ifb' (p := (l.length : Int) - i ≤ f.last ∨ M.now - f.young < x.1.time) (by simp) (fun e => ?_) (fun e => ?_)
  · have e1 : (decide ((l.length : Int) - i ≤ f.last) || decide (M.now - f.young < x.1.time)) = true := by simpa using e
    rw [e1, Bool.true_or] at h
    exact sm h
  have e1 : (decide ((l.length : Int) - i ≤ f.last) || decide (M.now - f.young < x.1.time)) = false := by
    cases hb : (decide ((l.length : Int) - i ≤ f.last) || decide (M.now - f.young < x.1.time)) with
    | false => rfl
    | true => exact (e (by simpa using hb)).elim
  rw [e1, Bool.false_or] at h
  (repeat first | refine gS ?_ | refine gX (fun _ _ => ?_) hx | refine gA fun _ => ?_)
  refine E_quoI hxt.1 (by omega) (by omega) ?_
  rw [hm]
  refine E_bsl0 u_ints elt_int fun b0 => ?_
  refine E_slsC (enc := cI) [] 0 rfl rfl ?_
  refine E_loop (n := 6) (σ := Nat × Cv × List Int) (fun s => s.1 ≤ l.length ∧ s.2.2 = (((l.take s.1).map (·.1)).filterMap (grF f m)).foldl addN [] ∧ (∀ t y, i < t → t < s.1 → l[t]? = some y → y.1.time / f.step ≠ m) ∧ s.2.2.length ≤ s.1)
    (fun s => [v, I i, ptr b7, I m, s.2.1.1, I s.1]) (fun s => sls cI 3 1 s.2.1.1 s.2.2 :: cel true b7 43 (keepL f) :: cel true a 88 [p, q, I M.now] :: H) (fun s => l.length - s.1) (0, ⟨.slice (some ⟨b0, 0, none⟩) 0 0, rfl⟩, []) (fun _ => rfl) rfl ⟨Nat.zero_le _, rfl, fun t y _ h => absurd h (Nat.not_lt_zero _), Nat.le_refl _⟩ (fun W hW => sm hW) ?_
  rintro ⟨j, gv, G⟩ K0 ⟨hj, hG, hno, hGl⟩ hk0
  simp only at hj hG hno hGl hk0 ⊢
  refine E_fa fun _ => ?_
  refine E_rslen (v := v) (l := l) ?_
  refine E_lss ?_
  refine E_if (fun hc => ?_) (fun hc => ?_)
  · have hy : l[j]? = some l[j] := List.getElem?_eq_getElem (by omega)
    generalize l[j] = y at hy
    have hyt := htm y (List.mem_of_getElem? hy)
    have hsn := gr_snoc (f := f) (m := m) hy
    rw [← hG] at hsn
    refine E_joinC (σ := Cv × List Int) (fun s => s.2 = (((l.take (j + 1)).map (·.1)).filterMap (grF f m)).foldl addN [] ∧ s.2.length ≤ j + 1 ∧ (∀ t y, i < t → t < j + 1 → l[t]? = some y → y.1.time / f.step ≠ m))
      (fun s => [v, I i, ptr b7, I m, s.1.1, I j]) (fun s => sls cI 3 1 s.1.1 s.2 :: cel true b7 43 (keepL f) :: cel true a 88 [p, q, I M.now] :: H) (fun k2 hk2 => ?_) (fun s hs => ?_)
    · (repeat first | refine gS ?_ | refine gX (fun _ _ => ?_) hy | refine gA fun _ => ?_)
      refine E_quoI hyt.1 (by omega) (by omega) ?_
      have hgr : ∀ s, y.1.time / f.step = s → grF f m y.1 = if m < s then some s else none := fun s e => by unfold grF; rw [e]
      generalize hs : y.1.time / f.step = s
      have hgr := hgr s hs
      rw [hgr] at hsn
      refine E_join1 [v, I i, ptr b7, I m, gv.1, I j, I s, .bool (decide (s = m) && decide ((i : Int) < (j : Int)))] (sls cI 3 1 gv.1 G :: cel true b7 43 (keepL f) :: cel true a 88 [p, q, I M.now] :: H) (fun k3 hk3 => ?_) ?_
      · (repeat first | refine gS ?_ | refine gY ?_ | refine gA fun _ => ?_ | refine gX fun _ _ => ?_ | refine gI ?_)
        exact sm hk3
      refine E_fa fun _ => ?_
      refine E_ifb' (p := s = m ∧ i < j) (by simp) (fun e => ?_) (fun e => ?_)
      · have : (l.drop (i + 1)).any (fun p => decide (p.1.time / f.step = m)) = true := by
          rw [List.any_eq_true]
          refine ⟨y, ?_, by simp [hs, e.1]⟩
          rw [List.mem_iff_getElem?]
          refine ⟨j - (i + 1), ?_⟩
          rw [List.getElem?_drop, show i + 1 + (j - (i + 1)) = j by omega]; exact hy
        rw [this, Bool.not_true, Bool.false_and] at h
        exact sm h
      · have hno' : ∀ t y, i < t → t < j + 1 → l[t]? = some y → y.1.time / f.step ≠ m := fun t y' h1 h2 h3 => by
          by_cases ht : t = j
          · subst ht
            rw [hy] at h3; cases h3
            rw [hs]; exact fun e' => e ⟨e', h1⟩
          · exact hno t y' h1 (by omega) h3
        refine E_loop (n := 9) (σ := Nat × Bool) (fun u => u.1 ≤ G.length ∧ u.2 = decide (s ∈ G.take u.1)) (fun u => [v, I i, ptr b7, I m, gv.1, I j, I s, .bool u.2, I u.1]) (fun _ => sls cI 3 1 gv.1 G :: cel true b7 43 (keepL f) :: cel true a 88 [p, q, I M.now] :: H) (fun u => G.length - u.1) (0, false) (fun _ => rfl) rfl ⟨Nat.zero_le _, by simp⟩ (fun W hW => hW) ?_
        rintro ⟨t, c⟩ K4 ⟨ht, hct⟩ hk4
        simp only at ht hct hk4 ⊢
        refine E_fa fun _ => ?_
        (repeat first | refine gS ?_ | refine gA fun _ => ?_ | refine gX fun _ _ => ?_ | refine gT ?_ | refine gF ?_ | refine gI ?_)
        refine E_if (fun hc2 => ?_) (fun hc2 => ?_)
        · have hz : G[t]? = some G[t] := List.getElem?_eq_getElem (by omega)
          generalize G[t] = z at hz
          have hstep : decide (s ∈ G.take (t + 1)) = (c || decide (z = s)) := by
            rw [hct, List.take_add_one, hz, Bool.eq_iff_iff]
            simp only [decide_eq_true_eq, Bool.or_eq_true, List.mem_append, Option.toList_some, List.mem_singleton]
            exact or_congr_right ⟨Eq.symm, Eq.symm⟩
          have hk5 := hk4 (t + 1, c || decide (z = s)) ⟨by simp only; omega, hstep.symm⟩ (by simp only; omega)
          cases c with
          | true =>
            (repeat first | refine gS ?_ | refine gA fun _ => ?_ | refine gX fun _ _ => ?_ | refine gT ?_ | refine gF ?_ | refine gI ?_)
            exact sm hk5
          | false =>
            refine E_gft ?_
            refine E_gft ?_
            refine E_gft ?_
            refine E_rsix (v := gv.1) (l := G) hz fun _ _ => ?_
            refine E_gft ?_
            refine E_ptld (u := I z) ?_
            (repeat first | refine gS ?_ | refine gA fun _ => ?_ | refine gX fun _ _ => ?_ | refine gT ?_ | refine gF ?_ | refine gI ?_)
            exact sm hk5
        · have hte : t = G.length := by omega
          rw [hte, List.take_length] at hct
          refine E_join1 [v, I i, ptr b7, I m, gv.1, I j, I s, .bool (decide (m < s) && !c)] (sls cI 3 1 gv.1 G :: cel true b7 43 (keepL f) :: cel true a 88 [p, q, I M.now] :: H) (fun k5 hk5 => ?_) ?_
          · (repeat first | refine gS ?_ | refine gY ?_ | refine gA fun _ => ?_ | refine gX fun _ _ => ?_ | refine gI ?_)
            exact sm hk5
          refine E_fa fun _ => ?_
          refine E_ifb' (p := m < s ∧ s ∉ G) (by simp [hct]) (fun e5 => ?_) (fun e5 => ?_)
          · rw [if_pos e5.1] at hsn
            simp only [addN, if_neg e5.2] at hsn
            refine E_sapp1 (enc := cI) s u_ints elt_int rfl (by decide) (by omega) (by omega) fun v' hv' => ?_
            have := hk2 (⟨v', hv'.pf⟩, G ++ [s]) ⟨hsn.symm, by simp; omega, hno'⟩
            exact this
          · have hsn' : (((l.take (j + 1)).map (·.1)).filterMap (grF f m)).foldl addN [] = G := by
              rw [hsn]
              by_cases h6 : m < s
              · rw [if_pos h6]
                simp only [addN]
                rw [if_pos (Classical.byContradiction fun h7 => e5 ⟨h6, h7⟩)]
              · rw [if_neg h6]
            have := hk2 (gv, G) ⟨hsn'.symm, by simp only; omega, hno'⟩
            exact this
    · obtain ⟨gv', G'⟩ := s
      obtain ⟨h2, h3, h4⟩ := hs
      refine E_fa fun _ => ?_
      refine E_addI (by omega) (by omega) ?_
      exact hk0 (j + 1, gv', G') ⟨by simp only; omega, h2, h4, h3⟩ (by simp only; omega)
  · have hje : j = l.length := by omega
    rw [hje, List.take_length] at hG
    have hany : (l.drop (i + 1)).any (fun p => decide (p.1.time / f.step = m)) = false := by
      rw [List.any_eq_false]
      intro y hy
      obtain ⟨t, ht⟩ := List.mem_iff_getElem?.1 hy
      rw [List.getElem?_drop] at ht
      have := hno (i + 1 + t) y (by omega) (by have := (List.getElem?_eq_some_iff.1 ht).1; omega) ht
      simpa using this
    rw [hany, Bool.not_false, Bool.true_and, ← hG] at h
    (repeat first | refine gS ?_ | refine gA fun _ => ?_ | refine gX fun _ _ => ?_ | refine gT ?_ | refine gF ?_ | refine gI ?_)
    exact sm h
end Go.Proofs.YtjafpncngmbcdaaGreat.Nam
end
section
namespace Go.Proofs.YtjafpncngmbcdaaGreat.Nam
open Go Go.SL Go.Proofs Go.Proofs.YtjafpncngmbcdaaGreat.Sh
variable {B : World} {H : List Asrt} {K : Value → WT} {W : WT} {a : Nat} {M : Bk} {f : Fa} {rv hv mv : Value}
variable {fv sv : Cv} {L : List FC} {LS : List SC} {Pf : List (Value × List FC)} {Lv : List (Value × List VR)} {Lr : List (Value × List Rf)} {Ps : List (Value × List SC)} {Lh : List (Value × List (List UInt8 × Int))}
theorem sof_isSome (hw : Inv M) (k : List UInt8) : (sof M.S k).isSome = decide (k ∈ M.S.map fun s : Sn => s.name) := by
  rw [Bool.eq_iff_iff]
  simp only [decide_eq_true_eq]
  constructor
  · intro h
    obtain ⟨s, hs⟩ := Option.isSome_iff_exists.1 h
    obtain ⟨h1, h2⟩ := sof_some hs
    exact List.mem_map.2 ⟨s, h1, h2⟩
  · intro h
    obtain ⟨s, h1, rfl⟩ := List.mem_map.1 h
    rw [hw.su s h1]; rfl
theorem risesB_iff {l : List (List UInt8 × Int)} : risesB l = true ↔ ∀ j x y, l[j]? = some x → l[j + 1]? = some y → x.1 < y.1 := by
  constructor
  · intro h j x y hx hy
    have := List.pairwise_iff_getElem.1 (of_decide_eq_true h) j (j + 1) (by have := (List.getElem?_eq_some_iff.1 hx).1; simp; omega) (by have := (List.getElem?_eq_some_iff.1 hy).1; simp; omega) (by omega)
    simp only [List.getElem_map] at this
    rw [(List.getElem?_eq_some_iff.1 hx).2, (List.getElem?_eq_some_iff.1 hy).2] at this
    exact this
  · intro h
    refine decide_eq_true (adj_pw fun j x y hx hy => ?_)
    rw [List.getElem?_map] at hx hy
    cases h1 : l[j]? with
    | none => rw [h1] at hx; cases hx
    | some p =>
      cases h2 : l[j + 1]? with
      | none => rw [h2] at hy; cases hy
      | some q =>
        rw [h1] at hx; rw [h2] at hy
        cases hx; cases hy
        exact h j p q h1 h2
attribute [local irreducible] S.pick S.ld S.ldN S.st S.box S.nc S.fad S.ixS S.ixA S.chr S.prt S.ext S.bin S.sh S.sbin S.beq S.neg1 S.com1 S.not1 S.cvt S.str1 S.lenS S.len S.cap S.lenM S.mx S.mn S.mkM S.cond S.gd S.fa S.dr S.rck S.join S.loop S.cvv S.eqv S.slc S.slcS S.b2s S.lk V U CF Gives E cel mpb osl ros dct dit itr lpo dfo
set_option maxRecDepth 8000
attribute [local irreducible] bk dbk
theorem checkD [CellI rv] [CellI hv] [CellI mv] [hr1 : Rs B H rv rfC f.refs] [hr2 : Rs B H hv hC f.held] [hr3 : Rs B H mv mvC f.moves] (ho : FaOk f) (hd : DOk ⟨fv, sv, L, LS, Pf, Lv, Lr, Ps, Lh⟩ M) (hw : Inv M) (h : E B (cel true a 88 [fv.1, sv.1, I M.now] :: spool fC Pf :: spool vC Lv :: spool rfC Lr :: spool shC Ps :: spool hC Lh :: H) (K (I (checkB M f)))) : E B (cel true a 88 [fv.1, sv.1, I M.now] :: spool fC Pf :: spool vC Lv :: spool rfC Lr :: spool shC Ps :: spool hC Lh :: H) (CF Tryz.prog 39 [ptr a, .agg (faL f rv hv mv).toArray] K) := by
  have fin : ∀ e : Int, checkB M f = e → E B (cel true a 88 [fv.1, sv.1, I M.now] :: spool fC Pf :: spool vC Lv :: spool rfC Lr :: spool shC Ps :: spool hC Lh :: H) (K (I e)) := fun e he => he ▸ h
  have hL := nms_len32 hd hw
  have hlen := hd.len
  have hfl := hw.fl
  have hns := nms_lt hw.v.n
  have h16 := hw.s16
  have hlS := hd.lenS
  have rf : ∀ H, Rs B (spool fC Pf :: H) fv.1 fC L := rs_pool hd.f
  have rs : ∀ H, Rs B (spool shC Ps :: H) sv.1 shC LS := rs_pool hd.s
  unfold checkB at fin
  refine E_mono (W := s39 _ _ K) ?_ fun _ => c39
  unfold s39
  refine E_box (vs := faL f rv hv mv) fun b3 => ?_
  (repeat first | refine gS ?_ | refine gA fun _ => ?_ | refine gX fun _ _ => ?_ | refine gT ?_ | refine gF ?_ | refine gI ?_)
  refine rcheck ho ?_
  (repeat first | refine gS ?_ | refine gA fun _ => ?_ | refine gX fun _ _ => ?_ | refine gT ?_ | refine gF ?_ | refine gI ?_)
  refine E_if (fun hc => ?_) (fun hc => ?_)
  · exact sm (fin _ (if_pos hc))
  rw [if_neg (by simpa using hc)] at fin
  have hc0 : checkF f = 0 := Decidable.not_not.1 hc
  obtain ⟨hk, hbad, hrl, hhl, hml, hmo, hho, hro, hbare⟩ := checkF0 hc0
  refine sm (G := cel true a 88 [fv.1, sv.1, I M.now] :: spool fC Pf :: spool vC Lv :: spool rfC Lr :: spool shC Ps :: spool hC Lh :: cel true b3 60 (faL f rv hv mv) :: H) ?_
  have fin : ∀ e : Int, _ = e → E B (cel true a 88 [fv.1, sv.1, I M.now] :: spool fC Pf :: spool vC Lv :: spool rfC Lr :: spool shC Ps :: spool hC Lh :: cel true b3 60 (faL f rv hv mv) :: H) (K (I e)) := fun e he => sm (fin e he)
  refine E_joinC (σ := Unit) (fun _ => checkB M f = 0) (fun _ => []) (fun _ => cel true a 88 [fv.1, sv.1, I M.now] :: spool fC Pf :: spool vC Lv :: spool rfC Lr :: spool shC Ps :: spool hC Lh :: cel true b3 60 (faL f rv hv mv) :: H) (fun q hq => ?_) (fun _ hz => ?_)
  case refine_2 =>
    refine E_fa fun _ => ?_
    rw [hz] at h
    exact sm h
  have hq : checkB M f = 0 → E B (cel true a 88 [fv.1, sv.1, I M.now] :: spool fC Pf :: spool vC Lv :: spool rfC Lr :: spool shC Ps :: spool hC Lh :: cel true b3 60 (faL f rv hv mv) :: H) (app 0 q []) := fun e => hq () e
  unfold checkB at hq
  rw [if_neg (by simpa using hc)] at hq
  by_cases h8 : f.k = 8
  · rw [if_pos h8] at fin hq
    (repeat first | refine gS ?_ | refine gA fun _ => ?_ | refine gX fun _ _ => ?_ | refine gT ?_ | refine gF ?_ | refine gI ?_)
    refine E_if (fun e => ?_) (fun e => ?_)
    · exact sm (fin 2 (if_pos e))
    · exact sm (hq (if_neg e))
  rw [if_neg h8] at fin hq
  by_cases h3 : f.k = 3
  · rw [if_pos h3] at fin hq
    (repeat first | refine gS ?_ | refine gA fun _ => ?_ | refine gX fun _ _ => ?_ | refine gT ?_ | refine gF ?_ | refine gI ?_)
    refine E_if (fun e => ?_) (fun e => ?_)
    · exact sm (fin 2 (if_pos e))
    rw [if_neg e] at fin hq
    (repeat first | refine gS ?_ | refine gA fun _ => ?_ | refine gX fun _ _ => ?_ | refine gT ?_ | refine gF ?_ | refine gI ?_)
    refine nextD hd hw ?_
    (repeat (refine E_rck1 (by first | exact E_ld (E_fact rfl) | exact E_ld' (by assumption) (E_fact rfl) | exact E_b2sR (E_fact rfl) | exact E_gdnF (by assumption) (E_ld (E_fact rfl)) | exact E_gdT (by assumption) (E_ld (E_fact rfl)) | exact E_gtf (E_ld (E_fact rfl)) | exact E_gft (E_ld (E_fact rfl)) | exact E_ldNA (E_fact rfl) | exact E_ptld (E_fact rfl) | exact E_gtf (E_ldNA (E_fact rfl))) ?_)); (first | (refine E_rck0 ?_) | skip)
    refine E_lss ?_
    refine E_if (fun e => ?_) (fun e => ?_)
    · exact sm (fin 10 (if_pos e))
    rw [if_neg e] at fin hq
    (repeat first | refine gS ?_ | refine gA fun _ => ?_ | refine gX fun _ _ => ?_ | refine gT ?_ | refine gF ?_ | refine gI ?_)
    refine fileD hd hw ?_
    (repeat first | refine gS ?_ | refine gA fun _ => ?_ | refine gX fun _ _ => ?_ | refine gT ?_ | refine gF ?_ | refine gI ?_)
    have hfn := hfl f.name
    refine E_join1 [.bool (decide ((fof M.V f.name = [] ∧ (nms M.V).length = 64) ∨ (fof M.V f.name).length = 32))] (cel true a 88 [fv.1, sv.1, I M.now] :: spool fC Pf :: spool vC Lv :: spool rfC Lr :: spool shC Ps :: spool hC Lh :: cel true b3 60 (faL f rv hv mv) :: H) (fun q2 hq2 => ?_) ?_
    · by_cases hn : f.name ∈ nms M.V
      · rw [decide_eq_true hn]
        obtain ⟨c, l, hx, hl⟩ := hd.get (pos_mem hns hn)
        have rl := rs_pool (B := B) (enc := vC) hl.m
        have hll : l.length = (fof M.V f.name).length := by rw [← hl.e, List.length_map]
        have e : decide ((fof M.V f.name = [] ∧ (nms M.V).length = 64) ∨ (fof M.V f.name).length = 32) = decide ((32 : Int) ≤ l.length) := by
          rw [decide_eq_decide]
          have := fof_some hn
          constructor
          · rintro (h | h)
            · exact (this h.1).elim
            · omega
          · intro h; exact .inr (by omega)
        rw [e] at hq2
        (repeat first | refine gS ?_ | refine gA fun _ => ?_ | refine gX fun _ _ => ?_ | refine gT ?_ | refine gF ?_ | refine gI ?_)
        exact sm hq2
      · rw [decide_eq_false hn]
        have e : decide ((fof M.V f.name = [] ∧ (nms M.V).length = 64) ∨ (fof M.V f.name).length = 32) = decide ((64 : Int) ≤ L.length) := by
          rw [decide_eq_decide, fof_none hn]
          simp; omega
        rw [e] at hq2
        (repeat first | refine gS ?_ | refine gA fun _ => ?_ | refine gX fun _ _ => ?_ | refine gT ?_ | refine gF ?_ | refine gI ?_)
        by_cases h64 : (64 : Int) ≤ L.length
        · rw [decide_eq_true h64] at hq2 ⊢
          (repeat first | refine gS ?_ | refine gA fun _ => ?_ | refine gX fun _ _ => ?_ | refine gT ?_ | refine gF ?_ | refine gI ?_)
          exact sm hq2
        · rw [decide_eq_false h64] at hq2 ⊢
          (repeat first | refine gS ?_ | refine gA fun _ => ?_ | refine gX fun _ _ => ?_ | refine gT ?_ | refine gF ?_ | refine gI ?_)
          exact sm hq2
    · refine E_fa fun _ => ?_
      refine E_if (fun e => ?_) (fun e => ?_)
      · exact sm (fin 6 (if_pos e))
      · exact sm (hq (if_neg e))
  rw [if_neg h3] at fin hq
  by_cases h4 : f.k = 4
  · rw [if_pos h4] at fin hq
    (repeat first | refine gS ?_ | refine gA fun _ => ?_ | refine gX fun _ _ => ?_ | refine gT ?_ | refine gF ?_ | refine gI ?_)
    refine E_build (l := [str f.name, I f.gen]) str_held ?_
    refine liveD hd hw ?_
    cases hl : liveB M.V f.name f.gen with
    | true =>
      rw [hl] at hq
      (repeat first | refine gS ?_ | refine gA fun _ => ?_ | refine gX fun _ _ => ?_ | refine gT ?_ | refine gF ?_ | refine gI ?_)
      exact sm (hq rfl)
    | false =>
      rw [hl] at fin
      (repeat first | refine gS ?_ | refine gA fun _ => ?_ | refine gX fun _ _ => ?_ | refine gT ?_ | refine gF ?_ | refine gI ?_)
      exact sm (fin 9 rfl)
  rw [if_neg h4] at fin hq
  by_cases h5 : f.k = 5
  · rw [if_pos h5] at fin hq
    (repeat first | refine gS ?_ | refine gA fun _ => ?_ | refine gX fun _ _ => ?_ | refine gT ?_ | refine gF ?_ | refine gI ?_)
    refine E_if (fun e => ?_) (fun e => ?_)
    · exact sm (fin 2 (if_pos e))
    rw [if_neg e] at fin hq
    (repeat first | refine gS ?_ | refine gA fun _ => ?_ | refine gX fun _ _ => ?_ | refine gT ?_ | refine gF ?_ | refine gI ?_)
    refine shotD hd hw ?_
    (repeat first | refine gS ?_ | refine gA fun _ => ?_ | refine gX fun _ _ => ?_ | refine gT ?_ | refine gF ?_ | refine gI ?_)
    rw [← sof_isSome hw]
    cases hso : (sof M.S f.name).isSome with
    | true =>
      rw [hso] at fin
      (repeat first | refine gS ?_ | refine gA fun _ => ?_ | refine gX fun _ _ => ?_ | refine gT ?_ | refine gF ?_ | refine gI ?_)
      exact sm (fin 10 rfl)
    | false =>
    rw [hso] at fin hq
    simp only [Bool.false_eq_true, if_false] at fin hq
    (repeat first | refine gS ?_ | refine gA fun _ => ?_ | refine gX fun _ _ => ?_ | refine gT ?_ | refine gF ?_ | refine gI ?_)
    refine E_if (fun e => ?_) (fun e => ?_)
    · exact sm (fin 6 (if_pos (by omega)))
    rw [if_neg (by omega)] at fin hq
    refine E_loop (n := 3) (σ := Nat) (fun i => i ≤ f.held.length ∧ ∀ y ∈ f.held.take i, liveB M.V y.1 y.2 = true) (fun i => [ptr a, ptr b3, I i]) (fun _ => cel true a 88 [fv.1, sv.1, I M.now] :: spool fC Pf :: spool vC Lv :: spool rfC Lr :: spool shC Ps :: spool hC Lh :: cel true b3 60 (faL f rv hv mv) :: H) (fun i => f.held.length - i) 0 (fun _ => rfl) rfl ⟨Nat.zero_le _, by simp⟩ (fun W hW => sm hW) ?_
    rintro i K0 ⟨hi, ha⟩ hk0
    refine E_fa fun _ => ?_
    (repeat first | refine gS ?_ | refine gA fun _ => ?_ | refine gX fun _ _ => ?_ | refine gT ?_ | refine gF ?_ | refine gI ?_)
    refine E_if (fun hc1 => ?_) (fun hc1 => ?_)
    · have hx : f.held[i]? = some f.held[i] := List.getElem?_eq_getElem (by omega)
      have hxm := List.mem_of_getElem? hx
      generalize f.held[i] = x at hx hxm
      (repeat first | refine gS ?_ | refine gA fun _ => ?_ | refine gX fun _ _ => ?_ | refine gT ?_ | refine gF ?_ | refine gI ?_)
      show E B _ (CF Tryz.prog 90 [ptr a, .agg #[str x.1, I x.2]] _)
      refine liveD hd hw ?_
      cases hl : liveB M.V x.1 x.2 with
      | true =>
        (repeat first | refine gS ?_ | refine gA fun _ => ?_ | refine gX fun _ _ => ?_ | refine gT ?_ | refine gF ?_ | refine gI ?_)
        refine hk0 (i + 1) ⟨by omega, fun y hy => ?_⟩ (by omega)
        rw [List.take_add_one, hx] at hy
        rcases List.mem_append.1 hy with hy | hy
        · exact ha y hy
        · simp at hy; subst hy; exact hl
      | false =>
        (repeat first | refine gS ?_ | refine gA fun _ => ?_ | refine gX fun _ _ => ?_ | refine gT ?_ | refine gF ?_ | refine gI ?_)
        exact sm (fin 9 (if_pos (List.any_eq_true.2 ⟨x, hxm, by simp [hl]⟩)))
    · have hie : i = f.held.length := by omega
      rw [hie, List.take_length] at ha
      have hany : (f.held.any fun h => !liveB M.V h.1 h.2) = false := by
        rw [List.any_eq_false]; intro y hy; simp [ha y hy]
      rw [hany] at fin hq
      simp only [Bool.false_eq_true, if_false] at fin hq
      clear hk0 hc1 hie hi ha
      refine E_loop (n := 2) (σ := Nat) (fun i => 1 ≤ i ∧ (i ≤ f.held.length ∨ i = 1) ∧ ∀ j x y, j + 1 < i → f.held[j]? = some x → f.held[j + 1]? = some y → x.1 < y.1) (fun i => [ptr b3, I i]) (fun _ => cel true a 88 [fv.1, sv.1, I M.now] :: spool fC Pf :: spool vC Lv :: spool rfC Lr :: spool shC Ps :: spool hC Lh :: cel true b3 60 (faL f rv hv mv) :: H) (fun i => f.held.length - i) 1 (fun _ => rfl) rfl ⟨Nat.le_refl _, .inr rfl, fun j x y h => absurd h (by omega)⟩ (fun W hW => sm hW) ?_
      rintro i K0 ⟨hi1, hi, ha⟩ hk0
      refine E_fa fun _ => ?_
      (repeat first | refine gS ?_ | refine gA fun _ => ?_ | refine gX fun _ _ => ?_ | refine gT ?_ | refine gF ?_ | refine gI ?_)
      refine E_if (fun hc1 => ?_) (fun hc1 => ?_)
      · obtain ⟨j, rfl⟩ : ∃ j, i = j + 1 := ⟨i - 1, by omega⟩
        have hx : f.held[j]? = some f.held[j] := List.getElem?_eq_getElem (by omega)
        have hy : f.held[j + 1]? = some f.held[j + 1] := List.getElem?_eq_getElem (by omega)
        generalize f.held[j] = x at hx
        generalize f.held[j + 1] = y at hy
        (repeat first | refine gS ?_ | refine gA fun _ => ?_ | refine gX fun _ _ => ?_ | refine gT ?_ | refine gF ?_ | refine gI ?_)
        rw [show ((j + 1 : Nat) : Int) - 1 = (j : Int) by omega]
        (repeat first | refine gS ?_ | refine gA fun _ => ?_ | refine gX fun _ _ => ?_ | refine gT ?_ | refine gF ?_ | refine gI ?_)
        refine E_if (fun e => ?_) (fun e => ?_)
        · have hf : risesB f.held = false := by
            cases hr : risesB f.held with
            | false => rfl
            | true => exact (e (risesB_iff.1 hr j x y hx hy)).elim
          exact sm (fin 4 (by rw [hf]; rfl))
        · refine E_addI (by omega) (by omega) ?_
          refine hk0 (j + 1 + 1) ⟨by omega, .inl (by omega), fun j' x' y' hj' hx' hy' => ?_⟩ (by omega)
          by_cases hjj : j' = j
          · subst hjj
            rw [hx] at hx'; rw [hy] at hy'
            cases hx'; cases hy'
            exact Classical.byContradiction fun hn => e hn
          · exact ha j' x' y' (by omega) hx' hy'
      · have hf : risesB f.held = true := risesB_iff.2 fun j x y hx hy => ha j x y (by have := (List.getElem?_eq_some_iff.1 hy).1; omega) hx hy
        exact sm (hq (by rw [hf]; rfl))
  rw [if_neg h5] at fin hq
  by_cases h6 : f.k = 6
  · rw [if_pos h6] at fin hq
    (repeat first | refine gS ?_ | refine gA fun _ => ?_ | refine gX fun _ _ => ?_ | refine gT ?_ | refine gF ?_ | refine gI ?_)
    refine shotD hd hw ?_
    rw [← sof_isSome hw]
    (repeat first | refine gS ?_ | refine gA fun _ => ?_ | refine gX fun _ _ => ?_ | refine gT ?_ | refine gF ?_ | refine gI ?_)
    cases hso : (sof M.S f.name).isSome with
    | true =>
      rw [hso] at hq
      (repeat first | refine gS ?_ | refine gA fun _ => ?_ | refine gX fun _ _ => ?_ | refine gT ?_ | refine gF ?_ | refine gI ?_)
      exact sm (hq rfl)
    | false =>
      rw [hso] at fin
      (repeat first | refine gS ?_ | refine gA fun _ => ?_ | refine gX fun _ _ => ?_ | refine gT ?_ | refine gF ?_ | refine gI ?_)
      exact sm (fin 9 rfl)
  rw [if_neg h6] at fin hq
  (repeat first | refine gS ?_ | refine gA fun _ => ?_ | refine gX fun _ _ => ?_ | refine gT ?_ | refine gF ?_ | refine gI ?_)
  exact sm (hq rfl)
end Go.Proofs.YtjafpncngmbcdaaGreat.Nam
end
section
namespace Go.Proofs.YtjafpncngmbcdaaGreat.Nam
open Go Go.SL Go.Proofs Go.Proofs.YtjafpncngmbcdaaGreat.Sh
variable {B : World} {H : List Asrt} {K : Value → WT} {W : WT} {a : Nat} {M : Bk} {f : Fa}
variable {fv sv : Cv} {L : List FC} {LS : List SC} {Pf : List (Value × List FC)} {Lv : List (Value × List VR)} {Lr : List (Value × List Rf)} {Ps : List (Value × List SC)} {Lh : List (Value × List (List UInt8 × Int))}
instance {m : Mv} : AtI (mvC m) (2 + 0) (I m.tb) := ⟨rfl⟩
instance {m : Mv} : AtI (mvC m) (2 + 1) (I m.ts) := ⟨rfl⟩
attribute [local irreducible] S.pick S.ld S.ldN S.st S.box S.nc S.fad S.ixS S.ixA S.chr S.prt S.ext S.bin S.sh S.sbin S.beq S.neg1 S.com1 S.not1 S.cvt S.str1 S.lenS S.len S.cap S.lenM S.mx S.mn S.mkM S.cond S.gd S.fa S.dr S.rck S.join S.loop S.cvv S.eqv S.slc S.slcS S.b2s S.lk V U CF Gives E cel mpb osl ros dct dit itr lpo dfo
set_option maxRecDepth 8000
attribute [local irreducible] bk dbk
theorem withD {n : Int} {i k : Nat} {mv : Value} {ms : List FC} (hf : (fv.1, L) ∈ Pf) (hi : i ≤ L.length) (hk : k ≤ L.length) (hL : L.length ≤ 1000) (hml : ms.length ≤ 1000) (hm : ∀ G, Rs B (G ++ H) mv fC ms)
    (h : ∀ v' [CellI v'], E B (cel true a 88 [v', sv.1, I n] :: spool fC ((v', L.take i ++ ms ++ L.drop k) :: Pf) :: spool vC Lv :: spool rfC Lr :: spool shC Ps :: spool hC Lh :: H) (K (.tuple #[]))) : E B (cel true a 88 [fv.1, sv.1, I n] :: spool fC Pf :: spool vC Lv :: spool rfC Lr :: spool shC Ps :: spool hC Lh :: H) (CF Tryz.prog 75 [ptr a, I i, I k, mv] K) := by
  have rf : ∀ H, Rs B (spool fC Pf :: H) fv.1 fC L := rs_pool hf
  have hm7 : ∀ G1 G2 G3 G4 G5 G6, Rs B (G1 :: G2 :: G3 :: G4 :: G5 :: G6 :: H) mv fC ms := fun G1 G2 G3 G4 G5 G6 => hm [G1, G2, G3, G4, G5, G6]
  refine E_mono (W := s75 _ _ _ _ K) ?_ fun _ => c75
  unfold s75
  refine E_bsl0 u_fileL elt_file fun b0 => ?_
  refine E_slsC (enc := fC) [] 0 rfl rfl ?_
  (repeat first | refine gS ?_ | refine gA fun _ => ?_)
  refine E_slcS2 (v := fv.1) (l := L) (i := 0) (j := i) (by simp [S.bound]) rfl (by omega) hi fun v1 _ _ => ?_
  refine fd (a := sls fC 86 2 (.slice (some ⟨b0, 0, none⟩) 0 0) []) ?_
  refine E_sapps (enc := fC) (l := []) (m := (L.drop 0).take (i - 0)) u_fileL elt_file (by simp; omega) (by simp; omega) fun v2 _ => ?_
  refine E_sapps (enc := fC) (l := [] ++ (L.drop 0).take (i - 0)) (m := ms) u_fileL elt_file (by simp; omega) (by simp; omega) fun v3 _ => ?_
  (repeat first | refine gS ?_ | refine gA fun _ => ?_)
  refine E_slcS2 (v := fv.1) (l := L) (i := k) (j := L.length) rfl (by simp [S.bound]) hk (Nat.le_refl _) fun v4 _ _ => ?_
  refine fd (a := sls fC 86 2 v3 ([] ++ (L.drop 0).take (i - 0) ++ ms)) ?_
  refine E_sapps (enc := fC) (m := (L.drop k).take (L.length - k)) u_fileL elt_file (by simp; omega) (by simp; omega) fun v5 _ => ?_
  have e : [] ++ (L.drop 0).take (i - 0) ++ ms ++ (L.drop k).take (L.length - k) = L.take i ++ ms ++ L.drop k := by
    rw [List.nil_append, List.drop_zero, Nat.sub_zero, List.take_of_length_le (l := L.drop k) (by simp)]
  rw [e]
  (repeat first | refine gS ?_ | refine gA fun _ => ?_)
  refine fd (a := spool fC Pf) ?_
  refine fd (a := sls fC 86 2 v5 (L.take i ++ ms ++ L.drop k)) ?_
  refine E_give ?_
  exact sm (h v5)
theorem moveRD {v mv : Value} {l : List Rf} {ms : List Mv} (hv : ∀ G, Rs B (G ++ H) v rfC l) (hm : ∀ G, Rs B (G ++ H) mv mvC ms) (hn : l.length ≤ 1000000) (hmn : ms.length ≤ 140737488355328) (h : ∀ v' (n : Int) [CellI v'], E B (sls rfC 38 35 v' (l.map (moveR ms)) :: H) (K (.tuple #[v', I n]))) :
    E B H (CF Tryz.prog 77 [v, mv] K) := by
  have hv1 : ∀ G1, Rs B (G1 :: H) v rfC l := fun G1 => hv [G1]
  have hm2 : ∀ G1 G2, Rs B (G1 :: G2 :: H) mv mvC ms := fun G1 G2 => hm [G1, G2]
  refine E_mono (W := s77 _ _ K) ?_ fun _ => c77
  unfold s77
  refine E_bsl0 u_refs elt_ref fun b0 => ?_
  refine E_slsC (enc := rfC) [] 0 rfl rfl ?_
  refine E_loop (n := 5) (σ := Nat × Cv × Nat) (fun s => s.1 ≤ l.length ∧ s.2.2 ≤ s.1) (fun s => [v, mv, s.2.1.1, I s.2.2, I s.1]) (fun s => sls rfC 38 35 s.2.1.1 ((l.take s.1).map (moveR ms)) :: H) (fun s => l.length - s.1) (0, ⟨.slice (some ⟨b0, 0, none⟩) 0 0, rfl⟩, 0) (fun _ => rfl) rfl ⟨Nat.zero_le _, Nat.le_refl _⟩ (fun W hW => hW) ?_
  rintro ⟨i, ov, n⟩ K0 ⟨hi, hni⟩ hk0
  simp only at hi hni hk0 ⊢
  refine E_fa fun _ => ?_
  refine E_rslen (v := v) (l := l) ?_
  refine E_lss ?_
  refine E_if (fun hc => ?_) (fun hc => ?_)
  · have hx : l[i]? = some l[i] := List.getElem?_eq_getElem (by omega)
    generalize l[i] = x at hx
    refine E_rsix (v := v) (l := l) hx fun _ _ => ?_
    refine E_ptldA ?_
    refine E_box fun b9 => ?_
    refine E_stW (vs := rfC x) (rfC_len x) rfl ?_
    have hmr := moveR_eq ms x
    refine E_joinC (σ := Nat) (fun n' => n' ≤ i + 1) (fun n' => [v, mv, ov.1, I n', I i, ptr b9]) (fun _ => cel true b9 38 (rfC (moveR ms x)) :: sls rfC 38 35 ov.1 ((l.take i).map (moveR ms)) :: H) (fun k hk => ?_) (fun n' hn' => ?_)
    · refine E_loop (n := 7) (σ := Nat) (fun j => j ≤ ms.length ∧ ∀ m ∈ ms.take j, mvP (x.bin, x.slot) m = false) (fun j => [v, mv, ov.1, I n, I i, ptr b9, I j]) (fun _ => cel true b9 38 (rfC x) :: sls rfC 38 35 ov.1 ((l.take i).map (moveR ms)) :: H) (fun j => ms.length - j) 0 (fun _ => rfl) rfl ⟨Nat.zero_le _, by simp⟩ (fun W hW => sm hW) ?_
      rintro j K1 ⟨hj, ha⟩ hk1
      refine E_fa fun _ => ?_
      refine E_rslen (v := mv) (l := ms) ?_
      refine E_lss ?_
      refine E_if (fun hc1 => ?_) (fun hc1 => ?_)
      · have hy : ms[j]? = some ms[j] := List.getElem?_eq_getElem (by omega)
        have hdr : ms = ms.take j ++ ms[j] :: ms.drop (j + 1) := by rw [List.getElem_cons_drop, List.take_append_drop]
        generalize ms[j] = m at hy hdr
        refine E_join1 [v, mv, ov.1, I n, I i, ptr b9, I j, .bool (mvP (x.bin, x.slot) m)] (cel true b9 38 (rfC x) :: sls rfC 38 35 ov.1 ((l.take i).map (moveR ms)) :: H) (fun k2 hk2 => ?_) ?_
        · refine E_dr ?_
          (repeat first | refine gS ?_ | refine gA fun _ => ?_ | refine gX fun _ _ => ?_ | refine gT ?_ | refine gF ?_ | refine gI ?_)
          by_cases h1 : m.fb = x.bin
          · have e : mvP (x.bin, x.slot) m = decide (m.fs = x.slot) := by simp [mvP, h1]
            rw [e] at hk2
            rw [decide_eq_true h1]
            (repeat first | refine gS ?_ | refine gA fun _ => ?_ | refine gX fun _ _ => ?_ | refine gT ?_ | refine gF ?_ | refine gI ?_)
            exact sm hk2
          · have e : mvP (x.bin, x.slot) m = false := by simp [mvP, h1]
            rw [e] at hk2
            rw [decide_eq_false h1]
            (repeat first | refine gS ?_ | refine gA fun _ => ?_ | refine gX fun _ _ => ?_ | refine gT ?_ | refine gF ?_ | refine gI ?_)
            exact sm hk2
        · refine E_fa fun _ => ?_
          cases hp : mvP (x.bin, x.slot) m with
          | true =>
            have hf : ms.find? (mvP (x.bin, x.slot)) = some m := by
              rw [hdr, List.find?_append, List.find?_eq_none.2 fun y hy => by simp [ha y hy]]
              simp [hp]
            rw [hf] at hmr
            simp only at hmr
            (repeat first | refine gS ?_ | refine gA fun _ => ?_ | refine gX fun _ _ => ?_ | refine gT ?_ | refine gF ?_ | refine gI ?_)
            refine E_st' (l := rfC x) (o := 33) (hf := takC_here) (by rw [rfC_len]; decide) ?_
            rw [← rfC_bin x m.tb]
            (repeat first | refine gS ?_ | refine gA fun _ => ?_ | refine gX fun _ _ => ?_ | refine gT ?_ | refine gF ?_ | refine gI ?_)
            refine E_st' (l := rfC { x with bin := m.tb }) (o := 34) (hf := takC_here) (by rw [rfC_len]; decide) ?_
            rw [← rfC_slot { x with bin := m.tb } m.ts]
            refine E_addI (by omega) (by omega) ?_
            have hk3 := hk (n + 1) (by omega)
            rw [hmr] at hk3
            exact sm hk3
          | false =>
            (repeat first | refine gS ?_ | refine gA fun _ => ?_ | refine gX fun _ _ => ?_ | refine gT ?_ | refine gF ?_ | refine gI ?_)
            refine hk1 (j + 1) ⟨by omega, fun y hy' => ?_⟩ (by omega)
            rw [List.take_add_one, hy] at hy'
            rcases List.mem_append.1 hy' with hy' | hy'
            · exact ha y hy'
            · simp at hy'; subst hy'; exact hp
      · have hje : j = ms.length := by omega
        rw [hje, List.take_length] at ha
        rw [List.find?_eq_none.2 fun y hy => by simp [ha y hy]] at hmr
        simp only at hmr
        have hk3 := hk n (by omega)
        rw [hmr] at hk3
        exact hk3
    · refine E_fa fun _ => ?_
      (repeat first | refine gS ?_ | refine gA fun _ => ?_)
      refine fd (a := sls rfC 38 35 ov.1 ((l.take i).map (moveR ms))) ?_
      refine E_sapp1 (enc := rfC) (moveR ms x) u_refs elt_ref rfl (by decide) (by simp; omega) (by simp; omega) fun v' hv' => ?_
      refine E_addI (by omega) (by omega) ?_
      have hk1 := hk0 (i + 1, ⟨v', hv'.pf⟩, n') ⟨by simp only; omega, hn'⟩ (by simp only; omega)
      simp only [List.take_add_one, hx, List.map_append, Option.toList_some, List.map_singleton] at hk1
      exact sm hk1
  · have hie : i = l.length := by omega
    rw [hie, List.take_length]
    have : CellI ov.1 := ⟨ov.2⟩
    exact h ov.1 n
end Go.Proofs.YtjafpncngmbcdaaGreat.Nam
end
section
namespace Go.Proofs.YtjafpncngmbcdaaGreat.Nam
open Go Go.SL Go.Proofs Go.Proofs.YtjafpncngmbcdaaGreat.Sh
variable {B : World} {H : List Asrt} {K : Value → WT} {W : WT} {a : Nat} {M : Bk} {f : Fa}
variable {fv sv : Cv} {L : List FC} {LS : List SC} {Pf : List (Value × List FC)} {Lv : List (Value × List VR)} {Lr : List (Value × List Rf)} {Ps : List (Value × List SC)} {Lh : List (Value × List (List UInt8 × Int))}
theorem nms_filter {V : List Ver} (hs : SrtN V) (q : Ver → Bool) : nms (V.filter q) = (nms V).filter fun k => decide ((fof V k).filter q ≠ []) := by
  have hs' : SrtN (V.filter q) := hs.sublist List.filter_sublist
  refine sorted_ext (r := (· < ·)) (fun a b h => slt_asymm h) (nms_lt hs') ((nms_lt hs).sublist List.filter_sublist) fun k => ?_
  rw [List.mem_filter, ← fof_filter]
  simp only [decide_eq_true_eq]
  constructor
  · intro h
    refine ⟨?_, fof_some h⟩
    obtain ⟨v, hv, e⟩ := nms_mem.1 h
    exact nms_mem.2 ⟨v, (List.mem_filter.1 hv).1, e⟩
  · rintro ⟨_, h⟩
    exact Classical.byContradiction fun hn => h (fof_none hn)
theorem heldB_take {S : List Sn} {t : Nat} {s : Sn} {n : List UInt8} {g : Int} (h : S[t]? = some s) : heldB (S.take (t + 1)) n g = (heldB (S.take t) n g || decide ((n, g) ∈ s.held)) := by
  unfold heldB
  rw [List.take_add_one, h, List.any_append]; simp
attribute [local irreducible] S.pick S.ld S.ldN S.st S.box S.nc S.fad S.ixS S.ixA S.chr S.prt S.ext S.bin S.sh S.sbin S.beq S.neg1 S.com1 S.not1 S.cvt S.str1 S.lenS S.len S.cap S.lenM S.mx S.mn S.mkM S.cond S.gd S.fa S.dr S.rck S.join S.loop S.cvv S.eqv S.slc S.slcS S.b2s S.lk V U CF Gives E cel mpb osl ros dct dit itr lpo dfo
set_option maxRecDepth 8000
attribute [local irreducible] bk dbk
theorem sweepD (hd : DOk ⟨fv, sv, L, LS, Pf, Lv, Lr, Ps, Lh⟩ M) (hs : SrtN M.V) (hL : (nms M.V).length ≤ 1000) (hfl : ∀ k, (fof M.V k).length ≤ 1000) (h16 : M.S.length ≤ 1000) (hhl : ∀ s ∈ M.S, s.held.length ≤ 1000)
    (h : ∀ (fv' : Cv) L' Pf' Lv', DOk ⟨fv', sv, L', LS, Pf', Lv', Lr, Ps, Lh⟩ { M with V := sweepV M.S M.V } → E B (cel true a 88 [fv'.1, sv.1, I M.now] :: spool fC Pf' :: spool vC Lv' :: spool rfC Lr :: spool shC Ps :: spool hC Lh :: H) (K (.tuple #[]))) : E B (cel true a 88 [fv.1, sv.1, I M.now] :: spool fC Pf :: spool vC Lv :: spool rfC Lr :: spool shC Ps :: spool hC Lh :: H) (CF Tryz.prog 76 [ptr a] K) := by
  have hlen := hd.len
  have hlS := hd.lenS
  have rf : ∀ H, Rs B (spool fC Pf :: H) fv.1 fC L := rs_pool hd.f
  have rs : ∀ H, Rs B (spool shC Ps :: H) sv.1 shC LS := rs_pool hd.s
  refine E_mono (W := s76 _ K) ?_ fun _ => c76
  unfold s76
  refine E_bsl0 u_fileL elt_file fun b0 => ?_
  refine E_slsC (enc := fC) [] 0 rfl rfl ?_
  refine E_loop (n := 3) (σ := Nat × Cv × List FC × List (Value × List VR)) (fun s => s.1 ≤ L.length ∧ s.2.2.1.map (·.1) = ((nms M.V).take s.1).filter (fun k => decide ((fof M.V k).filter (keepP M.S) ≠ [])) ∧ (∀ p ∈ s.2.2.1, ∃ l, VOk s.2.2.2 Lr p.2.1 l ((fof M.V p.1).filter (keepP M.S))) ∧ (∀ q ∈ Lv, q ∈ s.2.2.2) ∧ s.2.2.1.length ≤ s.1)
    (fun s => [ptr a, s.2.1.1, I s.1]) (fun s => sls fC 86 2 s.2.1.1 s.2.2.1 :: cel true a 88 [fv.1, sv.1, I M.now] :: spool fC Pf :: spool vC s.2.2.2 :: spool rfC Lr :: spool shC Ps :: spool hC Lh :: H) (fun s => L.length - s.1) (0, ⟨.slice (some ⟨b0, 0, none⟩) 0 0, rfl⟩, [], Lv) (fun _ => rfl) rfl ⟨Nat.zero_le _, rfl, by simp, fun q hq => hq, Nat.le_refl _⟩ (fun W hW => sm hW) ?_
  rintro ⟨i, ov, Lo, Qv⟩ K0 ⟨hi, hLo, hLk, hQ, hLl⟩ hk0
  simp only at hi hLo hLk hQ hLl hk0 ⊢
  refine E_fa fun _ => ?_
  (repeat first | refine gS ?_ | refine gA fun _ => ?_ | refine gX fun _ _ => ?_ | refine gT ?_ | refine gF ?_ | refine gI ?_)
  refine E_if (fun hc => ?_) (fun hc => ?_)
  · have hx : (nms M.V)[i]? = some (nms M.V)[i] := List.getElem?_eq_getElem (by omega)
    generalize (nms M.V)[i] = k at hx
    obtain ⟨c, l, hx', hl⟩ := hd.get hx
    have rl := rs_pool (B := B) (enc := vC) (hQ _ hl.m)
    have hll : l.length = (fof M.V k).length := by rw [← hl.e, List.length_map]
    have hlk := hfl k
    have hln : ∀ y ∈ l, y.1.name = k := fun y hy => (fof_mem.1 (hl.e ▸ List.mem_map_of_mem hy)).2
    have hle := hl.e
    refine E_joinC (σ := Cv × List FC × List (Value × List VR)) (fun s => s.2.1.map (·.1) = ((nms M.V).take (i + 1)).filter (fun k => decide ((fof M.V k).filter (keepP M.S) ≠ [])) ∧ (∀ p ∈ s.2.1, ∃ l, VOk s.2.2 Lr p.2.1 l ((fof M.V p.1).filter (keepP M.S))) ∧ (∀ q ∈ Lv, q ∈ s.2.2) ∧ s.2.1.length ≤ i + 1)
      (fun s => [ptr a, s.1.1, I i]) (fun s => sls fC 86 2 s.1.1 s.2.1 :: cel true a 88 [fv.1, sv.1, I M.now] :: spool fC Pf :: spool vC s.2.2 :: spool rfC Lr :: spool shC Ps :: spool hC Lh :: H) (fun q hq => ?_) (fun s hs' => ?_)
    · (repeat first | refine gS ?_ | refine gA fun _ => ?_ | refine gX fun _ _ => ?_ | refine gT ?_ | refine gF ?_ | refine gI ?_)
      refine E_build (l := [str k, nil]) str_file ?_
      (repeat first | refine gS ?_ | refine gA fun _ => ?_ | refine gX fun _ _ => ?_ | refine gT ?_ | refine gF ?_ | refine gI ?_)
      rename_i b4
      refine E_loop (n := 5) (σ := Nat × Cv × List VR) (fun s => s.1 ≤ l.length ∧ s.2.2 = (l.take s.1).filter (fun p => keepP M.S p.1)) (fun s => [ptr a, ov.1, I i, ptr b4, I s.1]) (fun s => cel true b4 86 [str k, s.2.1.1] :: sls vC 31 4 s.2.1.1 s.2.2 :: sls fC 86 2 ov.1 Lo :: cel true a 88 [fv.1, sv.1, I M.now] :: spool fC Pf :: spool vC Qv :: spool rfC Lr :: spool shC Ps :: spool hC Lh :: H) (fun s => l.length - s.1) (0, ⟨nil, rfl⟩, []) (fun _ => rfl) rfl ⟨Nat.zero_le _, rfl⟩ (fun W hW => by
        refine sls_nil vC 4 (T := 31) ?_
        exact sm hW) ?_
      rintro ⟨j, cv, cl⟩ K1 ⟨hj, hcl⟩ hk1
      simp only at hj hcl hk1 ⊢
      have hcll : cl.length ≤ 1000 := by rw [hcl]; exact Nat.le_trans (List.length_filter_le _ _) (by rw [List.length_take]; omega)
      refine E_fa fun _ => ?_
      (repeat first | refine gS ?_ | refine gA fun _ => ?_ | refine gX fun _ _ => ?_ | refine gT ?_ | refine gF ?_ | refine gI ?_)
      refine E_if (fun hc1 => ?_) (fun hc1 => ?_)
      · have hy : l[j]? = some l[j] := List.getElem?_eq_getElem (by omega)
        have hyn := hln _ (List.mem_of_getElem? hy)
        generalize l[j] = x at hy hyn
        refine E_joinC (σ := Cv × List VR) (fun s => s.2 = (l.take (j + 1)).filter (fun p => keepP M.S p.1)) (fun s => [ptr a, ov.1, I i, ptr b4, I j]) (fun s => cel true b4 86 [str k, s.1.1] :: sls vC 31 4 s.1.1 s.2 :: sls fC 86 2 ov.1 Lo :: cel true a 88 [fv.1, sv.1, I M.now] :: spool fC Pf :: spool vC Qv :: spool rfC Lr :: spool shC Ps :: spool hC Lh :: H) (fun q1 hq1 => ?_) (fun s hs1 => ?_)
        · (repeat first | refine gS ?_ | refine gA fun _ => ?_ | refine gX fun _ _ => ?_ | refine gT ?_ | refine gF ?_ | refine gI ?_)
          rename_i b6
          refine E_stW (vs := vC x) rfl rfl ?_
          refine E_loop (n := 8) (σ := Nat × Bool) (fun s => s.1 ≤ M.S.length ∧ s.2 = heldB (M.S.take s.1) k x.1.gen) (fun s => [ptr a, ov.1, I i, ptr b4, I j, ptr b6, .bool s.2, I s.1]) (fun _ => cel true b6 31 (vC x) :: cel true b4 86 [str k, cv.1] :: sls vC 31 4 cv.1 cl :: sls fC 86 2 ov.1 Lo :: cel true a 88 [fv.1, sv.1, I M.now] :: spool fC Pf :: spool vC Qv :: spool rfC Lr :: spool shC Ps :: spool hC Lh :: H) (fun s => M.S.length - s.1) (0, false) (fun _ => rfl) rfl ⟨Nat.zero_le _, rfl⟩ (fun W hW => sm hW) ?_
          rintro ⟨t, c0⟩ K2 ⟨ht, hc0⟩ hk2
          simp only at ht hc0 hk2 ⊢
          refine E_fa fun _ => ?_
          (repeat first | refine gS ?_ | refine gA fun _ => ?_ | refine gX fun _ _ => ?_ | refine gT ?_ | refine gF ?_ | refine gI ?_)
          refine E_if (fun hc2 => ?_) (fun hc2 => ?_)
          · have hS : M.S[t]? = some M.S[t] := List.getElem?_eq_getElem (by omega)
            have hSm := List.mem_of_getElem? hS
            generalize M.S[t] = s at hS hSm
            obtain ⟨hc', hsx, hsh⟩ := hd.getS hS
            have rh := rs_pool (B := B) (enc := hC) hsh
            have hhs := hhl s hSm
            have hstep := heldB_take (n := k) (g := x.1.gen) hS
            rw [← hc0] at hstep
            refine E_loop (n := 9) (σ := Nat × Bool) (fun u => u.1 ≤ s.held.length ∧ u.2 = (c0 || decide ((k, x.1.gen) ∈ s.held.take u.1))) (fun u => [ptr a, ov.1, I i, ptr b4, I j, ptr b6, .bool u.2, I t, I u.1]) (fun _ => cel true b6 31 (vC x) :: cel true b4 86 [str k, cv.1] :: sls vC 31 4 cv.1 cl :: sls fC 86 2 ov.1 Lo :: cel true a 88 [fv.1, sv.1, I M.now] :: spool fC Pf :: spool vC Qv :: spool rfC Lr :: spool shC Ps :: spool hC Lh :: H) (fun u => s.held.length - u.1) (0, c0) (fun _ => rfl) rfl ⟨Nat.zero_le _, by simp⟩ (fun W hW => sm hW) ?_
            rintro ⟨u, c1⟩ K3 ⟨hu, hc1'⟩ hk3
            simp only at hu hc1' hk3 ⊢
            refine E_fa fun _ => ?_
            (repeat first | refine gS ?_ | refine gA fun _ => ?_ | refine gX fun _ _ => ?_ | refine gT ?_ | refine gF ?_ | refine gI ?_)
            refine E_if (fun hc3 => ?_) (fun hc3 => ?_)
            · have hz : s.held[u]? = some s.held[u] := List.getElem?_eq_getElem (by omega)
              generalize s.held[u] = z at hz
              have hst2 : (c0 || decide ((k, x.1.gen) ∈ s.held.take (u + 1))) = (c1 || decide (z = (k, x.1.gen))) := by
                rw [hc1', Bool.or_assoc, List.take_add_one, hz]
                congr 1
                rw [Bool.eq_iff_iff]
                simp only [decide_eq_true_eq, Bool.or_eq_true, List.mem_append, Option.toList_some, List.mem_singleton]
                exact or_congr_right ⟨Eq.symm, Eq.symm⟩
              have hk4 := hk3 (u + 1, c1 || decide (z = (k, x.1.gen))) ⟨by simp only; omega, hst2.symm⟩ (by simp only; omega)
              cases c1 with
              | true =>
                (repeat first | refine gS ?_ | refine gA fun _ => ?_ | refine gX fun _ _ => ?_ | refine gT ?_ | refine gF ?_ | refine gI ?_)
                (repeat (refine E_rck1 (E_gtt (E_fact rfl)) ?_))
                refine E_rck0 ?_
                (repeat first | refine gS ?_ | refine gA fun _ => ?_ | refine gX fun _ _ => ?_ | refine gT ?_ | refine gF ?_ | refine gI ?_)
                exact sm hk4
              | false =>
                (repeat first | refine gS ?_ | refine gA fun _ => ?_ | refine gX fun _ _ => ?_ | refine gT ?_ | refine gF ?_ | refine gI ?_)
                refine E_build (l := [str k, I x.1.gen]) str_held ?_
                refine E_rck1 (E_gft (E_ptldA (E_fact rfl))) ?_
                refine E_rck1 (E_gft (E_ptld (E_fact rfl))) ?_
                refine E_rck1 (E_gft (E_ld (E_fact rfl))) ?_
                refine E_rck0 ?_
                refine E_gft ?_
                refine E_aeq (xs := (hC z).toArray) (ys := #[str k, I x.1.gen]) (b := decide (z = (k, x.1.gen))) (by kernel_rfl) (fun w => eq_held z (k, x.1.gen) w) ?_
                (repeat first | refine gS ?_ | refine gA fun _ => ?_ | refine gX fun _ _ => ?_ | refine gT ?_ | refine gF ?_ | refine gI ?_)
                exact sm hk4
            · have hue : u = s.held.length := by omega
              rw [hue, List.take_length, ← hstep] at hc1'
              refine E_addI (by omega) (by omega) ?_
              exact sm (hk2 (t + 1, c1) ⟨by simp only; omega, hc1'⟩ (by simp only; omega))
          · have hte : t = M.S.length := by omega
            rw [hte, List.take_length] at hc0
            have hkp : keepP M.S x.1 = (c0 || !x.1.gone) := by unfold keepP; rw [hyn, hc0]
            have hnx : (l.take (j + 1)).filter (fun p => keepP M.S p.1) = cl ++ if keepP M.S x.1 = true then [x] else [] := by
              rw [List.take_add_one, hy, List.filter_append, ← hcl]
              cases h9 : keepP M.S x.1 <;> simp [h9]
            rw [hnx] at hq1
            refine E_join1 [ptr a, ov.1, I i, ptr b4, I j, ptr b6, .bool (keepP M.S x.1)] (cel true b6 31 (vC x) :: cel true b4 86 [str k, cv.1] :: sls vC 31 4 cv.1 cl :: sls fC 86 2 ov.1 Lo :: cel true a 88 [fv.1, sv.1, I M.now] :: spool fC Pf :: spool vC Qv :: spool rfC Lr :: spool shC Ps :: spool hC Lh :: H) (fun q2 hq2 => ?_) ?_
            · rw [hkp] at hq2
              (repeat first | refine gS ?_ | refine gY ?_ | refine gA fun _ => ?_ | refine gX fun _ _ => ?_ | refine gI ?_)
              exact sm hq2
            · refine E_fa fun _ => ?_
              cases hkx : keepP M.S x.1 with
              | true =>
                rw [hkx, if_pos rfl] at hq1
                (repeat first | refine gS ?_ | refine gA fun _ => ?_ | refine gX fun _ _ => ?_ | refine gT ?_ | refine gF ?_ | refine gI ?_)
                refine fd (a := sls vC 31 4 cv.1 cl) ?_
                refine E_sapp1 (enc := vC) x u_vers elt_ver rfl (by decide) (by omega) (by omega) fun v' hv' => ?_
                (repeat first | refine gS ?_ | refine gA fun _ => ?_ | refine gX fun _ _ => ?_ | refine gT ?_ | refine gF ?_ | refine gI ?_)
                exact sm (hq1 (⟨v', hv'.pf⟩, cl ++ [x]) rfl)
              | false =>
                rw [hkx, if_neg (by simp), List.append_nil] at hq1
                (repeat first | refine gS ?_ | refine gA fun _ => ?_ | refine gX fun _ _ => ?_ | refine gT ?_ | refine gF ?_ | refine gI ?_)
                exact sm (hq1 (cv, cl) rfl)
        · refine E_fa fun _ => ?_
          refine E_addI (by omega) (by omega) ?_
          exact hk1 (j + 1, s.1, s.2) ⟨by simp only; omega, hs1⟩ (by simp only; omega)
      · have hje : j = l.length := by omega
        rw [hje, List.take_length] at hcl
        have hce : cl.map (·.1) = (fof M.V k).filter (keepP M.S) := by rw [hcl, ← hle, List.filter_map]; rfl
        (repeat first | refine gS ?_ | refine gA fun _ => ?_ | refine gX fun _ _ => ?_ | refine gT ?_ | refine gF ?_ | refine gI ?_)
        rw [List.take_add_one, hx, List.filter_append] at hq
        refine E_if (fun hc2 => ?_) (fun hc2 => ?_)
        · have hne : (fof M.V k).filter (keepP M.S) ≠ [] := by
            rw [← hce]; intro e
            have := List.map_eq_nil_iff.1 e
            rw [this] at hc2; simp at hc2
          (repeat first | refine gS ?_ | refine gA fun _ => ?_ | refine gX fun _ _ => ?_ | refine gT ?_ | refine gF ?_ | refine gI ?_)
          refine fd (a := sls fC 86 2 ov.1 Lo) ?_
          refine E_sapp1 (enc := fC) ((k, cv) : FC) u_fileL elt_file rfl (by decide) (by omega) (by omega) fun v' hv' => ?_
          refine fd (a := spool vC Qv) ?_
          refine fd (a := sls vC 31 4 cv.1 cl) ?_
          refine E_give ?_
          have := hq (⟨v', hv'.pf⟩, Lo ++ [(k, cv)], (cv.1, cl) :: Qv) ⟨by rw [List.map_append, hLo]; congr 1; rw [Option.toList_some, List.filter_cons, if_pos (decide_eq_true hne)]; rfl, fun p hp => ?_, fun q hq => List.mem_cons_of_mem _ (hQ q hq), by simp; omega⟩
          · exact sm this
          · rcases List.mem_append.1 hp with hp | hp
            · obtain ⟨l', hl'⟩ := hLk p hp
              exact ⟨l', hl'.mono (fun _ h => List.mem_cons_of_mem _ h) (fun _ h => h)⟩
            · simp only [List.mem_singleton] at hp
              subst hp
              exact ⟨cl, by simp, hce, fun p hp => hl.r p (List.mem_filter.1 (hcl ▸ hp)).1⟩
        · have hne : ¬ (fof M.V k).filter (keepP M.S) ≠ [] := by
            rw [← hce]
            have : cl = [] := List.length_eq_zero_iff.1 (by omega)
            rw [this]; simp
          have := hq (ov, Lo, Qv) ⟨by rw [Option.toList_some, List.filter_cons, if_neg (by simpa using hne), List.filter_nil, List.append_nil]; exact hLo, hLk, hQ, by simp only; omega⟩
          exact sm this
    · obtain ⟨v', Lo', Qv'⟩ := s
      obtain ⟨h1, h2, h3, h4⟩ := hs'
      refine E_fa fun _ => ?_
      refine E_addI (by omega) (by omega) ?_
      exact hk0 (i + 1, v', Lo', Qv') ⟨by simp only; omega, h1, h2, h3, h4⟩ (by simp only; omega)
  · have hie : i = (nms M.V).length := by omega
    rw [hie, List.take_length, ← nms_filter hs] at hLo
    (repeat first | refine gS ?_ | refine gA fun _ => ?_ | refine gX fun _ _ => ?_ | refine gT ?_ | refine gF ?_ | refine gI ?_)
    have : CellI ov.1 := ⟨ov.2⟩
    refine fd (a := spool fC Pf) ?_
    refine fd (a := sls fC 86 2 ov.1 Lo) ?_
    refine E_give ?_
    refine sm (h ov Lo ((ov.1, Lo) :: Pf) Qv ⟨by simp, ⟨hLo, fun p hp => ?_⟩, hd.s, hd.sh⟩)
    obtain ⟨l', hl'⟩ := hLk p hp
    exact ⟨l', by show VOk Qv Lr p.2.1 l' (fof (sweepV M.S M.V) p.1); unfold sweepV; rw [fof_filter]; exact hl'⟩
end Go.Proofs.YtjafpncngmbcdaaGreat.Nam
end
section
namespace Go.Proofs.YtjafpncngmbcdaaGreat.Nam
open Go Go.SL Go.Proofs Go.Proofs.YtjafpncngmbcdaaGreat.Sh
variable {B : World} {H : List Asrt} {K : Value → WT} {W : WT} {a : Nat} {M : Bk} {f : Fa}
variable {fv sv : Cv} {L : List FC} {LS : List SC} {Pf : List (Value × List FC)} {Lv : List (Value × List VR)} {Lr : List (Value × List Rf)} {Ps : List (Value × List SC)} {Lh : List (Value × List (List UInt8 × Int))}
attribute [local irreducible] S.pick S.ld S.ldN S.st S.box S.nc S.fad S.ixS S.ixA S.chr S.prt S.ext S.bin S.sh S.sbin S.beq S.neg1 S.com1 S.not1 S.cvt S.str1 S.lenS S.len S.cap S.lenM S.mx S.mn S.mkM S.cond S.gd S.fa S.dr S.rck S.join S.loop S.cvv S.eqv S.slc S.slcS S.b2s S.lk V U CF Gives E cel mpb osl ros dct dit itr lpo dfo
set_option maxRecDepth 8000
attribute [local irreducible] bk dbk
theorem goesL_le (now : Int) (f : Fa) (k : List UInt8) (l : List Ver) (n : Nat) : (goesL now f k l n).length ≤ n := by
  unfold goesL
  refine Nat.le_trans (List.length_filterMap_le _ _) ?_
  rw [List.length_range]; exact Nat.le_refl _
theorem expireD (hd : DOk ⟨fv, sv, L, LS, Pf, Lv, Lr, Ps, Lh⟩ M) (hw : Inv M) (hb : f.last ≤ 9223372036854775807 ∧ f.young ≤ 9223372036854775807 ∧ f.step ≤ 9223372036854775807 ∧ f.count ≤ 9223372036854775807)
    (h : ∀ v [CellI v], E B (sls hC 53 2 v (if keepOk f = true then expireL M f else []) :: cel true a 88 [fv.1, sv.1, I M.now] :: spool fC Pf :: spool vC Lv :: spool rfC Lr :: spool shC Ps :: spool hC Lh :: H) (K (.tuple #[v, I (if keepOk f = true then 0 else 2)]))) : E B (cel true a 88 [fv.1, sv.1, I M.now] :: spool fC Pf :: spool vC Lv :: spool rfC Lr :: spool shC Ps :: spool hC Lh :: H) (CF Tryz.prog 19 [ptr a, .agg (keepL f).toArray] K) := by
  have hlen := hd.len
  have hL := nms_len32 hd hw
  have hfl := hw.fl
  have rf : ∀ H, Rs B (spool fC Pf :: H) fv.1 fC L := rs_pool hd.f
  refine E_mono (W := s19 _ _ K) ?_ fun _ => c19
  unfold s19
  refine E_box (vs := keepL f) fun b3 => ?_
  refine E_join1 [ptr a, ptr b3, .bool (decide (f.last < 0) || decide (f.young < 0) || decide (f.step < 1) || decide (f.count < 0))] (cel true b3 43 (keepL f) :: cel true a 88 [fv.1, sv.1, I M.now] :: spool fC Pf :: spool vC Lv :: spool rfC Lr :: spool shC Ps :: spool hC Lh :: H) (fun q hq => ?_) ?_
  · (repeat first | refine gS ?_ | refine gY ?_ | refine gA fun _ => ?_ | refine gX fun _ _ => ?_ | refine gI ?_)
    exact sm hq
  refine E_fa fun _ => ?_
  refine E_ifb' (p := ¬ (keepOk f = true)) (by simp [keepOk]; omega) (fun e => ?_) (fun e => ?_)
  · rw [if_neg e, if_neg e] at h
    refine sls_nil hC 2 (T := 53) ?_
    exact sm (h nil)
  have e' := Decidable.not_not.1 e
  have hk : 0 ≤ f.last ∧ 0 ≤ f.young ∧ 1 ≤ f.step ∧ 0 ≤ f.count := by simpa [keepOk] using e'
  rw [if_pos e', if_pos e'] at h
  refine E_bsl0 u_helds elt_held fun b0 => ?_
  refine E_slsC (enc := hC) [] 0 rfl rfl ?_
  refine E_loop (n := 4) (σ := Nat × Cv × List (List UInt8 × Int)) (fun s => s.1 ≤ L.length ∧ s.2.2 = ((nms M.V).take s.1).flatMap (fun k => goesL M.now f k (liveL M.V k) (liveL M.V k).length) ∧ s.2.2.length ≤ 1000 * s.1)
    (fun s => [ptr a, ptr b3, s.2.1.1, I s.1]) (fun s => cel true a 88 [fv.1, sv.1, I M.now] :: spool fC Pf :: spool vC Lv :: spool rfC Lr :: spool shC Ps :: spool hC Lh :: sls hC 53 2 s.2.1.1 s.2.2 :: cel true b3 43 (keepL f) :: H) (fun s => L.length - s.1) (0, ⟨.slice (some ⟨b0, 0, none⟩) 0 0, rfl⟩, []) (fun _ => rfl) rfl ⟨Nat.zero_le _, rfl, by simp⟩ (fun W hW => sm hW) ?_
  rintro ⟨i, ov, zs⟩ K0 ⟨hi, hzs, hzl⟩ hk0
  simp only at hi hzs hzl hk0 ⊢
  refine E_fa fun _ => ?_
  (repeat first | refine gS ?_ | refine gA fun _ => ?_ | refine gX fun _ _ => ?_ | refine gT ?_ | refine gF ?_ | refine gI ?_)
  refine E_if (fun hc => ?_) (fun hc => ?_)
  · have hx : (nms M.V)[i]? = some (nms M.V)[i] := List.getElem?_eq_getElem (by omega)
    generalize (nms M.V)[i] = k at hx
    have hstep : ((nms M.V).take (i + 1)).flatMap (fun k => goesL M.now f k (liveL M.V k) (liveL M.V k).length) = zs ++ goesL M.now f k (liveL M.V k) (liveL M.V k).length := by
      rw [List.take_add_one, hx, List.flatMap_append, ← hzs]; simp
    obtain ⟨c, l, hx', hl⟩ := hd.get hx
    have rl := rs_pool (B := B) (enc := vC) hl.m
    have hll : l.length = (fof M.V k).length := by rw [← hl.e, List.length_map]
    have hlk := hfl k
    have hle := hl.e
    refine E_bsl0 u_vers elt_ver fun b1 => ?_
    refine E_slsC (enc := vC) [] 0 rfl rfl ?_
    refine E_loop (n := 6) (σ := Nat × Cv × List VR) (fun s => s.1 ≤ l.length ∧ s.2.2 = (l.take s.1).filter (fun p => !p.1.gone)) (fun s => [ptr a, ptr b3, ov.1, I i, s.2.1.1, I s.1]) (fun s => cel true a 88 [fv.1, sv.1, I M.now] :: spool fC Pf :: spool vC Lv :: spool rfC Lr :: spool shC Ps :: spool hC Lh :: sls vC 31 4 s.2.1.1 s.2.2 :: sls hC 53 2 ov.1 zs :: cel true b3 43 (keepL f) :: H) (fun s => l.length - s.1) (0, ⟨.slice (some ⟨b1, 0, none⟩) 0 0, rfl⟩, []) (fun _ => rfl) rfl ⟨Nat.zero_le _, rfl⟩ (fun W hW => sm hW) ?_
    rintro ⟨j, lv, ll⟩ K1 ⟨hj, hls⟩ hk1
    simp only at hj hls hk1 ⊢
    have hlll : ll.length ≤ 32 := by rw [hls]; exact Nat.le_trans (List.length_filter_le _ _) (by rw [List.length_take]; omega)
    refine E_fa fun _ => ?_
    (repeat first | refine gS ?_ | refine gA fun _ => ?_ | refine gX fun _ _ => ?_ | refine gT ?_ | refine gF ?_ | refine gI ?_)
    refine E_if (fun hc1 => ?_) (fun hc1 => ?_)
    · have hy : l[j]? = some l[j] := List.getElem?_eq_getElem (by omega)
      generalize l[j] = x at hy
      have hnx : (l.take (j + 1)).filter (fun p => !p.1.gone) = ll ++ if x.1.gone = false then [x] else [] := by
        rw [List.take_add_one, hy, List.filter_append, ← hls]
        cases h9 : x.1.gone <;> simp [h9]
      refine E_joinC (σ := Cv × List VR) (fun s => s.2 = (l.take (j + 1)).filter (fun p => !p.1.gone)) (fun s => [ptr a, ptr b3, ov.1, I i, s.1.1, I j]) (fun s => cel true a 88 [fv.1, sv.1, I M.now] :: spool fC Pf :: spool vC Lv :: spool rfC Lr :: spool shC Ps :: spool hC Lh :: sls vC 31 4 s.1.1 s.2 :: sls hC 53 2 ov.1 zs :: cel true b3 43 (keepL f) :: H) (fun q1 hq1 => ?_) (fun s hs1 => ?_)
      · rw [hnx] at hq1
        (repeat first | refine gS ?_ | refine gA fun _ => ?_ | refine gX fun _ _ => ?_ | refine gT ?_ | refine gF ?_ | refine gI ?_)
        cases hg : x.1.gone with
        | false =>
          rw [hg, if_pos rfl] at hq1
          (repeat first | refine gS ?_ | refine gA fun _ => ?_ | refine gX fun _ _ => ?_ | refine gT ?_ | refine gF ?_ | refine gI ?_)
          refine fd (a := sls vC 31 4 lv.1 ll) ?_
          refine E_sapp1 (enc := vC) x u_vers elt_ver rfl (by decide) (by omega) (by omega) fun v' hv' => ?_
          exact sm (hq1 (⟨v', hv'.pf⟩, ll ++ [x]) rfl)
        | true =>
          rw [hg, if_neg (by simp), List.append_nil] at hq1
          (repeat first | refine gS ?_ | refine gA fun _ => ?_ | refine gX fun _ _ => ?_ | refine gT ?_ | refine gF ?_ | refine gI ?_)
          exact sm (hq1 (lv, ll) rfl)
      · refine E_fa fun _ => ?_
        refine E_addI (by omega) (by omega) ?_
        exact hk1 (j + 1, s.1, s.2) ⟨by simp only; omega, hs1⟩ (by simp only; omega)
    · have hje : j = l.length := by omega
      rw [hje, List.take_length] at hls
      have hlive : ll.map (·.1) = liveL M.V k := by unfold liveL; rw [hls, ← hle, List.filter_map]; rfl
      have hkok : KOk f (ll.map (·.1)) := by rw [hlive]; exact kOk hw hk hb k
      rw [← hlive] at hstep
      have hlm : (ll.map (·.1)).length = ll.length := List.length_map ..
      rw [hlm] at hstep
      refine E_loop (n := 6) (σ := Nat × Cv × List (List UInt8 × Int)) (fun s => s.1 ≤ ll.length ∧ s.2.2 = zs ++ goesL M.now f k (ll.map (·.1)) s.1) (fun s => [ptr a, ptr b3, s.2.1.1, I i, lv.1, I s.1]) (fun s => cel true a 88 [fv.1, sv.1, I M.now] :: spool fC Pf :: spool vC Lv :: spool rfC Lr :: spool shC Ps :: spool hC Lh :: sls vC 31 4 lv.1 ll :: sls hC 53 2 s.2.1.1 s.2.2 :: cel true b3 43 (keepL f) :: H) (fun s => ll.length - s.1) (0, ov, zs) (fun _ => rfl) rfl ⟨Nat.zero_le _, by simp [goesL]⟩ (fun W hW => sm hW) ?_
      rintro ⟨t, ov', zs'⟩ K2 ⟨ht, hzs'⟩ hk2
      simp only at ht hzs' hk2 ⊢
      have hz'l : zs'.length ≤ 1000 * i + 32 := by
        rw [hzs', List.length_append]
        have := goesL_le M.now f k (ll.map (·.1)) t
        omega
      refine E_fa fun _ => ?_
      (repeat first | refine gS ?_ | refine gA fun _ => ?_ | refine gX fun _ _ => ?_ | refine gT ?_ | refine gF ?_ | refine gI ?_)
      refine E_if (fun hc2 => ?_) (fun hc2 => ?_)
      · have hy : ll[t]? = some ll[t] := List.getElem?_eq_getElem (by omega)
        generalize ll[t] = x at hy
        have hgs := goesL_suc (now := M.now) (f := f) (k := k) (l := ll.map (·.1)) (j := t) (x := x.1) (by rw [List.getElem?_map, hy]; rfl)
        refine E_joinC (σ := Cv × List (List UInt8 × Int)) (fun s => s.2 = zs ++ goesL M.now f k (ll.map (·.1)) (t + 1)) (fun s => [ptr a, ptr b3, s.1.1, I i, lv.1, I t]) (fun s => cel true a 88 [fv.1, sv.1, I M.now] :: spool fC Pf :: spool vC Lv :: spool rfC Lr :: spool shC Ps :: spool hC Lh :: sls vC 31 4 lv.1 ll :: sls hC 53 2 s.1.1 s.2 :: cel true b3 43 (keepL f) :: H) (fun q1 hq1 => ?_) (fun s hs1 => ?_)
        · (repeat first | refine gS ?_ | refine gA fun _ => ?_ | refine gX fun _ _ => ?_ | refine gT ?_ | refine gF ?_ | refine gI ?_)
          refine staysD (l := ll) (x := x) (fun G => rs_app G inferInstance) hkok hw.now hy ?_
          rw [hgs, ← List.append_assoc, ← hzs'] at hq1
          cases hsb : staysB M.now f (ll.map (·.1)) t with
          | true =>
            rw [hsb, if_pos rfl, List.append_nil] at hq1
            (repeat first | refine gS ?_ | refine gA fun _ => ?_ | refine gX fun _ _ => ?_ | refine gT ?_ | refine gF ?_ | refine gI ?_)
            exact sm (hq1 (ov', zs') rfl)
          | false =>
            rw [hsb, if_neg (by simp)] at hq1
            (repeat first | refine gS ?_ | refine gA fun _ => ?_ | refine gX fun _ _ => ?_ | refine gT ?_ | refine gF ?_ | refine gI ?_)
            refine E_build (l := [str k, I x.1.gen]) str_held ?_
            refine fd (a := sls hC 53 2 ov'.1 zs') ?_
            refine E_sapp1 (enc := hC) (k, x.1.gen) u_helds elt_held rfl (by decide) (by omega) (by omega) fun v' hv' => ?_
            exact sm (hq1 (⟨v', hv'.pf⟩, zs' ++ [(k, x.1.gen)]) rfl)
        · refine E_fa fun _ => ?_
          refine E_addI (by omega) (by omega) ?_
          exact hk2 (t + 1, s.1, s.2) ⟨by simp only; omega, hs1⟩ (by simp only; omega)
      · have hte : t = ll.length := by omega
        rw [hte, ← hstep] at hzs'
        refine E_addI (by omega) (by omega) ?_
        exact sm (hk0 (i + 1, ov', zs') ⟨by simp only; omega, hzs', by simp only; omega⟩ (by simp only; omega))
  · have hie : i = (nms M.V).length := by omega
    rw [hie, List.take_length] at hzs
    have : CellI ov.1 := ⟨ov.2⟩
    have h' := h ov.1
    unfold expireL at h'
    rw [← hzs] at h'
    exact sm h'
end Go.Proofs.YtjafpncngmbcdaaGreat.Nam
end
section
namespace Go.Proofs.YtjafpncngmbcdaaGreat.Nam
open Go Go.SL
variable {M : Bk} {f : Fa}
variable {fv sv : Cv} {L : List FC} {LS : List SC} {Pf : List (Value × List FC)} {Lv : List (Value × List VR)} {Lr : List (Value × List Rf)} {Ps : List (Value × List SC)} {Lh : List (Value × List (List UInt8 × Int))}
theorem nms_map {V : List Ver} {g : Ver → Ver} (hg : ∀ v, (g v).name = v.name) : nms (V.map g) = nms V := by
  induction V with
  | nil => rfl
  | cons v t ih =>
    rw [List.map_cons]
    unfold nms
    rw [ih, hg]
theorem mem_tw {α : Type} {p : α → Bool} : ∀ {l : List α} {x : α}, x ∈ l.takeWhile p → p x = true
  | [], x, h => by cases h
  | y :: t, x, h => by
    rw [List.takeWhile_cons] at h
    by_cases hy : p y = true
    · rw [if_pos hy] at h
      rcases List.mem_cons.1 h with rfl | h
      · exact hy
      · exact mem_tw h
    · rw [if_neg hy] at h; cases h
theorem pos_take {ns : List (List UInt8)} {k : List UInt8} : ∀ x ∈ ns.take (posL ns k), x < k := by
  have : ns.take (posL ns k) = ns.takeWhile (fun x => decide (x < k)) := by
    unfold posL
    conv => lhs; arg 2; rw [← List.takeWhile_append_dropWhile (p := fun x => decide (x < k)) (l := ns)]
    rw [List.take_left]
  rw [this]
  intro x hx
  simpa using mem_tw hx
theorem pos_drop {ns : List (List UInt8)} {k : List UInt8} (hs : ns.Pairwise (· < ·)) : ∀ x ∈ ns.drop (posL ns k), ¬ x < k := by
  induction ns with
  | nil => intro x hx; simp at hx
  | cons y t ih =>
    intro x hx
    have ht := (List.pairwise_cons.1 hs).2
    unfold posL at hx
    rw [List.takeWhile_cons] at hx
    by_cases hy : y < k
    · rw [if_pos (by simpa using hy), List.length_cons, List.drop_succ_cons] at hx
      exact ih ht x hx
    · rw [if_neg (by simpa using hy), List.length_nil, List.drop_zero] at hx
      rcases List.mem_cons.1 hx with rfl | hx
      · exact hy
      · exact fun h => hy (slt_trans ((List.pairwise_cons.1 hs).1 x hx) h)
theorem pos_drop1 {ns : List (List UInt8)} {k : List UInt8} (hs : ns.Pairwise (· < ·)) (hk : k ∈ ns) : ∀ x ∈ ns.drop (posL ns k + 1), k < x := by
  intro x hx
  have hp := pos_mem hs hk
  obtain ⟨hi, he⟩ := List.getElem?_eq_some_iff.1 hp
  obtain ⟨j, hj, rfl⟩ := List.mem_drop_iff_getElem.1 hx
  have := List.pairwise_iff_getElem.1 hs (posL ns k) (posL ns k + 1 + j) hi (by omega) (by omega)
  rw [he] at this; exact this
theorem split_at {α : Type} {l : List α} {i : Nat} {x : α} (h : l[i]? = some x) : l.take i ++ [x] ++ l.drop (i + 1) = l := by
  obtain ⟨hi, e⟩ := List.getElem?_eq_some_iff.1 h
  rw [List.append_assoc, List.singleton_append, ← e, List.getElem_cons_drop, List.take_append_drop]
theorem nms_insV_in {V : List Ver} {v : Ver} (hs : SrtN V) (hs' : SrtN (insV V v)) (hn : v.name ∈ nms V) : nms (insV V v) = nms V := by
  refine sorted_ext (r := (· < ·)) (fun a b h => slt_asymm h) (nms_lt hs') (nms_lt hs) fun k => ?_
  rw [nms_mem, nms_mem]
  constructor
  · rintro ⟨w, hw, e⟩
    rcases insV_mem.1 hw with rfl | hw
    · obtain ⟨u, hu, e'⟩ := nms_mem.1 hn
      exact ⟨u, hu, e'.trans e⟩
    · exact ⟨w, hw, e⟩
  · rintro ⟨w, hw, e⟩
    exact ⟨w, insV_mem.2 (.inr hw), e⟩
theorem ins_sorted {ns : List (List UInt8)} {k : List UInt8} (hs : ns.Pairwise (· < ·)) (hk : k ∉ ns) : (ns.take (posL ns k) ++ [k] ++ ns.drop (posL ns k)).Pairwise (· < ·) := by
  have h1 := hs
  rw [← List.take_append_drop (posL ns k) ns] at h1
  obtain ⟨hA, hC, hAC⟩ := List.pairwise_append.1 h1
  rw [List.append_assoc, List.singleton_append]
  refine List.pairwise_append.2 ⟨hA, List.pairwise_cons.2 ⟨fun x hx => ?_, hC⟩, fun x hx y hy => ?_⟩
  · refine slt_of (pos_drop hs x hx) fun e => hk ?_
    rw [e]; exact List.mem_of_mem_drop hx
  · rcases List.mem_cons.1 hy with rfl | hy
    · exact pos_take x hx
    · exact hAC x hx y hy
theorem nms_insV_out {V : List Ver} {v : Ver} (hs : SrtN V) (hs' : SrtN (insV V v)) (hn : v.name ∉ nms V) : nms (insV V v) = (nms V).take (posL (nms V) v.name) ++ [v.name] ++ (nms V).drop (posL (nms V) v.name) := by
  refine sorted_ext (r := (· < ·)) (fun a b h => slt_asymm h) (nms_lt hs') (ins_sorted (nms_lt hs) hn) fun k => ?_
  rw [List.append_assoc, List.singleton_append, List.mem_append, List.mem_cons]
  have e : k ∈ nms V ↔ k ∈ (nms V).take (posL (nms V) v.name) ∨ k ∈ (nms V).drop (posL (nms V) v.name) := by
    conv => lhs; rw [← List.take_append_drop (posL (nms V) v.name) (nms V)]
    exact List.mem_append
  rw [nms_mem]
  constructor
  · rintro ⟨w, hw, rfl⟩
    rcases insV_mem.1 hw with rfl | hw
    · exact .inr (.inl rfl)
    · rcases e.1 (nms_mem.2 ⟨w, hw, rfl⟩) with h | h
      · exact .inl h
      · exact .inr (.inr h)
  · rintro (h | h | h)
    · obtain ⟨w, hw, e'⟩ := nms_mem.1 (e.2 (.inl h)); exact ⟨w, insV_mem.2 (.inr hw), e'⟩
    · exact ⟨v, insV_mem.2 (.inl rfl), h.symm⟩
    · obtain ⟨w, hw, e'⟩ := nms_mem.1 (e.2 (.inr h)); exact ⟨w, insV_mem.2 (.inr hw), e'⟩
theorem FsOk.put {V V' : List Ver} {Lv' : List (Value × List VR)} {Lr' : List (Value × List Rf)} {k : List UInt8} {c : Cv} {l : List VR} (h : FsOk Lv Lr L V) (hs : SrtN V) (hk : k ∈ nms V) (hn : nms V' = nms V) (ho : ∀ k', k' ≠ k → fof V' k' = fof V k') (hv : VOk Lv' Lr' c.1 l (fof V' k)) (hL : ∀ p ∈ Lv, p ∈ Lv') (hR : ∀ p ∈ Lr, p ∈ Lr') :
    FsOk Lv' Lr' (L.take (posL (nms V) k) ++ [(k, c)] ++ L.drop (posL (nms V) k + 1)) V' := by
  have hns := nms_lt hs
  have ht : ∀ i, (L.take i).map (·.1) = (nms V).take i := fun i => by rw [List.map_take, h.1]
  have hd : ∀ i, (L.drop i).map (·.1) = (nms V).drop i := fun i => by rw [List.map_drop, h.1]
  constructor
  · rw [hn, List.map_append, List.map_append, ht, hd]
    exact split_at (pos_mem hns hk)
  · intro p hp
    rw [List.append_assoc] at hp
    rcases List.mem_append.1 hp with hp | hp
    · have hne : p.1 ≠ k := slt_ne (pos_take p.1 (by rw [← ht]; exact List.mem_map_of_mem hp))
      obtain ⟨l', hl'⟩ := h.2 p (List.mem_of_mem_take hp)
      rw [ho _ hne]; exact ⟨l', hl'.mono hL hR⟩
    · rcases List.mem_append.1 hp with hp | hp
      · simp only [List.mem_singleton] at hp
        subst hp; exact ⟨l, hv⟩
      · have hne : p.1 ≠ k := fun e => slt_ne (pos_drop1 hns hk p.1 (by rw [← hd]; exact List.mem_map_of_mem hp)) e.symm
        obtain ⟨l', hl'⟩ := h.2 p (List.mem_of_mem_drop hp)
        rw [ho _ hne]; exact ⟨l', hl'.mono hL hR⟩
theorem FsOk.ins {V : List Ver} {v : Ver} {Lv' : List (Value × List VR)} {Lr' : List (Value × List Rf)} {c : Cv} {l : List VR} (h : FsOk Lv Lr L V) (hs : SrtN V) (hs' : SrtN (insV V v)) (hk : v.name ∉ nms V) (hv : VOk Lv' Lr' c.1 l (fof (insV V v) v.name)) (hL : ∀ p ∈ Lv, p ∈ Lv') (hR : ∀ p ∈ Lr, p ∈ Lr') :
    FsOk Lv' Lr' (L.take (posL (nms V) v.name) ++ [(v.name, c)] ++ L.drop (posL (nms V) v.name)) (insV V v) := by
  have ht : ∀ i, (L.take i).map (·.1) = (nms V).take i := fun i => by rw [List.map_take, h.1]
  have hd : ∀ i, (L.drop i).map (·.1) = (nms V).drop i := fun i => by rw [List.map_drop, h.1]
  constructor
  · rw [nms_insV_out hs hs' hk, List.map_append, List.map_append, ht, hd]; rfl
  · intro p hp
    have hold : p ∈ L → ∃ l, VOk Lv' Lr' p.2.1 l (fof (insV V v) p.1) := fun hp => by
      obtain ⟨l', hl'⟩ := h.2 p hp
      have hne : p.1 ≠ v.name := fun e => hk (by rw [← e, ← h.1]; exact List.mem_map_of_mem hp)
      rw [fof_insV hs, if_neg hne]; exact ⟨l', hl'.mono hL hR⟩
    rw [List.append_assoc] at hp
    rcases List.mem_append.1 hp with hp | hp
    · exact hold (List.mem_of_mem_take hp)
    · rcases List.mem_append.1 hp with hp | hp
      · simp only [List.mem_singleton] at hp
        subst hp; exact ⟨l, hv⟩
      · exact hold (List.mem_of_mem_drop hp)
theorem insS_pos {S : List Sn} (s : Sn) : insS S s = S.take (posL (S.map fun s : Sn => s.name) s.name) ++ [s] ++ S.drop (posL (S.map fun s : Sn => s.name) s.name) := by
  have e : posL (S.map fun s : Sn => s.name) s.name = (S.takeWhile fun u => decide (u.name < s.name)).length := by
    unfold posL
    rw [List.takeWhile_map, List.length_map]; rfl
  rw [e]
  unfold insS
  have h1 : S.take (S.takeWhile fun u => decide (u.name < s.name)).length = S.takeWhile fun u => decide (u.name < s.name) := by
    conv => lhs; arg 2; rw [← List.takeWhile_append_dropWhile (p := fun u : Sn => decide (u.name < s.name)) (l := S)]
    rw [List.take_left]
  have h2 : S.drop (S.takeWhile fun u => decide (u.name < s.name)).length = S.dropWhile fun u => decide (u.name < s.name) := by
    conv => lhs; arg 2; rw [← List.takeWhile_append_dropWhile (p := fun u : Sn => decide (u.name < s.name)) (l := S)]
    rw [List.drop_left]
  rw [h1, h2, List.append_assoc, List.singleton_append]
theorem delS_pos {S : List Sn} {n : List UInt8} (hs : S.Pairwise fun a b => a.name < b.name) (hn : n ∈ S.map fun s : Sn => s.name) : S.filter (fun s => decide (s.name ≠ n)) = S.take (posL (S.map fun s : Sn => s.name) n) ++ S.drop (posL (S.map fun s : Sn => s.name) n + 1) := by
  have hss := List.pairwise_map.2 hs
  have hp := pos_mem hss hn
  rw [List.getElem?_map] at hp
  obtain ⟨t, ht, hts⟩ := Option.map_eq_some_iff.1 hp
  have hsp := split_at ht
  conv => lhs; rw [← hsp]
  rw [List.filter_append, List.filter_append]
  have h1 : (S.take (posL (S.map fun s : Sn => s.name) n)).filter (fun s => decide (s.name ≠ n)) = S.take (posL (S.map fun s : Sn => s.name) n) := List.filter_eq_self.2 fun s hs' => by
    have := pos_take (ns := S.map fun s : Sn => s.name) (k := n) s.name (by rw [← List.map_take]; exact List.mem_map_of_mem hs')
    simpa using slt_ne this
  have h2 : (S.drop (posL (S.map fun s : Sn => s.name) n + 1)).filter (fun s => decide (s.name ≠ n)) = S.drop (posL (S.map fun s : Sn => s.name) n + 1) := List.filter_eq_self.2 fun s hs' => by
    have := pos_drop1 hss hn s.name (by rw [← List.map_drop]; exact List.mem_map_of_mem (f := fun s : Sn => s.name) hs')
    simpa using fun e => slt_ne this e.symm
  rw [h1, h2]
  simp [hts]
end Go.Proofs.YtjafpncngmbcdaaGreat.Nam
end
section
namespace Go.Proofs.YtjafpncngmbcdaaGreat.Nam
open Go Go.SL Go.Proofs Go.Proofs.YtjafpncngmbcdaaGreat.Sh
variable {B : World} {H : List Asrt} {K : Value → WT} {W : WT} {a : Nat} {M : Bk} {f : Fa} {rv hv mv : Value}
variable {fv sv : Cv} {L : List FC} {LS : List SC} {Pf : List (Value × List FC)} {Lv : List (Value × List VR)} {Lr : List (Value × List Rf)} {Ps : List (Value × List SC)} {Lh : List (Value × List (List UInt8 × Int))}
noncomputable def fileIn [Amb] (v0 v3 v6 : Value) (K0 : WT) : WT :=
 S.fad v3 4 fun v52 =>
 S.ld v52 fun v53 =>
 CF Tryz.prog 44 [v0, v53] fun v54 =>
 S.ext v54 0 fun v55 =>
 S.ext v54 1 fun v56 =>
 S.cond v56 (
 S.dr <|
 S.bin .add v55 (SL.I 1) fun v61 =>
 S.fad v3 4 fun v62 =>
 S.ld v62 fun v63 =>
 S.nc v0 fun v66 =>
 S.fad v66 0 fun v67 =>
 S.ld v67 fun v68 =>
 S.ixS 2 v68 v55 fun v70 =>
 S.fad v70 1 fun v71 =>
 S.ld v71 fun v72 =>
 S.ldN 4 v6 fun v74 =>
 S.both (
 V Tryz.prog (Instr.buildSlice 63 0 #[]) fun v64 =>
 S.rck [S.ldN 4 v6 (fun v' _ => v' = v74), S.ld v71 (fun v' _ => v' = v72), S.ld v67 (fun v' _ => v' = v68), S.ld v62 (fun v' _ => v' = v63)] <|
 S.both (
 V Tryz.prog (Builtin.append_ #[63, 63] 63 #[v64, v72]) fun v73 =>
 S.rck [S.ldN 4 v6 (fun v' _ => v' = v74), S.ld v62 (fun v' _ => v' = v63)] <|
 V Tryz.prog (Instr.buildSlice 63 1 #[(0, v74)]) fun v75 =>
 S.rck [S.ld v62 (fun v' _ => v' = v63)] <|
 V Tryz.prog (Builtin.append_ #[63, 63] 63 #[v73, v75]) fun v76 =>
 S.rck [S.ld v62 (fun v' _ => v' = v63)] <|
 V Tryz.prog (Instr.build 86 #[(0, v63), (1, v76)]) fun v77 =>
 V Tryz.prog (Instr.buildSlice 71 1 #[(0, v77)]) fun v78 =>
 CF Tryz.prog 75 [v0, v55, v61, v78] fun v79 =>
 K0) (
 V Tryz.prog (Instr.buildSlice 63 1 #[(0, v74)]) fun v75' =>
 S.rck [S.ld v71 (fun v' _ => v' = v72), S.ld v67 (fun v' _ => v' = v68), S.ld v62 (fun v' _ => v' = v63)] <|
 V Tryz.prog (Builtin.append_ #[63, 63] 63 #[v64, v72]) fun v73' =>
 S.rck [S.ld v62 (fun v' _ => v' = v63)] <|
 V Tryz.prog (Builtin.append_ #[63, 63] 63 #[v73', v75']) fun v76' =>
 S.rck [S.ld v62 (fun v' _ => v' = v63)] <|
 V Tryz.prog (Instr.build 86 #[(0, v63), (1, v76')]) fun v77' =>
 V Tryz.prog (Instr.buildSlice 71 1 #[(0, v77')]) fun v78' =>
 CF Tryz.prog 75 [v0, v55, v61, v78'] fun v79' =>
 K0)) (
 V Tryz.prog (Instr.buildSlice 63 1 #[(0, v74)]) fun v75'2 =>
 S.rck [S.ld v71 (fun v' _ => v' = v72), S.ld v67 (fun v' _ => v' = v68), S.ld v62 (fun v' _ => v' = v63)] <|
 V Tryz.prog (Instr.buildSlice 63 0 #[]) fun v64' =>
 S.rck [S.ld v71 (fun v' _ => v' = v72), S.ld v67 (fun v' _ => v' = v68), S.ld v62 (fun v' _ => v' = v63)] <|
 V Tryz.prog (Builtin.append_ #[63, 63] 63 #[v64', v72]) fun v73'2 =>
 S.rck [S.ld v62 (fun v' _ => v' = v63)] <|
 V Tryz.prog (Builtin.append_ #[63, 63] 63 #[v73'2, v75'2]) fun v76'2 =>
 S.rck [S.ld v62 (fun v' _ => v' = v63)] <|
 V Tryz.prog (Instr.build 86 #[(0, v63), (1, v76'2)]) fun v77'2 =>
 V Tryz.prog (Instr.buildSlice 71 1 #[(0, v77'2)]) fun v78'2 =>
 CF Tryz.prog 75 [v0, v55, v61, v78'2] fun v79'2 =>
 K0)) (
 S.fad v3 4 fun v83 =>
 S.ld v83 fun v84 =>
 S.ldN 4 v6 fun v85 =>
 V Tryz.prog (Instr.buildSlice 63 1 #[(0, v85)]) fun v86 =>
 V Tryz.prog (Instr.build 86 #[(0, v84), (1, v86)]) fun v87 =>
 V Tryz.prog (Instr.buildSlice 71 1 #[(0, v87)]) fun v88 =>
 CF Tryz.prog 75 [v0, v55, v55, v88] fun v89 =>
 K0)
attribute [local irreducible] S.pick S.ld S.ldN S.st S.box S.nc S.fad S.ixS S.ixA S.chr S.prt S.ext S.bin S.sh S.sbin S.beq S.neg1 S.com1 S.not1 S.cvt S.str1 S.lenS S.len S.cap S.lenM S.mx S.mn S.mkM S.cond S.gd S.fa S.dr S.rck S.join S.loop S.cvv S.eqv S.slc S.slcS S.b2s S.lk V U CF Gives E cel mpb osl ros dct dit itr lpo dfo
set_option maxRecDepth 8000
attribute [local irreducible] bk dbk
theorem fileIn_ok {b3 b6 : Nat} {rv' : Value} {K0 : WT} [hrc : CellI rv'] (hm : (rv', f.refs) ∈ Lr) (hd : DOk ⟨fv, sv, L, LS, Pf, Lv, Lr, Ps, Lh⟩ M) (hw : Inv M) (hg : ∀ w ∈ fof M.V f.name, w.gen < f.gen) (hk : E B (dbk a { M with V := insV M.V ⟨f.name, f.gen, f.time, f.refs, false⟩ } :: cel true b3 60 (faL f rv hv mv) :: H) K0) :
    E B (cel true a 88 [fv.1, sv.1, I M.now] :: spool fC Pf :: spool vC Lv :: spool rfC Lr :: spool shC Ps :: spool hC Lh :: cel true b3 60 (faL f rv hv mv) :: cel true b6 31 [I f.gen, I f.time, rv', .bool false] :: H) (fileIn (ptr a) (ptr b3) (ptr b6) K0) := by
  have hlen := hd.len
  have hL := nms_len32 hd hw
  have hfl := hw.fl f.name
  have hns := nms_lt hw.v.n
  have hple := pos_le (nms M.V) f.name
  have hs' : SrtN (insV M.V ⟨f.name, f.gen, f.time, f.refs, false⟩) := (insV_srt hw.v hg).n
  have rf : ∀ H, Rs B (spool fC Pf :: H) fv.1 fC L := rs_pool hd.f
  unfold fileIn
  (repeat first | refine gS ?_ | refine gA fun _ => ?_ | refine gX fun _ _ => ?_ | refine gT ?_ | refine gF ?_ | refine gI ?_)
  refine fileD hd hw ?_
  by_cases hn : f.name ∈ nms M.V
  · rw [decide_eq_true hn]
    have hx' := pos_mem hns hn
    obtain ⟨c, l, hx, hl⟩ := hd.get hx'
    have hpl : posL (nms M.V) f.name < L.length := (List.getElem?_eq_some_iff.1 hx).1
    have rl := rs_pool (B := B) (enc := vC) hl.m
    have hll : l.length = (fof M.V f.name).length := by rw [← hl.e, List.length_map]
    have last : ∀ (u : Value) [CellI u], E B (sls vC 31 4 u (l ++ [((⟨f.name, f.gen, f.time, f.refs, false⟩, ⟨rv', hrc.pf⟩) : VR)]) :: cel true a 88 [fv.1, sv.1, I M.now] :: spool fC Pf :: spool vC Lv :: spool rfC Lr :: spool shC Ps :: spool hC Lh :: cel true b3 60 (faL f rv hv mv) :: cel true b6 31 [I f.gen, I f.time, rv', .bool false] :: H) (V Tryz.prog (Instr.build 86 #[(0, str f.name), (1, u)]) fun v77 => V Tryz.prog (Instr.buildSlice 71 1 #[(0, v77)]) fun v78 => CF Tryz.prog 75 [ptr a, I (posL (nms M.V) f.name), I ((posL (nms M.V) f.name : Int) + 1), v78] fun _ => K0) := fun u hu => by
      refine E_build (l := [str f.name, u]) str_file ?_
      refine E_bsl [(0, 2)] u_fileL elt_file (by simp) (by decide) (l0 := [.string ⟨#[]⟩, nil]) rfl fun bx => ?_
      refine E_slsC (enc := fC) [((f.name, ⟨u, hu.pf⟩) : FC)] 1 rfl rfl ?_
      rw [show (posL (nms M.V) f.name : Int) + 1 = ((posL (nms M.V) f.name + 1 : Nat) : Int) by omega]
      refine sm (G := cel true a 88 [fv.1, sv.1, I M.now] :: spool fC Pf :: spool vC Lv :: spool rfC Lr :: spool shC Ps :: spool hC Lh :: sls fC 86 2 (.slice (some ⟨bx, 0, none⟩) 1 1) [((f.name, ⟨u, hu.pf⟩) : FC)] :: sls vC 31 4 u (l ++ [((⟨f.name, f.gen, f.time, f.refs, false⟩, ⟨rv', hrc.pf⟩) : VR)]) :: cel true b3 60 (faL f rv hv mv) :: H) ?_
      refine withD (L := L) (ms := [((f.name, ⟨u, hu.pf⟩) : FC)]) hd.f (by omega) (by omega) (by omega) (by simp) (fun G => rs_app G inferInstance) fun v' hv' => ?_
      refine fd (a := spool vC Lv) ?_
      refine fd (a := sls vC 31 4 u (l ++ [((⟨f.name, f.gen, f.time, f.refs, false⟩, ⟨rv', hrc.pf⟩) : VR)])) ?_
      refine E_give ?_
      have hv'' : (l ++ [((⟨f.name, f.gen, f.time, f.refs, false⟩, ⟨rv', hrc.pf⟩) : VR)]).map (·.1) = fof (insV M.V ⟨f.name, f.gen, f.time, f.refs, false⟩) f.name := by
        rw [fof_insV hw.v.n, if_pos rfl, List.map_append, hl.e]; rfl
      have hfs := hd.fs.put (V' := insV M.V ⟨f.name, f.gen, f.time, f.refs, false⟩) (Lv' := (u, l ++ [((⟨f.name, f.gen, f.time, f.refs, false⟩, ⟨rv', hrc.pf⟩) : VR)]) :: Lv) (Lr' := Lr) (c := ⟨u, hu.pf⟩) hw.v.n hn (nms_insV_in hw.v.n hs' hn) (fun k' hk' => by rw [fof_insV hw.v.n, if_neg hk']) ⟨by simp, hv'', fun p hp => by
        rcases List.mem_append.1 hp with hp | hp
        · exact hl.r p hp
        · simp only [List.mem_singleton] at hp
          subst hp; exact hm⟩ (fun _ h => List.mem_cons_of_mem _ h) (fun _ h => h)
      refine sm (G := cel true a 88 [v', sv.1, I M.now] :: spool fC ((v', L.take (posL (nms M.V) f.name) ++ [((f.name, ⟨u, hu.pf⟩) : FC)] ++ L.drop (posL (nms M.V) f.name + 1)) :: Pf) :: spool vC ((u, l ++ [((⟨f.name, f.gen, f.time, f.refs, false⟩, ⟨rv', hrc.pf⟩) : VR)]) :: Lv) :: spool rfC Lr :: spool shC Ps :: spool hC Lh :: cel true b3 60 (faL f rv hv mv) :: H) ?_
      exact E_dbkS (M := { M with V := insV M.V ⟨f.name, f.gen, f.time, f.refs, false⟩ }) (fv := ⟨v', hv'.pf⟩) (L := L.take (posL (nms M.V) f.name) ++ [((f.name, ⟨u, hu.pf⟩) : FC)] ++ L.drop (posL (nms M.V) f.name + 1)) ⟨by simp, hfs, hd.s, hd.sh⟩ rfl hk
    (repeat first | refine gS ?_ | refine gA fun _ => ?_ | refine gX fun _ _ => ?_ | refine gT ?_ | refine gF ?_ | refine gI ?_)
    refine E_both ?_ ?_
    · refine E_bsl0 u_vers elt_ver fun b0 => ?_
      refine E_slsC (enc := vC) [] 0 rfl rfl ?_
      (repeat (refine E_rck1 (by first | exact E_ld (E_fact rfl) | exact E_ld' (by assumption) (E_fact rfl) | exact E_b2sR (E_fact rfl) | exact E_gdnF (by assumption) (E_ld (E_fact rfl)) | exact E_gdT (by assumption) (E_ld (E_fact rfl)) | exact E_gtf (E_ld (E_fact rfl)) | exact E_gft (E_ld (E_fact rfl)) | exact E_ldNA (E_fact rfl) | exact E_ptld (E_fact rfl) | exact E_gtf (E_ldNA (E_fact rfl))) ?_)); (first | (refine E_rck0 ?_) | skip)
      refine E_both ?_ ?_
      · refine E_sapps (enc := vC) (l := []) (m := l) u_vers elt_ver (by simp; omega) (by simp; omega) fun v2 _ => ?_
        rw [List.nil_append]
        (repeat (refine E_rck1 (by first | exact E_ld (E_fact rfl) | exact E_ld' (by assumption) (E_fact rfl) | exact E_b2sR (E_fact rfl) | exact E_gdnF (by assumption) (E_ld (E_fact rfl)) | exact E_gdT (by assumption) (E_ld (E_fact rfl)) | exact E_gtf (E_ld (E_fact rfl)) | exact E_gft (E_ld (E_fact rfl)) | exact E_ldNA (E_fact rfl) | exact E_ptld (E_fact rfl) | exact E_gtf (E_ldNA (E_fact rfl))) ?_)); (first | (refine E_rck0 ?_) | skip)
        refine E_bsl [(0, 4)] u_vers elt_ver (by simp) (by decide) (l0 := [I 0, I 0, nil, .bool false]) rfl fun bx => ?_
        refine E_slsC (enc := vC) [((⟨f.name, f.gen, f.time, f.refs, false⟩, ⟨rv', hrc.pf⟩) : VR)] 1 rfl rfl ?_
        (repeat (refine E_rck1 (by first | exact E_ld (E_fact rfl) | exact E_ld' (by assumption) (E_fact rfl) | exact E_b2sR (E_fact rfl) | exact E_gdnF (by assumption) (E_ld (E_fact rfl)) | exact E_gdT (by assumption) (E_ld (E_fact rfl)) | exact E_gtf (E_ld (E_fact rfl)) | exact E_gft (E_ld (E_fact rfl)) | exact E_ldNA (E_fact rfl) | exact E_ptld (E_fact rfl) | exact E_gtf (E_ldNA (E_fact rfl))) ?_)); (first | (refine E_rck0 ?_) | skip)
        refine fd (a := sls vC 31 4 v2 l) ?_
        refine E_sapps (enc := vC) (m := [((⟨f.name, f.gen, f.time, f.refs, false⟩, ⟨rv', hrc.pf⟩) : VR)]) u_vers elt_ver (by simp; omega) (by simp; omega) fun v3 _ => ?_
        (repeat (refine E_rck1 (by first | exact E_ld (E_fact rfl) | exact E_ld' (by assumption) (E_fact rfl) | exact E_b2sR (E_fact rfl) | exact E_gdnF (by assumption) (E_ld (E_fact rfl)) | exact E_gdT (by assumption) (E_ld (E_fact rfl)) | exact E_gtf (E_ld (E_fact rfl)) | exact E_gft (E_ld (E_fact rfl)) | exact E_ldNA (E_fact rfl) | exact E_ptld (E_fact rfl) | exact E_gtf (E_ldNA (E_fact rfl))) ?_)); (first | (refine E_rck0 ?_) | skip)
        exact sm (last v3)
      · refine E_bsl [(0, 4)] u_vers elt_ver (by simp) (by decide) (l0 := [I 0, I 0, nil, .bool false]) rfl fun bx => ?_
        refine E_slsC (enc := vC) [((⟨f.name, f.gen, f.time, f.refs, false⟩, ⟨rv', hrc.pf⟩) : VR)] 1 rfl rfl ?_
        (repeat (refine E_rck1 (by first | exact E_ld (E_fact rfl) | exact E_ld' (by assumption) (E_fact rfl) | exact E_b2sR (E_fact rfl) | exact E_gdnF (by assumption) (E_ld (E_fact rfl)) | exact E_gdT (by assumption) (E_ld (E_fact rfl)) | exact E_gtf (E_ld (E_fact rfl)) | exact E_gft (E_ld (E_fact rfl)) | exact E_ldNA (E_fact rfl) | exact E_ptld (E_fact rfl) | exact E_gtf (E_ldNA (E_fact rfl))) ?_)); (first | (refine E_rck0 ?_) | skip)
        refine fd (a := sls vC 31 4 (.slice (some ⟨b0, 0, none⟩) 0 0) []) ?_
        refine E_sapps (enc := vC) (l := []) (m := l) u_vers elt_ver (by simp; omega) (by simp; omega) fun v2 _ => ?_
        rw [List.nil_append]
        (repeat (refine E_rck1 (by first | exact E_ld (E_fact rfl) | exact E_ld' (by assumption) (E_fact rfl) | exact E_b2sR (E_fact rfl) | exact E_gdnF (by assumption) (E_ld (E_fact rfl)) | exact E_gdT (by assumption) (E_ld (E_fact rfl)) | exact E_gtf (E_ld (E_fact rfl)) | exact E_gft (E_ld (E_fact rfl)) | exact E_ldNA (E_fact rfl) | exact E_ptld (E_fact rfl) | exact E_gtf (E_ldNA (E_fact rfl))) ?_)); (first | (refine E_rck0 ?_) | skip)
        refine E_sapps (enc := vC) (m := [((⟨f.name, f.gen, f.time, f.refs, false⟩, ⟨rv', hrc.pf⟩) : VR)]) u_vers elt_ver (by simp; omega) (by simp; omega) fun v3 _ => ?_
        (repeat (refine E_rck1 (by first | exact E_ld (E_fact rfl) | exact E_ld' (by assumption) (E_fact rfl) | exact E_b2sR (E_fact rfl) | exact E_gdnF (by assumption) (E_ld (E_fact rfl)) | exact E_gdT (by assumption) (E_ld (E_fact rfl)) | exact E_gtf (E_ld (E_fact rfl)) | exact E_gft (E_ld (E_fact rfl)) | exact E_ldNA (E_fact rfl) | exact E_ptld (E_fact rfl) | exact E_gtf (E_ldNA (E_fact rfl))) ?_)); (first | (refine E_rck0 ?_) | skip)
        exact sm (last v3)
    · refine E_bsl [(0, 4)] u_vers elt_ver (by simp) (by decide) (l0 := [I 0, I 0, nil, .bool false]) rfl fun bx => ?_
      refine E_slsC (enc := vC) [((⟨f.name, f.gen, f.time, f.refs, false⟩, ⟨rv', hrc.pf⟩) : VR)] 1 rfl rfl ?_
      (repeat (refine E_rck1 (by first | exact E_ld (E_fact rfl) | exact E_ld' (by assumption) (E_fact rfl) | exact E_b2sR (E_fact rfl) | exact E_gdnF (by assumption) (E_ld (E_fact rfl)) | exact E_gdT (by assumption) (E_ld (E_fact rfl)) | exact E_gtf (E_ld (E_fact rfl)) | exact E_gft (E_ld (E_fact rfl)) | exact E_ldNA (E_fact rfl) | exact E_ptld (E_fact rfl) | exact E_gtf (E_ldNA (E_fact rfl))) ?_)); (first | (refine E_rck0 ?_) | skip)
      refine E_bsl0 u_vers elt_ver fun b0 => ?_
      refine E_slsC (enc := vC) [] 0 rfl rfl ?_
      (repeat (refine E_rck1 (by first | exact E_ld (E_fact rfl) | exact E_ld' (by assumption) (E_fact rfl) | exact E_b2sR (E_fact rfl) | exact E_gdnF (by assumption) (E_ld (E_fact rfl)) | exact E_gdT (by assumption) (E_ld (E_fact rfl)) | exact E_gtf (E_ld (E_fact rfl)) | exact E_gft (E_ld (E_fact rfl)) | exact E_ldNA (E_fact rfl) | exact E_ptld (E_fact rfl) | exact E_gtf (E_ldNA (E_fact rfl))) ?_)); (first | (refine E_rck0 ?_) | skip)
      refine E_sapps (enc := vC) (l := []) (m := l) u_vers elt_ver (by simp; omega) (by simp; omega) fun v2 _ => ?_
      rw [List.nil_append]
      (repeat (refine E_rck1 (by first | exact E_ld (E_fact rfl) | exact E_ld' (by assumption) (E_fact rfl) | exact E_b2sR (E_fact rfl) | exact E_gdnF (by assumption) (E_ld (E_fact rfl)) | exact E_gdT (by assumption) (E_ld (E_fact rfl)) | exact E_gtf (E_ld (E_fact rfl)) | exact E_gft (E_ld (E_fact rfl)) | exact E_ldNA (E_fact rfl) | exact E_ptld (E_fact rfl) | exact E_gtf (E_ldNA (E_fact rfl))) ?_)); (first | (refine E_rck0 ?_) | skip)
      refine E_sapps (enc := vC) (m := [((⟨f.name, f.gen, f.time, f.refs, false⟩, ⟨rv', hrc.pf⟩) : VR)]) u_vers elt_ver (by simp; omega) (by simp; omega) fun v3 _ => ?_
      (repeat (refine E_rck1 (by first | exact E_ld (E_fact rfl) | exact E_ld' (by assumption) (E_fact rfl) | exact E_b2sR (E_fact rfl) | exact E_gdnF (by assumption) (E_ld (E_fact rfl)) | exact E_gdT (by assumption) (E_ld (E_fact rfl)) | exact E_gtf (E_ld (E_fact rfl)) | exact E_gft (E_ld (E_fact rfl)) | exact E_ldNA (E_fact rfl) | exact E_ptld (E_fact rfl) | exact E_gtf (E_ldNA (E_fact rfl))) ?_)); (first | (refine E_rck0 ?_) | skip)
      exact sm (last v3)
  · rw [decide_eq_false hn]
    (repeat first | refine gS ?_ | refine gA fun _ => ?_ | refine gX fun _ _ => ?_ | refine gT ?_ | refine gF ?_ | refine gI ?_)
    refine E_bsl [(0, 4)] u_vers elt_ver (by simp) (by decide) (l0 := [I 0, I 0, nil, .bool false]) rfl fun bv => ?_
    refine E_slsC (enc := vC) [((⟨f.name, f.gen, f.time, f.refs, false⟩, ⟨rv', hrc.pf⟩) : VR)] 1 rfl rfl ?_
    refine E_build (l := [str f.name, .slice (some ⟨bv, 0, none⟩) 1 1]) str_file ?_
    refine E_bsl [(0, 2)] u_fileL elt_file (by simp) (by decide) (l0 := [.string ⟨#[]⟩, nil]) rfl fun bx => ?_
    refine E_slsC (enc := fC) [((f.name, ⟨.slice (some ⟨bv, 0, none⟩) 1 1, rfl⟩) : FC)] 1 rfl rfl ?_
    refine sm (G := cel true a 88 [fv.1, sv.1, I M.now] :: spool fC Pf :: spool vC Lv :: spool rfC Lr :: spool shC Ps :: spool hC Lh :: sls fC 86 2 (.slice (some ⟨bx, 0, none⟩) 1 1) [((f.name, ⟨.slice (some ⟨bv, 0, none⟩) 1 1, rfl⟩) : FC)] :: sls vC 31 4 (.slice (some ⟨bv, 0, none⟩) 1 1) [((⟨f.name, f.gen, f.time, f.refs, false⟩, ⟨rv', hrc.pf⟩) : VR)] :: cel true b3 60 (faL f rv hv mv) :: H) ?_
    refine withD (L := L) (ms := [((f.name, ⟨.slice (some ⟨bv, 0, none⟩) 1 1, rfl⟩) : FC)]) hd.f (by omega) (by omega) (by omega) (by simp) (fun G => rs_app G inferInstance) fun v' hv' => ?_
    refine fd (a := spool vC Lv) ?_
    refine fd (a := sls vC 31 4 (.slice (some ⟨bv, 0, none⟩) 1 1) [((⟨f.name, f.gen, f.time, f.refs, false⟩, ⟨rv', hrc.pf⟩) : VR)]) ?_
    refine E_give ?_
    have hv'' : ([((⟨f.name, f.gen, f.time, f.refs, false⟩, ⟨rv', hrc.pf⟩) : VR)]).map (·.1) = fof (insV M.V ⟨f.name, f.gen, f.time, f.refs, false⟩) f.name := by
      rw [fof_insV hw.v.n, if_pos rfl, fof_none hn]; rfl
    have hfs := hd.fs.ins (v := ⟨f.name, f.gen, f.time, f.refs, false⟩) (Lv' := (.slice (some ⟨bv, 0, none⟩) 1 1, [((⟨f.name, f.gen, f.time, f.refs, false⟩, ⟨rv', hrc.pf⟩) : VR)]) :: Lv) (Lr' := Lr) (c := ⟨.slice (some ⟨bv, 0, none⟩) 1 1, rfl⟩) hw.v.n hs' hn ⟨by simp, hv'', fun p hp => by
      simp only [List.mem_singleton] at hp
      subst hp; exact hm⟩ (fun _ h => List.mem_cons_of_mem _ h) (fun _ h => h)
    refine sm (G := cel true a 88 [v', sv.1, I M.now] :: spool fC ((v', L.take (posL (nms M.V) f.name) ++ [((f.name, ⟨.slice (some ⟨bv, 0, none⟩) 1 1, rfl⟩) : FC)] ++ L.drop (posL (nms M.V) f.name)) :: Pf) :: spool vC ((.slice (some ⟨bv, 0, none⟩) 1 1, [((⟨f.name, f.gen, f.time, f.refs, false⟩, ⟨rv', hrc.pf⟩) : VR)]) :: Lv) :: spool rfC Lr :: spool shC Ps :: spool hC Lh :: cel true b3 60 (faL f rv hv mv) :: H) ?_
    exact E_dbkS (M := { M with V := insV M.V ⟨f.name, f.gen, f.time, f.refs, false⟩ }) (fv := ⟨v', hv'.pf⟩) (L := L.take (posL (nms M.V) f.name) ++ [((f.name, ⟨.slice (some ⟨bv, 0, none⟩) 1 1, rfl⟩) : FC)] ++ L.drop (posL (nms M.V) f.name)) ⟨by simp, hfs, hd.s, hd.sh⟩ rfl hk
end Go.Proofs.YtjafpncngmbcdaaGreat.Nam
end
section
namespace Go.Proofs.YtjafpncngmbcdaaGreat.Nam
open Go Go.SL Go.Proofs Go.Proofs.YtjafpncngmbcdaaGreat.Sh
variable {B : World} {H : List Asrt} {K : Value → WT} {W : WT} {a : Nat} {M : Bk} {f : Fa} {rv hv mv : Value}
variable {fv sv : Cv} {L : List FC} {LS : List SC} {Pf : List (Value × List FC)} {Lv : List (Value × List VR)} {Lr : List (Value × List Rf)} {Ps : List (Value × List SC)} {Lh : List (Value × List (List UInt8 × Int))}
theorem DOk.refs (hd : DOk ⟨fv, sv, L, LS, Pf, Lv, Lr, Ps, Lh⟩ M) (p : Value × List Rf) : DOk ⟨fv, sv, L, LS, Pf, Lv, p :: Lr, Ps, Lh⟩ M where
  f := hd.f
  fs := ⟨hd.fs.1, fun q hq => by obtain ⟨l, hl⟩ := hd.fs.2 q hq; exact ⟨l, hl.mono (fun _ h => h) (fun _ h => List.mem_cons_of_mem _ h)⟩⟩
  s := hd.s
  sh := hd.sh
theorem posL_at {ns : List (List UInt8)} {i : Nat} {k : List UInt8} (hs : ns.Pairwise (· < ·)) (hx : ns[i]? = some k) : posL ns k = i := by
  obtain ⟨hi, e⟩ := List.getElem?_eq_some_iff.1 hx
  refine (pos_at hs hx (fun y hy => ?_) (slt_irr k)).1
  obtain ⟨j, hj, e'⟩ := List.mem_take_iff_getElem.1 hy
  have := List.pairwise_iff_getElem.1 hs j i (by omega) hi (by omega)
  rw [e, e'] at this; exact this
attribute [local irreducible] S.pick S.ld S.ldN S.st S.box S.nc S.fad S.ixS S.ixA S.chr S.prt S.ext S.bin S.sh S.sbin S.beq S.neg1 S.com1 S.not1 S.cvt S.str1 S.lenS S.len S.cap S.lenM S.mx S.mn S.mkM S.cond S.gd S.fa S.dr S.rck S.join S.loop S.cvv S.eqv S.slc S.slcS S.b2s S.lk V U CF Gives E cel mpb osl ros dct dit itr lpo dfo
set_option maxRecDepth 8000
attribute [local irreducible] bk dbk
theorem applyD0 [CellI rv] [CellI hv] [CellI mv] [hr1 : Rs B H rv rfC f.refs] [hr2 : Rs B H hv hC f.held] [hr3 : ∀ G, Rs B (G ++ H) mv mvC f.moves] (ho : FaOk f) (hw : Inv M)
    (hrec : f.k = 9 → ∀ (M' : Bk) (x : List UInt8 × Int) (H' : List Asrt) (K' : Value → WT), Inv M' → x.1.length ≤ 1000 → (∀ e, E B (dbk a (stepD M' x) :: H') (K' (I e))) → E B (dbk a M' :: H') (CF Tryz.prog 34 [ptr a, .agg (faL (dropF x) nil nil nil).toArray] K'))
    (h : E B (dbk a (stepM M f) :: H) (K (I (checkB M f)))) : E B (dbk a M :: H) (CF Tryz.prog 34 [ptr a, .agg (faL f rv hv mv).toArray] K) := by
  have hr3' : Rs B H mv mvC f.moves := hr3 []
  refine E_mono (W := s34 _ _ K) ?_ fun _ => c34
  unfold s34
  refine E_box (vs := faL f rv hv mv) fun b3 => ?_
  (repeat first | refine gS ?_ | refine gA fun _ => ?_ | refine gX fun _ _ => ?_ | refine gT ?_ | refine gF ?_ | refine gI ?_)
  refine fd (a := dbk a M) (E_dbk fun fv sv L LS Pf Lv Lr Ps Lh hd => ?_)
  refine checkD ho hd hw ?_
  refine E_neq ?_
  refine E_if (fun hc => ?_) (fun hc => ?_)
  · unfold stepM at h
    rw [if_pos hc] at h
    exact E_dbkS hd rfl (sm h)
  have hc0 : checkB M f = 0 := Decidable.not_not.1 hc
  have ok := checkB0.1 hc0
  obtain ⟨hk, hbad, hrl, hhl, hml, hmo, hho, hro, hbare⟩ := checkF0 ok.c
  obtain ⟨hnm, hgen, hng, hnt, h9⟩ := badB0 hbad
  have hfl := hw.fl
  have hnl := hw.nl
  have hlen := hd.len
  have hL := nms_len32 hd hw
  have hlS := hd.lenS
  have h16 := hw.s16
  have hns := nms_lt hw.v.n
  have hss := List.pairwise_map.2 hw.ss
  have rf : ∀ H, Rs B (spool fC Pf :: H) fv.1 fC L := rs_pool hd.f
  have rs : ∀ H, Rs B (spool shC Ps :: H) sv.1 shC LS := rs_pool hd.s
  have fin : ∀ M', applyM M f = M' → E B (dbk a M' :: H) (K (I 0)) := fun M' e => by
    unfold stepM at h
    rw [if_neg (by simpa using hc0), hc0, e] at h
    exact h
  refine E_join1 [] (dbk a (applyM M f) :: cel true b3 60 (faL f rv hv mv) :: H) (fun q hq => ?_) ?_
  case refine_2 =>
    refine E_fa fun _ => ?_
    exact sm (fin (applyM M f) rfl)
  clear fin
  have fin : ∀ M', applyM M f = M' → E B (dbk a M' :: cel true b3 60 (faL f rv hv mv) :: H) (app 0 q []) := fun M' e => e ▸ hq
  clear hq h
  unfold applyM at fin
  by_cases h8 : f.k = 8
  · rw [if_pos h8] at fin
    (repeat first | refine gS ?_ | refine gA fun _ => ?_ | refine gX fun _ _ => ?_ | refine gT ?_ | refine gF ?_ | refine gI ?_)
    refine sm (G := cel true a 88 [fv.1, sv.1, I f.time] :: spool fC Pf :: spool vC Lv :: spool rfC Lr :: spool shC Ps :: spool hC Lh :: cel true b3 60 (faL f rv hv mv) :: H) ?_
    exact E_dbkS (M := { M with now := f.time }) ⟨hd.f, hd.fs, hd.s, hd.sh⟩ rfl (fin _ rfl)
  rw [if_neg h8] at fin
  by_cases h3 : f.k = 3
  · rw [if_pos h3] at fin
    have hgg : ∀ w ∈ fof M.V f.name, w.gen < f.gen := fun w hw' => by
      have h1 := topG_le (fof_srt hw.v f.name) w hw'
      have h2 := (ok.k3 h3).2.1
      unfold nextG at h2
      omega
    have inner : ∀ (v48 : Value) (b6 : Nat) [CellI v48], E B (cel true b6 31 [I f.gen, I f.time, v48, .bool false] :: sls rfC 38 35 v48 f.refs :: cel true a 88 [fv.1, sv.1, I M.now] :: spool fC Pf :: spool vC Lv :: spool rfC Lr :: spool shC Ps :: spool hC Lh :: cel true b3 60 (faL f rv hv mv) :: H) (fileIn (ptr a) (ptr b3) (ptr b6) (app 0 q [])) := fun v48 b6 _ => by
      refine fd (a := spool rfC Lr) ?_
      refine fd (a := sls rfC 38 35 v48 f.refs) ?_
      refine E_give ?_
      refine sm (G := cel true a 88 [fv.1, sv.1, I M.now] :: spool fC Pf :: spool vC Lv :: spool rfC ((v48, f.refs) :: Lr) :: spool shC Ps :: spool hC Lh :: cel true b3 60 (faL f rv hv mv) :: cel true b6 31 [I f.gen, I f.time, v48, .bool false] :: H) ?_
      exact fileIn_ok (List.mem_cons_self) (hd.refs _) hw hgg (sm (fin _ rfl))
    (repeat first | refine gS ?_ | refine gA fun _ => ?_ | refine gX fun _ _ => ?_ | refine gT ?_ | refine gF ?_ | refine gI ?_)
    refine E_both ?_ ?_
    · refine E_bsl0 u_refs elt_ref fun b0 => ?_
      refine E_slsC (enc := rfC) [] 0 rfl rfl ?_
      (repeat (refine E_rck1 (by first | exact E_ld (E_fact rfl) | exact E_ld' (by assumption) (E_fact rfl) | exact E_b2sR (E_fact rfl) | exact E_gdnF (by assumption) (E_ld (E_fact rfl)) | exact E_gdT (by assumption) (E_ld (E_fact rfl)) | exact E_gtf (E_ld (E_fact rfl)) | exact E_gft (E_ld (E_fact rfl)) | exact E_ldNA (E_fact rfl) | exact E_ptld (E_fact rfl) | exact E_gtf (E_ldNA (E_fact rfl))) ?_)); (first | (refine E_rck0 ?_) | skip)
      refine E_both ?_ ?_
      · refine E_sapps (enc := rfC) (l := []) (m := f.refs) u_refs elt_ref (by simp; omega) (by simp; omega) fun v48 _ => ?_
        rw [List.nil_append]
        (repeat (refine E_rck1 (by first | exact E_ld (E_fact rfl) | exact E_ld' (by assumption) (E_fact rfl) | exact E_b2sR (E_fact rfl) | exact E_gdnF (by assumption) (E_ld (E_fact rfl)) | exact E_gdT (by assumption) (E_ld (E_fact rfl)) | exact E_gtf (E_ld (E_fact rfl)) | exact E_gft (E_ld (E_fact rfl)) | exact E_ldNA (E_fact rfl) | exact E_ptld (E_fact rfl) | exact E_gtf (E_ldNA (E_fact rfl))) ?_)); (first | (refine E_rck0 ?_) | skip)
        refine E_both ?_ ?_
        · refine E_build (l := [I f.gen, I f.time, v48, .bool false]) str_ver ?_
          refine E_box (vs := [I 0, I 0, nil, .bool false]) fun b6 => ?_
          refine E_stW (vs := [I f.gen, I f.time, v48, .bool false]) rfl rfl ?_
          exact sm (inner v48 b6)
        · refine E_box (vs := [I 0, I 0, nil, .bool false]) fun b6 => ?_
          (repeat (refine E_rck1 (by first | exact E_ld (E_fact rfl) | exact E_ld' (by assumption) (E_fact rfl) | exact E_b2sR (E_fact rfl) | exact E_gdnF (by assumption) (E_ld (E_fact rfl)) | exact E_gdT (by assumption) (E_ld (E_fact rfl)) | exact E_gtf (E_ld (E_fact rfl)) | exact E_gft (E_ld (E_fact rfl)) | exact E_ldNA (E_fact rfl) | exact E_ptld (E_fact rfl) | exact E_gtf (E_ldNA (E_fact rfl))) ?_)); (first | (refine E_rck0 ?_) | skip)
          refine E_build (l := [I f.gen, I f.time, v48, .bool false]) str_ver ?_
          refine E_stW (vs := [I f.gen, I f.time, v48, .bool false]) rfl rfl ?_
          exact sm (inner v48 b6)
      · refine E_box (vs := [I 0, I 0, nil, .bool false]) fun b6 => ?_
        (repeat (refine E_rck1 (by first | exact E_ld (E_fact rfl) | exact E_ld' (by assumption) (E_fact rfl) | exact E_b2sR (E_fact rfl) | exact E_gdnF (by assumption) (E_ld (E_fact rfl)) | exact E_gdT (by assumption) (E_ld (E_fact rfl)) | exact E_gtf (E_ld (E_fact rfl)) | exact E_gft (E_ld (E_fact rfl)) | exact E_ldNA (E_fact rfl) | exact E_ptld (E_fact rfl) | exact E_gtf (E_ldNA (E_fact rfl))) ?_)); (first | (refine E_rck0 ?_) | skip)
        refine fd (a := sls rfC 38 35 (.slice (some ⟨b0, 0, none⟩) 0 0) []) ?_
        refine E_sapps (enc := rfC) (l := []) (m := f.refs) u_refs elt_ref (by simp; omega) (by simp; omega) fun v48 _ => ?_
        rw [List.nil_append]
        (repeat (refine E_rck1 (by first | exact E_ld (E_fact rfl) | exact E_ld' (by assumption) (E_fact rfl) | exact E_b2sR (E_fact rfl) | exact E_gdnF (by assumption) (E_ld (E_fact rfl)) | exact E_gdT (by assumption) (E_ld (E_fact rfl)) | exact E_gtf (E_ld (E_fact rfl)) | exact E_gft (E_ld (E_fact rfl)) | exact E_ldNA (E_fact rfl) | exact E_ptld (E_fact rfl) | exact E_gtf (E_ldNA (E_fact rfl))) ?_)); (first | (refine E_rck0 ?_) | skip)
        refine E_build (l := [I f.gen, I f.time, v48, .bool false]) str_ver ?_
        refine fd (a := cel true b6 31 [I 0, I 0, nil, .bool false]) ?_
        refine E_stW (vs := [I f.gen, I f.time, v48, .bool false]) rfl rfl ?_
        exact sm (inner v48 b6)
    · refine E_box (vs := [I 0, I 0, nil, .bool false]) fun b6 => ?_
      (repeat (refine E_rck1 (by first | exact E_ld (E_fact rfl) | exact E_ld' (by assumption) (E_fact rfl) | exact E_b2sR (E_fact rfl) | exact E_gdnF (by assumption) (E_ld (E_fact rfl)) | exact E_gdT (by assumption) (E_ld (E_fact rfl)) | exact E_gtf (E_ld (E_fact rfl)) | exact E_gft (E_ld (E_fact rfl)) | exact E_ldNA (E_fact rfl) | exact E_ptld (E_fact rfl) | exact E_gtf (E_ldNA (E_fact rfl))) ?_)); (first | (refine E_rck0 ?_) | skip)
      refine E_bsl0 u_refs elt_ref fun b0 => ?_
      refine E_slsC (enc := rfC) [] 0 rfl rfl ?_
      (repeat (refine E_rck1 (by first | exact E_ld (E_fact rfl) | exact E_ld' (by assumption) (E_fact rfl) | exact E_b2sR (E_fact rfl) | exact E_gdnF (by assumption) (E_ld (E_fact rfl)) | exact E_gdT (by assumption) (E_ld (E_fact rfl)) | exact E_gtf (E_ld (E_fact rfl)) | exact E_gft (E_ld (E_fact rfl)) | exact E_ldNA (E_fact rfl) | exact E_ptld (E_fact rfl) | exact E_gtf (E_ldNA (E_fact rfl))) ?_)); (first | (refine E_rck0 ?_) | skip)
      refine E_sapps (enc := rfC) (l := []) (m := f.refs) u_refs elt_ref (by simp; omega) (by simp; omega) fun v48 _ => ?_
      rw [List.nil_append]
      (repeat (refine E_rck1 (by first | exact E_ld (E_fact rfl) | exact E_ld' (by assumption) (E_fact rfl) | exact E_b2sR (E_fact rfl) | exact E_gdnF (by assumption) (E_ld (E_fact rfl)) | exact E_gdT (by assumption) (E_ld (E_fact rfl)) | exact E_gtf (E_ld (E_fact rfl)) | exact E_gft (E_ld (E_fact rfl)) | exact E_ldNA (E_fact rfl) | exact E_ptld (E_fact rfl) | exact E_gtf (E_ldNA (E_fact rfl))) ?_)); (first | (refine E_rck0 ?_) | skip)
      refine E_build (l := [I f.gen, I f.time, v48, .bool false]) str_ver ?_
      refine fd (a := cel true b6 31 [I 0, I 0, nil, .bool false]) ?_
      refine E_stW (vs := [I f.gen, I f.time, v48, .bool false]) rfl rfl ?_
      exact sm (inner v48 b6)
  rw [if_neg h3] at fin
  by_cases h4 : f.k = 4
  · rw [if_pos h4] at fin
    (repeat first | refine gS ?_ | refine gA fun _ => ?_ | refine gX fun _ _ => ?_ | refine gT ?_ | refine gF ?_ | refine gI ?_)
    refine E_build (l := [str f.name, I f.gen]) str_held ?_
    obtain ⟨x0, _, _, _, _, hg0⟩ := live_some (ok.k4 h4)
    refine findD hd hw (fun e => ?_) (fun j e hn => ?_)
    · exfalso
      rcases fi (fof M.V f.name) (genP f.gen) with ⟨_, e2⟩ | ⟨_, _, e2, _, _⟩
      · unfold genV at hg0
        rw [show (fun v : Ver => decide (v.gen = f.gen)) = genP f.gen from rfl, e2] at hg0; cases hg0
      · rw [e] at e2; cases e2
    rcases fi (fof M.V f.name) (genP f.gen) with ⟨e2, _⟩ | ⟨j', x, e2, e3, e4⟩
    · rw [e] at e2; cases e2
    rw [e] at e2; cases e2
    have hxg : x.gen = f.gen := by simpa [genP] using List.find?_some e4
    obtain ⟨c, l, hx, hl⟩ := hd.get (pos_mem hns hn)
    have hpl : posL (nms M.V) f.name < L.length := (List.getElem?_eq_some_iff.1 hx).1
    have rl := rs_pool (B := B) (enc := vC) hl.m
    have hll : l.length = (fof M.V f.name).length := by rw [← hl.e, List.length_map]
    have hlf := hfl f.name
    have hp : ∃ p, l[j]? = some p ∧ p.1 = x := by
      rw [← hl.e, List.getElem?_map] at e3
      cases hp : l[j]? with
      | none => rw [hp] at e3; cases e3
      | some p => rw [hp] at e3; exact ⟨p, rfl, Option.some.inj e3⟩
    obtain ⟨p, hp, hpx⟩ := hp
    (repeat first | refine gS ?_ | refine gA fun _ => ?_ | refine gX fun _ _ => ?_ | refine gT ?_ | refine gF ?_ | refine gI ?_)
    refine E_bsl0 u_vers elt_ver fun b0 => ?_
    refine E_slsC (enc := vC) [] 0 rfl rfl ?_
    (repeat first | refine gS ?_ | refine gA fun _ => ?_ | refine gX fun _ _ => ?_ | refine gT ?_ | refine gF ?_ | refine gI ?_)
    refine E_sapps (enc := vC) (l := []) (m := l) u_vers elt_ver (by simp; omega) (by simp; omega) fun u hu => ?_
    rw [List.nil_append]
    refine E_sfld (goneV p.1, p.2) hp (by decide) rfl ?_
    (repeat first | refine gS ?_ | refine gA fun _ => ?_ | refine gX fun _ _ => ?_ | refine gT ?_ | refine gF ?_ | refine gI ?_)
    refine E_build (l := [str f.name, u]) str_file ?_
    refine E_bsl [(0, 2)] u_fileL elt_file (by simp) (by decide) (l0 := [.string ⟨#[]⟩, nil]) rfl fun bx => ?_
    refine E_slsC (enc := fC) [((f.name, ⟨u, hu.pf⟩) : FC)] 1 rfl rfl ?_
    rw [show (posL (nms M.V) f.name : Int) + 1 = ((posL (nms M.V) f.name + 1 : Nat) : Int) by omega]
    refine sm (G := cel true a 88 [fv.1, sv.1, I M.now] :: spool fC Pf :: spool vC Lv :: spool rfC Lr :: spool shC Ps :: spool hC Lh :: sls fC 86 2 (.slice (some ⟨bx, 0, none⟩) 1 1) [((f.name, ⟨u, hu.pf⟩) : FC)] :: sls vC 31 4 u (l.set j (goneV p.1, p.2)) :: cel true b3 60 (faL f rv hv mv) :: H) ?_
    refine withD (L := L) (ms := [((f.name, ⟨u, hu.pf⟩) : FC)]) hd.f (by omega) (by omega) (by omega) (by simp) (fun G => rs_app G inferInstance) fun v' hv' => ?_
    refine fd (a := spool vC Lv) ?_
    refine fd (a := sls vC 31 4 u (l.set j (goneV p.1, p.2))) ?_
    refine E_give ?_
    have hv'' : (l.set j (goneV p.1, p.2)).map (·.1) = fof (markV M.V f.name f.gen) f.name := by
      rw [← hxg, fof_mark hw.v e3, List.map_set, hl.e, hpx]
    have hnm' : nms (markV M.V f.name f.gen) = nms M.V := nms_map fun v => (mark_f _ _ v).1
    have hfs := hd.fs.put (V' := markV M.V f.name f.gen) (Lv' := (u, l.set j (goneV p.1, p.2)) :: Lv) (Lr' := Lr) (c := ⟨u, hu.pf⟩) hw.v.n hn hnm' (fun k' hk' => fof_mark_ne hk') ⟨by simp, hv'', fun y hy => by
      rcases List.mem_or_eq_of_mem_set hy with hy | hy
      · exact hl.r y hy
      · subst hy; exact hl.r p (List.mem_of_getElem? hp)⟩ (fun _ h => List.mem_cons_of_mem _ h) (fun _ h => h)
    refine sm (G := cel true a 88 [v', sv.1, I M.now] :: spool fC ((v', L.take (posL (nms M.V) f.name) ++ [((f.name, ⟨u, hu.pf⟩) : FC)] ++ L.drop (posL (nms M.V) f.name + 1)) :: Pf) :: spool vC ((u, l.set j (goneV p.1, p.2)) :: Lv) :: spool rfC Lr :: spool shC Ps :: spool hC Lh :: cel true b3 60 (faL f rv hv mv) :: H) ?_
    have hd' : DOk ⟨⟨v', hv'.pf⟩, sv, L.take (posL (nms M.V) f.name) ++ [((f.name, ⟨u, hu.pf⟩) : FC)] ++ L.drop (posL (nms M.V) f.name + 1), LS, (v', L.take (posL (nms M.V) f.name) ++ [((f.name, ⟨u, hu.pf⟩) : FC)] ++ L.drop (posL (nms M.V) f.name + 1)) :: Pf, (u, l.set j (goneV p.1, p.2)) :: Lv, Lr, Ps, Lh⟩ { M with V := markV M.V f.name f.gen } := ⟨by simp, hfs, hd.s, hd.sh⟩
    refine sweepD (M := { M with V := markV M.V f.name f.gen }) (fv := ⟨v', hv'.pf⟩) hd' (srtG_map hw.v fun v => mark_f f.name f.gen v).n (by show (nms (markV M.V f.name f.gen)).length ≤ 1000; rw [hnm']; omega) (fun k => ?_) (by show M.S.length ≤ 1000; omega) (fun s hs => Nat.le_trans (hw.hh s hs) (by decide)) fun fv' L' Pf' Lv' hd'' => ?_
    · show (fof (markV M.V f.name f.gen) k).length ≤ 1000
      unfold markV
      rw [fof_map (fun v => (mark_f _ _ v).1), List.length_map]
      have := hfl k; omega
    · exact E_dbkS (fv := fv') hd'' rfl (fin _ rfl)
  rw [if_neg h4] at fin
  by_cases h5 : f.k = 5
  · rw [if_pos h5] at fin
    have hpl := pos_le (M.S.map fun s : Sn => s.name) f.name
    rw [List.length_map] at hpl
    (repeat first | refine gS ?_ | refine gA fun _ => ?_ | refine gX fun _ _ => ?_ | refine gT ?_ | refine gF ?_ | refine gI ?_)
    refine shotD hd hw ?_
    (repeat first | refine gS ?_ | refine gA fun _ => ?_ | refine gX fun _ _ => ?_ | refine gT ?_ | refine gF ?_ | refine gI ?_)
    generalize hpos : posL (M.S.map fun s : Sn => s.name) f.name = i at hpl ⊢
    refine E_bsl0 u_shotL elt_shot fun b0 => ?_
    refine E_slsC (enc := shC) [] 0 rfl rfl ?_
    (repeat first | refine gS ?_ | refine gA fun _ => ?_ | refine gX fun _ _ => ?_ | refine gT ?_ | refine gF ?_ | refine gI ?_)
    refine E_slcS2 (v := sv.1) (l := LS) (i := 0) (j := i) (by simp [S.bound]) rfl (by omega) (by omega) fun v1 _ _ => ?_
    refine fd (a := sls shC 90 3 (.slice (some ⟨b0, 0, none⟩) 0 0) []) ?_
    refine E_sapps (enc := shC) (l := []) (m := (LS.drop 0).take (i - 0)) u_shotL elt_shot (by simp; omega) (by simp; omega) fun v2 _ => ?_
    (repeat first | refine gS ?_ | refine gA fun _ => ?_ | refine gX fun _ _ => ?_ | refine gT ?_ | refine gF ?_ | refine gI ?_)
    refine E_bsl0 u_helds elt_held fun b1 => ?_
    refine E_slsC (enc := hC) [] 0 rfl rfl ?_
    (repeat (refine E_rck1 (by first | exact E_ld (E_fact rfl) | exact E_ld' (by assumption) (E_fact rfl) | exact E_b2sR (E_fact rfl) | exact E_gdnF (by assumption) (E_ld (E_fact rfl)) | exact E_gdT (by assumption) (E_ld (E_fact rfl)) | exact E_gtf (E_ld (E_fact rfl)) | exact E_gft (E_ld (E_fact rfl)) | exact E_ldNA (E_fact rfl) | exact E_ptld (E_fact rfl) | exact E_gtf (E_ldNA (E_fact rfl))) ?_)); (first | (refine E_rck0 ?_) | skip)
    refine E_sapps (enc := hC) (l := []) (m := f.held) u_helds elt_held (by simp; omega) (by simp; omega) fun vh hvh => ?_
    rw [List.nil_append]
    (repeat (refine E_rck1 (by first | exact E_ld (E_fact rfl) | exact E_ld' (by assumption) (E_fact rfl) | exact E_b2sR (E_fact rfl) | exact E_gdnF (by assumption) (E_ld (E_fact rfl)) | exact E_gdT (by assumption) (E_ld (E_fact rfl)) | exact E_gtf (E_ld (E_fact rfl)) | exact E_gft (E_ld (E_fact rfl)) | exact E_ldNA (E_fact rfl) | exact E_ptld (E_fact rfl) | exact E_gtf (E_ldNA (E_fact rfl))) ?_)); (first | (refine E_rck0 ?_) | skip)
    refine E_build (l := [str f.name, I f.time, vh]) str_shot ?_
    refine fd (a := sls shC 90 3 v2 ([] ++ (LS.drop 0).take (i - 0))) ?_
    refine E_sapp1 (enc := shC) ((⟨f.name, f.time, f.held⟩, ⟨vh, hvh.pf⟩) : SC) u_shotL elt_shot rfl (by decide) (by simp; omega) (by simp; omega) fun v3 _ => ?_
    (repeat first | refine gS ?_ | refine gA fun _ => ?_ | refine gX fun _ _ => ?_ | refine gT ?_ | refine gF ?_ | refine gI ?_)
    refine E_slcS2 (v := sv.1) (l := LS) (i := i) (j := LS.length) rfl (by simp [S.bound]) (by omega) (Nat.le_refl _) fun v4 _ _ => ?_
    refine fd (a := sls shC 90 3 v3 ([] ++ (LS.drop 0).take (i - 0) ++ [((⟨f.name, f.time, f.held⟩, ⟨vh, hvh.pf⟩) : SC)])) ?_
    refine E_sapps (enc := shC) (m := (LS.drop i).take (LS.length - i)) u_shotL elt_shot (by simp; omega) (by simp; omega) fun v5 hv5 => ?_
    have e : [] ++ (LS.drop 0).take (i - 0) ++ [((⟨f.name, f.time, f.held⟩, ⟨vh, hvh.pf⟩) : SC)] ++ (LS.drop i).take (LS.length - i) = LS.take i ++ [((⟨f.name, f.time, f.held⟩, ⟨vh, hvh.pf⟩) : SC)] ++ LS.drop i := by
      rw [List.nil_append, List.drop_zero, Nat.sub_zero, List.take_of_length_le (l := LS.drop i) (by simp)]
    rw [e]
    (repeat first | refine gS ?_ | refine gA fun _ => ?_ | refine gX fun _ _ => ?_ | refine gT ?_ | refine gF ?_ | refine gI ?_)
    refine fd (a := spool shC Ps) ?_
    refine fd (a := sls shC 90 3 v5 (LS.take i ++ [((⟨f.name, f.time, f.held⟩, ⟨vh, hvh.pf⟩) : SC)] ++ LS.drop i)) ?_
    refine E_give ?_
    refine fd (a := spool hC Lh) ?_
    refine fd (a := sls hC 53 2 vh f.held) ?_
    refine E_give ?_
    refine sm (G := cel true a 88 [fv.1, v5, I M.now] :: spool fC Pf :: spool vC Lv :: spool rfC Lr :: spool shC ((v5, LS.take i ++ [((⟨f.name, f.time, f.held⟩, ⟨vh, hvh.pf⟩) : SC)] ++ LS.drop i) :: Ps) :: spool hC ((vh, f.held) :: Lh) :: cel true b3 60 (faL f rv hv mv) :: H) ?_
    refine E_dbkS (M := { M with S := insS M.S ⟨f.name, f.time, f.held⟩ }) (sv := ⟨v5, hv5.pf⟩) (LS := LS.take i ++ [((⟨f.name, f.time, f.held⟩, ⟨vh, hvh.pf⟩) : SC)] ++ LS.drop i) ⟨hd.f, hd.fs, by simp, ?_, fun p hp => ?_⟩ rfl (fin _ rfl)
    · show _ = insS M.S ⟨f.name, f.time, f.held⟩
      rw [insS_pos, List.map_append, List.map_append, List.map_take, List.map_drop, hd.sh.1]
      show _ = M.S.take (posL (M.S.map fun s : Sn => s.name) f.name) ++ _ ++ M.S.drop (posL (M.S.map fun s : Sn => s.name) f.name)
      rw [hpos]; rfl
    · rw [List.append_assoc] at hp
      rcases List.mem_append.1 hp with hp | hp
      · exact List.mem_cons_of_mem _ (hd.sh.2 p (List.mem_of_mem_take hp))
      · rcases List.mem_append.1 hp with hp | hp
        · simp only [List.mem_singleton] at hp
          subst hp; exact List.mem_cons_self
        · exact List.mem_cons_of_mem _ (hd.sh.2 p (List.mem_of_mem_drop hp))
  rw [if_neg h5] at fin
  by_cases h6 : f.k = 6
  · rw [if_pos h6] at fin
    have hsn : f.name ∈ M.S.map fun s : Sn => s.name := by
      have := ok.k6 h6
      rw [sof_isSome hw] at this
      exact of_decide_eq_true this
    have hdel := delS_pos hw.ss hsn
    have hpl := (List.getElem?_eq_some_iff.1 (pos_mem hss hsn)).1
    rw [List.length_map] at hpl
    (repeat first | refine gS ?_ | refine gA fun _ => ?_ | refine gX fun _ _ => ?_ | refine gT ?_ | refine gF ?_ | refine gI ?_)
    refine shotD hd hw ?_
    (repeat first | refine gS ?_ | refine gA fun _ => ?_ | refine gX fun _ _ => ?_ | refine gT ?_ | refine gF ?_ | refine gI ?_)
    generalize hpos : posL (M.S.map fun s : Sn => s.name) f.name = i at hpl hdel ⊢
    refine E_slcS2 (v := sv.1) (l := LS) (i := 0) (j := i) (by simp [S.bound]) rfl (by omega) (by omega) fun v1 _ _ => ?_
    (repeat first | refine gS ?_ | refine gA fun _ => ?_ | refine gX fun _ _ => ?_ | refine gT ?_ | refine gF ?_ | refine gI ?_)
    rw [show (i : Int) + 1 = ((i + 1 : Nat) : Int) by omega]
    refine E_slcS2 (v := sv.1) (l := LS) (i := i + 1) (j := LS.length) rfl (bound_nat (i + 1) 0) (by omega) (Nat.le_refl _) fun v4 _ _ => ?_
    refine E_bsl0 u_shotL elt_shot fun b0 => ?_
    refine E_slsC (enc := shC) [] 0 rfl rfl ?_
    (repeat (refine E_rck1 (by first | exact E_ld (E_fact rfl) | exact E_ld' (by assumption) (E_fact rfl) | exact E_b2sR (E_fact rfl) | exact E_gdnF (by assumption) (E_ld (E_fact rfl)) | exact E_gdT (by assumption) (E_ld (E_fact rfl)) | exact E_gtf (E_ld (E_fact rfl)) | exact E_gft (E_ld (E_fact rfl)) | exact E_ldNA (E_fact rfl) | exact E_ptld (E_fact rfl) | exact E_gtf (E_ldNA (E_fact rfl))) ?_)); (first | (refine E_rck0 ?_) | skip)
    refine E_sapps (enc := shC) (l := []) (m := (LS.drop 0).take (i - 0)) u_shotL elt_shot (by simp; omega) (by simp; omega) fun v2 _ => ?_
    (repeat (refine E_rck1 (by first | exact E_ld (E_fact rfl) | exact E_ld' (by assumption) (E_fact rfl) | exact E_b2sR (E_fact rfl) | exact E_gdnF (by assumption) (E_ld (E_fact rfl)) | exact E_gdT (by assumption) (E_ld (E_fact rfl)) | exact E_gtf (E_ld (E_fact rfl)) | exact E_gft (E_ld (E_fact rfl)) | exact E_ldNA (E_fact rfl) | exact E_ptld (E_fact rfl) | exact E_gtf (E_ldNA (E_fact rfl))) ?_)); (first | (refine E_rck0 ?_) | skip)
    refine E_sapps (enc := shC) (m := (LS.drop (i + 1)).take (LS.length - (i + 1))) u_shotL elt_shot (by simp; omega) (by simp; omega) fun v5 hv5 => ?_
    have e : [] ++ (LS.drop 0).take (i - 0) ++ (LS.drop (i + 1)).take (LS.length - (i + 1)) = LS.take i ++ LS.drop (i + 1) := by
      rw [List.nil_append, List.drop_zero, Nat.sub_zero, List.take_of_length_le (l := LS.drop (i + 1)) (by simp)]
    rw [e]
    (repeat first | refine gS ?_ | refine gA fun _ => ?_ | refine gX fun _ _ => ?_ | refine gT ?_ | refine gF ?_ | refine gI ?_)
    refine fd (a := spool shC Ps) ?_
    refine fd (a := sls shC 90 3 v5 (LS.take i ++ LS.drop (i + 1))) ?_
    refine E_give ?_
    refine sm (G := cel true a 88 [fv.1, v5, I M.now] :: spool fC Pf :: spool vC Lv :: spool rfC Lr :: spool shC ((v5, LS.take i ++ LS.drop (i + 1)) :: Ps) :: spool hC Lh :: cel true b3 60 (faL f rv hv mv) :: H) ?_
    have hd' : DOk ⟨fv, ⟨v5, hv5.pf⟩, L, LS.take i ++ LS.drop (i + 1), Pf, Lv, Lr, (v5, LS.take i ++ LS.drop (i + 1)) :: Ps, Lh⟩ { M with S := M.S.filter fun s => decide (s.name ≠ f.name) } := ⟨hd.f, hd.fs, by simp, by
        show _ = M.S.filter fun s => decide (s.name ≠ f.name)
        rw [hdel, List.map_append, List.map_take, List.map_drop, hd.sh.1], fun p hp => by
        rcases List.mem_append.1 hp with hp | hp
        · exact hd.sh.2 p (List.mem_of_mem_take hp)
        · exact hd.sh.2 p (List.mem_of_mem_drop hp)⟩
    refine sweepD (M := { M with S := M.S.filter fun s => decide (s.name ≠ f.name) }) (sv := ⟨v5, hv5.pf⟩) hd' hw.v.n (by simp only; omega) (fun k => by have := hfl k; simp only; omega) (by simp only; exact Nat.le_trans (List.length_filter_le _ _) (by omega)) (fun s hs => Nat.le_trans (hw.hh s (List.mem_filter.1 hs).1) (by decide)) fun fv' L' Pf' Lv' hd'' => ?_
    exact E_dbkS (fv := fv') (sv := ⟨v5, hv5.pf⟩) hd'' rfl (fin _ rfl)
  rw [if_neg h6] at fin
  by_cases h9' : f.k = 9
  · rw [if_neg (by omega), if_pos h9'] at fin
    have hru := h9 h9'
    simp only [ruleB, Bool.and_eq_true, decide_eq_true_eq, numB_iff] at hru
    have hkeep : keepOk f = true := decide_eq_true (by omega)
    (repeat first | refine gS ?_ | refine gA fun _ => ?_ | refine gX fun _ _ => ?_ | refine gT ?_ | refine gF ?_ | refine gI ?_)
    refine gY ?_
    refine expireD (f := f) hd hw (by omega) fun v _ => ?_
    rw [if_pos hkeep, if_pos hkeep]
    (repeat first | refine gS ?_ | refine gA fun _ => ?_)
    have hxn : ∀ x ∈ expireL M f, x.1.length ≤ 1000 := fun x hx => by
      obtain ⟨k, hk, hxk⟩ := List.mem_flatMap.1 hx
      obtain ⟨j, _, hj⟩ := List.mem_filterMap.1 hxk
      obtain ⟨w, hw1, hw2⟩ := nms_mem.1 hk
      have hok := hw.nm w hw1
      have : x.1 = k := by
        split at hj
        · cases hj
        · split at hj
          · cases hj
          · cases hj; rfl
      rw [this, ← hw2]
      simp only [nameOk, decide_eq_true_eq] at hok
      omega
    have hrec' := hrec h9'
    have hLl := expireL_len hw f
    generalize hL : expireL M f = L0 at fin hxn hLl ⊢
    refine sm (G := cel true a 88 [fv.1, sv.1, I M.now] :: spool fC Pf :: spool vC Lv :: spool rfC Lr :: spool shC Ps :: spool hC Lh :: sls hC 53 2 v L0 :: cel true b3 60 (faL f rv hv mv) :: H) ?_
    refine E_dbkS hd rfl ?_
    refine E_loop (n := 3) (σ := Nat) (fun i => i ≤ L0.length) (fun i => [ptr a, v, I i])
      (fun i => dbk a ((L0.take i).foldl stepD M) :: sls hC 53 2 v L0 :: cel true b3 60 (faL f rv hv mv) :: H) (fun i => L0.length - i) 0 (fun _ => rfl) rfl (Nat.zero_le _) (fun W hW => by
        rw [List.take_zero, List.foldl_nil] at hW
        exact sm hW) ?_
    rintro i K0 hi hk0
    refine E_fa fun _ => ?_
    refine E_rslen (v := v) (l := L0) ?_
    refine E_lss ?_
    refine E_if (fun hc1 => ?_) (fun hc1 => ?_)
    · have hx : L0[i]? = some L0[i] := List.getElem?_eq_getElem (by omega)
      have hxm := List.mem_of_getElem? hx
      generalize L0[i] = x at hx hxm
      (repeat first | refine gS ?_ | refine gA fun _ => ?_ | refine gX fun _ _ => ?_ | refine gT ?_ | refine gF ?_ | refine gI ?_)
      refine E_build (l := faL (dropF x) nil nil nil) str_fact ?_
      refine hrec' _ x _ _ (hw.fold _) (hxn x hxm) fun e => ?_
      refine E_addI (by omega) (by omega) ?_
      have hk1 := hk0 (i + 1) (by omega) (by omega)
      rw [List.take_add_one, hx, List.foldl_append, Option.toList_some, List.foldl_cons, List.foldl_nil] at hk1
      exact sm hk1
    · have hie : i = L0.length := by omega
      subst hie
      rw [List.take_length]
      exact sm (fin _ rfl)
  by_cases h7 : f.k = 7
  · rw [if_pos h7] at fin
    have hm4 : ∀ G, Rs B (G ++ (cel true b3 60 (faL f rv hv mv) :: H)) mv mvC f.moves := fun G => rs_midA G [cel true b3 60 (faL f rv hv mv)] hr3
    (repeat first | refine gS ?_ | refine gA fun _ => ?_ | refine gX fun _ _ => ?_ | refine gT ?_ | refine gF ?_ | refine gI ?_)
    refine E_dbkS hd rfl ?_
    clear hd rf rs hlen hL hlS
    refine E_loop (n := 3) (σ := Nat) (fun i => i ≤ (nms M.V).length) (fun i => [ptr a, ptr b3, I i])
      (fun i => dbk a { M with V := mvS f.moves ((nms M.V).take i) M.V } :: cel true b3 60 (faL f rv hv mv) :: H) (fun i => (nms M.V).length - i) 0 (fun _ => rfl) rfl (Nat.zero_le _) (fun W hW => by
        simp only [List.take_zero, mvS_nil] at hW
        exact sm hW) ?_
    rintro i K0 hi hk0
    refine E_fa fun _ => ?_
    refine E_dbk fun fv sv L LS Pf Lv Lr Ps Lh hd => ?_
    have hnmi : ∀ ns, nms (mvS f.moves ns M.V) = nms M.V := fun ns => nms_map fun v => by split <;> rfl
    have hlen : L.length = (nms M.V).length := by rw [hd.len]; show (nms (mvS f.moves ((nms M.V).take i) M.V)).length = _; rw [hnmi]
    have rf : ∀ H, Rs B (spool fC Pf :: H) fv.1 fC L := rs_pool hd.f
    (repeat first | refine gS ?_ | refine gA fun _ => ?_ | refine gX fun _ _ => ?_ | refine gT ?_ | refine gF ?_ | refine gI ?_)
    refine E_if (fun hc1 => ?_) (fun hc1 => ?_)
    · have hx : (nms M.V)[i]? = some (nms M.V)[i] := List.getElem?_eq_getElem (by omega)
      have hnk : (nms M.V)[i] ∉ (nms M.V).take i := fun hmem => by
        obtain ⟨j, hj, e⟩ := List.mem_take_iff_getElem.1 hmem
        have := List.pairwise_iff_getElem.1 hns j i (by omega) (by omega) (by omega)
        exact slt_ne this e
      generalize (nms M.V)[i] = k at hx hnk
      have hpi := posL_at hns hx
      have hkm := List.mem_of_getElem? hx
      obtain ⟨c, l, hx', hl⟩ := hd.get (k := k) (i := i) (by show (nms (mvS f.moves ((nms M.V).take i) M.V))[i]? = _; rw [hnmi]; exact hx)
      have hfk : fof (mvS f.moves ((nms M.V).take i) M.V) k = fof M.V k := by rw [fof_mvS, if_neg hnk]
      have hle := hl.e
      simp only [hfk] at hle
      have rl := rs_pool (B := B) (enc := vC) hl.m
      have hll : l.length = (fof M.V k).length := by rw [← hle, List.length_map]
      have hlf := hfl k
      have hlr := hl.r
      refine E_bsl0 u_vers elt_ver fun b0 => ?_
      refine E_slsC (enc := vC) [] 0 rfl rfl ?_
      refine E_loop (n := 5) (σ := Nat × Cv × List VR × List (Value × List Rf)) (fun s => s.1 ≤ l.length ∧ s.2.2.1.map (·.1) = (l.take s.1).map (fun p => moveV f.moves p.1) ∧ (∀ p ∈ s.2.2.1, (p.2.1, p.1.refs) ∈ s.2.2.2) ∧ (∀ p ∈ Lr, p ∈ s.2.2.2))
        (fun s => [ptr a, ptr b3, I i, s.2.1.1, I s.1]) (fun s => cel true a 88 [fv.1, sv.1, I M.now] :: spool fC Pf :: spool vC Lv :: spool rfC s.2.2.2 :: spool shC Ps :: spool hC Lh :: sls vC 31 4 s.2.1.1 s.2.2.1 :: cel true b3 60 (faL f rv hv mv) :: H) (fun s => l.length - s.1) (0, ⟨.slice (some ⟨b0, 0, none⟩) 0 0, rfl⟩, [], Lr) (fun _ => rfl) rfl ⟨Nat.zero_le _, rfl, by simp, fun p hp => hp⟩ (fun W hW => sm hW) ?_
      rintro ⟨j, cv, cl, Qr⟩ K1 ⟨hj, hcl, hcr, hQ⟩ hk1
      simp only at hj hcl hcr hQ hk1 ⊢
      have hcll : cl.length = j := by have := congrArg List.length hcl; simp at this; omega
      refine E_fa fun _ => ?_
      (repeat first | refine gS ?_ | refine gA fun _ => ?_ | refine gX fun _ _ => ?_ | refine gT ?_ | refine gF ?_ | refine gI ?_)
      refine E_if (fun hc2 => ?_) (fun hc2 => ?_)
      · have hy : l[j]? = some l[j] := List.getElem?_eq_getElem (by omega)
        have hym := hlr _ (List.mem_of_getElem? hy)
        have hyV : (l[j]).1 ∈ M.V := (fof_mem.1 (hle ▸ List.mem_map_of_mem (List.getElem_mem _))).1
        generalize l[j] = x at hy hym hyV
        have hrx := hw.r _ hyV
        have rp := rs_pool (B := B) (enc := rfC) (hQ _ hym)
        (repeat first | refine gS ?_ | refine gA fun _ => ?_ | refine gX fun _ _ => ?_ | refine gT ?_ | refine gF ?_ | refine gI ?_)
        rename_i b23
        refine E_stW (vs := [I x.1.gen, I x.1.time, x.2.1, .bool x.1.gone]) rfl rfl ?_
        (repeat first | refine gS ?_ | refine gA fun _ => ?_ | refine gX fun _ _ => ?_ | refine gT ?_ | refine gF ?_ | refine gI ?_)
        refine moveRD (l := x.1.refs) (ms := f.moves) (fun G => rs_app G inferInstance) (fun G => ?_) (by omega) (by omega) fun v' n hv' => ?_
        · exact rs_midA G [_, _, _, _, _, _, _, _] hm4
        (repeat first | refine gS ?_ | refine gA fun _ => ?_ | refine gX fun _ _ => ?_ | refine gT ?_ | refine gF ?_ | refine gI ?_)
        refine fd (a := sls vC 31 4 cv.1 cl) ?_
        refine E_sapp1 (enc := vC) ((moveV f.moves x.1, ⟨v', hv'.pf⟩) : VR) u_vers elt_ver rfl (by decide) (by omega) (by omega) fun v3 hv3 => ?_
        refine fd (a := spool rfC Qr) ?_
        refine fd (a := sls rfC 38 35 v' (x.1.refs.map (moveR f.moves))) ?_
        refine E_give ?_
        refine E_addI (by omega) (by omega) ?_
        refine sm (hk1 (j + 1, ⟨v3, hv3.pf⟩, cl ++ [((moveV f.moves x.1, ⟨v', hv'.pf⟩) : VR)], (v', x.1.refs.map (moveR f.moves)) :: Qr) ⟨by simp only; omega, ?_, fun p hp => ?_, fun p hp => List.mem_cons_of_mem _ (hQ p hp)⟩ (by simp only; omega))
        · simp only
          rw [List.map_append, hcl, List.take_add_one, hy, List.map_append]; rfl
        · rcases List.mem_append.1 hp with hp | hp
          · exact List.mem_cons_of_mem _ (hcr p hp)
          · simp only [List.mem_singleton] at hp
            subst hp; exact List.mem_cons_self
      · have hje : j = l.length := by omega
        rw [hje, List.take_length] at hcl
        refine E_addI (by omega) (by omega) ?_
        (repeat first | refine gS ?_ | refine gA fun _ => ?_ | refine gX fun _ _ => ?_ | refine gT ?_ | refine gF ?_ | refine gI ?_)
        refine E_build (l := [str k, cv.1]) str_file ?_
        refine E_bsl [(0, 2)] u_fileL elt_file (by simp) (by decide) (l0 := [.string ⟨#[]⟩, nil]) rfl fun bx => ?_
        refine E_slsC (enc := fC) [((k, cv) : FC)] 1 rfl rfl ?_
        rw [show (i : Int) + 1 = ((i + 1 : Nat) : Int) by omega]
        refine sm (G := cel true a 88 [fv.1, sv.1, I M.now] :: spool fC Pf :: spool vC Lv :: spool rfC Qr :: spool shC Ps :: spool hC Lh :: sls fC 86 2 (.slice (some ⟨bx, 0, none⟩) 1 1) [((k, cv) : FC)] :: sls vC 31 4 cv.1 cl :: cel true b3 60 (faL f rv hv mv) :: H) ?_
        refine withD (L := L) (ms := [((k, cv) : FC)]) hd.f (by omega) (by omega) (by omega) (by simp) (fun G => rs_app G inferInstance) fun v' hv' => ?_
        refine E_addI (by omega) (by omega) ?_
        refine fd (a := spool vC Lv) ?_
        refine fd (a := sls vC 31 4 cv.1 cl) ?_
        refine E_give ?_
        have htk : (nms M.V).take (i + 1) = (nms M.V).take i ++ [k] := by rw [List.take_add_one, hx]; rfl
        have hv'' : cl.map (·.1) = fof (mvS f.moves ((nms M.V).take (i + 1)) M.V) k := by
          rw [fof_mvS, if_pos (by rw [htk]; simp), ← hle, hcl, List.map_map]; rfl
        have hfs := hd.fs.put (k := k) (V' := mvS f.moves ((nms M.V).take (i + 1)) M.V) (Lv' := (cv.1, cl) :: Lv) (Lr' := Qr) (c := cv) (by
          show SrtN (mvS f.moves ((nms M.V).take i) M.V)
          exact (srtG_map hw.v fun v => by split <;> exact ⟨rfl, rfl⟩).n) (by show k ∈ nms (mvS f.moves ((nms M.V).take i) M.V); rw [hnmi]; exact hkm) (by rw [hnmi]; exact (hnmi _).symm) (fun k' hk' => by
          show _ = fof (mvS f.moves ((nms M.V).take i) M.V) k'
          rw [fof_mvS, fof_mvS, htk]; simp [hk']) ⟨by simp, hv'', hcr⟩ (fun _ h => List.mem_cons_of_mem _ h) hQ
        have hpi' : posL (nms (mvS f.moves ((nms M.V).take i) M.V)) k = i := by rw [hnmi]; exact hpi
        simp only [hpi'] at hfs
        refine sm (G := cel true a 88 [v', sv.1, I M.now] :: spool fC ((v', L.take i ++ [((k, cv) : FC)] ++ L.drop (i + 1)) :: Pf) :: spool vC ((cv.1, cl) :: Lv) :: spool rfC Qr :: spool shC Ps :: spool hC Lh :: cel true b3 60 (faL f rv hv mv) :: H) ?_
        refine E_dbkS (M := { M with V := mvS f.moves ((nms M.V).take (i + 1)) M.V }) (fv := ⟨v', hv'.pf⟩) (L := L.take i ++ [((k, cv) : FC)] ++ L.drop (i + 1)) ⟨by simp, hfs, hd.s, hd.sh⟩ rfl ?_
        exact hk0 (i + 1) (by omega) (by omega)
    · have hie : i = (nms M.V).length := by omega
      subst hie
      refine E_dbkS hd rfl ?_
      rw [List.take_length, mvS_all _ _ hw.v.n]
      exact fin _ rfl
  rw [if_neg h7, if_neg h9'] at fin
  (repeat first | refine gS ?_ | refine gA fun _ => ?_ | refine gX fun _ _ => ?_ | refine gT ?_ | refine gF ?_ | refine gI ?_)
  exact E_dbkS hd rfl (sm (fin _ rfl))
theorem applyD [CellI rv] [CellI hv] [CellI mv] [hr1 : Rs B H rv rfC f.refs] [hr2 : Rs B H hv hC f.held] [hr3 : ∀ G, Rs B (G ++ H) mv mvC f.moves] (ho : FaOk f) (hw : Inv M)
    (h : E B (dbk a (stepM M f) :: H) (K (I (checkB M f)))) : E B (dbk a M :: H) (CF Tryz.prog 34 [ptr a, .agg (faL f rv hv mv).toArray] K) := by
  have rn : ∀ {α : Type} {enc : α → List Value} (H' : List Asrt), Rs B H' nil enc [] := fun H' => ⟨fun _ => .inl ⟨rfl, rfl, rfl⟩⟩
  refine applyD0 ho hw (fun _ M' x H' K' hw' hx hk => ?_) h
  have i1 : Rs B H' nil rfC (dropF x).refs := rn (enc := rfC) H'
  have i2 : Rs B H' nil hC (dropF x).held := rn (enc := hC) H'
  have i3 : ∀ G, Rs B (G ++ H') nil mvC (dropF x).moves := fun G => rn (enc := mvC) _
  refine applyD0 (f := dropF x) (hr1 := i1) (hr2 := i2) (hr3 := i3) ⟨by show x.1.length ≤ _; omega, Nat.zero_le _, Nat.zero_le _, Nat.zero_le _, fun h hh => by cases hh⟩ hw' (fun e => by cases e) ?_
  rw [stepD_eq]
  exact hk _
end Go.Proofs.YtjafpncngmbcdaaGreat.Nam
end
section
namespace Go.Proofs.YtjafpncngmbcdaaGreat.Nam
open Go Go.SL Go.Proofs Go.Proofs.YtjafpncngmbcdaaGreat.Sh
variable {B : World} {H : List Asrt} {K : Value → WT} {W : WT} {a b : Nat} {M : Bk} {f : Fa}
variable {fv sv : Cv} {L : List FC} {LS : List SC} {Pf : List (Value × List FC)} {Lv : List (Value × List VR)} {Lr : List (Value × List Rf)} {Ps : List (Value × List SC)} {Lh : List (Value × List (List UInt8 × Int))}
theorem eq_ref (r : Rf) (w : World) : (Op.equal 38 (.agg (rfC r).toArray) (.agg (rfC r).toArray)).run Tryz.prog w = .ok true w := by
  have hc := (eqV_int (P := Tryz.prog) (a := r.len) (b := r.len) u_int).1
  have h := eqg_struct (P := Tryz.prog) (n := 2) (t := 38) (xs := rfC r) (ys := rfC r) (bs := [decide (r.sum.1 = r.sum.1), decide (r.len = r.len), decide (r.bin = r.bin), decide (r.slot = r.slot)]) [(36, 0), (3, 32), (3, 33), (3, 34)] (by kernel_rfl) (by kernel_rfl) (by kernel_rfl) rfl (fun i t o b'' h1 h2 => by
    match i, h1, h2 with
    | 0, h1, h2 =>
      cases h1; cases h2
      have hb : ((rfC r).drop 0).take 32 = bcs r.sum.1 := by
        rw [List.drop_zero]; unfold rfC
        rw [List.take_left' (by simp [r.sum.2])]
      exact ⟨_, _, partG_agg (n := 32) (by kernel_rfl) (by kernel_rfl) hb, partG_agg (n := 32) (by kernel_rfl) (by kernel_rfl) hb, eqg_bytes (n := 32) (e := 5) (by kernel_rfl) u_byte (fun w => by kernel_rfl) r.sum.2 r.sum.2⟩
    | 1, h1, h2 => cases h1; cases h2; exact ⟨_, _, partG_cell hc (by rw [List.getElem?_toArray]; exact rfC_at r 0), partG_cell hc (by rw [List.getElem?_toArray]; exact rfC_at r 0), (eqV_int u_int).g.up (by decide)⟩
    | 2, h1, h2 => cases h1; cases h2; exact ⟨_, _, partG_cell hc (by rw [List.getElem?_toArray]; exact rfC_at r 1), partG_cell hc (by rw [List.getElem?_toArray]; exact rfC_at r 1), (eqV_int u_int).g.up (by decide)⟩
    | 3, h1, h2 => cases h1; cases h2; exact ⟨_, _, partG_cell hc (by rw [List.getElem?_toArray]; exact rfC_at r 2), partG_cell hc (by rw [List.getElem?_toArray]; exact rfC_at r 2), (eqV_int u_int).g.up (by decide)⟩
    | n + 4, h1, h2 => simp at h1)
  have := h.equal (by decide) w
  simpa using this
attribute [local irreducible] S.pick S.ld S.ldN S.st S.box S.nc S.fad S.ixS S.ixA S.chr S.prt S.ext S.bin S.sh S.sbin S.beq S.neg1 S.com1 S.not1 S.cvt S.str1 S.lenS S.len S.cap S.lenM S.mx S.mn S.mkM S.cond S.gd S.fa S.dr S.rck S.join S.loop S.cvv S.eqv S.slc S.slcS S.b2s S.lk V U CF Gives E cel mpb osl ros dct dit itr lpo dfo
set_option maxRecDepth 8000
attribute [local irreducible] bk dbk
theorem sameRefs {x y : Value} {l : List Rf} [hx : Rs B H x rfC l] [hy : Rs B H y rfC l] (hn : l.length ≤ 1000000) (h : E B H (K (.bool true))) : E B H (CF Tryz.prog 25 [x, y] K) := by
  refine E_mono (W := s25 _ _ K) ?_ fun _ => c25
  unfold s25
  refine E_rslen (v := x) (l := l) ?_
  refine E_rslen (v := y) (l := l) ?_
  refine E_neq ?_
  refine E_ifF (by simp) ?_
  refine E_loop (n := 3) (σ := Nat) (fun i => i ≤ l.length) (fun i => [x, y, I i]) (fun _ => H) (fun i => l.length - i) 0 (fun _ => rfl) rfl (Nat.zero_le _) (fun W hW => hW) ?_
  rintro i K0 hi hk0
  refine E_fa fun _ => ?_
  refine E_rslen (v := x) (l := l) ?_
  refine E_lss ?_
  refine E_if (fun hc => ?_) (fun hc => ?_)
  · have hz : l[i]? = some l[i] := List.getElem?_eq_getElem (by omega)
    generalize l[i] = z at hz
    refine E_dr ?_
    refine E_rsix (v := x) (l := l) hz fun _ _ => ?_
    refine E_ptldA ?_
    refine E_rsix (v := y) (l := l) hz fun _ _ => ?_
    refine E_ptldA ?_
    refine E_ane (b := true) (by kernel_rfl) (fun w => eq_ref z w) ?_
    refine E_ff ?_
    refine E_addI (by omega) (by omega) ?_
    exact hk0 (i + 1) (by omega) (by omega)
  · exact h
theorem sameHeld {x y : Value} {l : List (List UInt8 × Int)} [hx : Rs B H x hC l] [hy : Rs B H y hC l] (hn : l.length ≤ 1000000) (h : E B H (K (.bool true))) : E B H (CF Tryz.prog 20 [x, y] K) := by
  refine E_mono (W := s20 _ _ K) ?_ fun _ => c20
  unfold s20
  refine E_rslen (v := x) (l := l) ?_
  refine E_rslen (v := y) (l := l) ?_
  refine E_neq ?_
  refine E_ifF (by simp) ?_
  refine E_loop (n := 3) (σ := Nat) (fun i => i ≤ l.length) (fun i => [x, y, I i]) (fun _ => H) (fun i => l.length - i) 0 (fun _ => rfl) rfl (Nat.zero_le _) (fun W hW => hW) ?_
  rintro i K0 hi hk0
  refine E_fa fun _ => ?_
  refine E_rslen (v := x) (l := l) ?_
  refine E_lss ?_
  refine E_if (fun hc => ?_) (fun hc => ?_)
  · have hz : l[i]? = some l[i] := List.getElem?_eq_getElem (by omega)
    generalize l[i] = z at hz
    refine E_dr ?_
    refine E_rsix (v := x) (l := l) hz fun _ _ => ?_
    refine E_ptldA ?_
    refine E_rsix (v := y) (l := l) hz fun _ _ => ?_
    refine E_ptldA ?_
    refine E_ane (xs := (hC z).toArray) (ys := (hC z).toArray) (b := true) (by kernel_rfl) (fun w => by rw [show (true : Bool) = decide (z = z) by simp]; exact eq_held z z w) ?_
    refine E_ff ?_
    refine E_addI (by omega) (by omega) ?_
    exact hk0 (i + 1) (by omega) (by omega)
  · exact h
theorem sameVersion {g t : Int} {o : Bool} {x y : Value} {l : List Rf} [CellI x] [CellI y] (hx : ∀ G, Rs B (G ++ H) x rfC l) (hy : ∀ G, Rs B (G ++ H) y rfC l) (hn : l.length ≤ 1000000) (h : E B H (K (.bool true))) :
    E B H (CF Tryz.prog 15 [.agg #[I g, I t, x, .bool o], .agg #[I g, I t, y, .bool o]] K) := by
  refine E_mono (W := s15 _ _ K) ?_ fun _ => c15
  unfold s15
  refine E_box (vs := [I g, I t, x, .bool o]) fun b2 => ?_
  refine E_box (vs := [I g, I t, y, .bool o]) fun b3 => ?_
  have i1 : Rs B (cel true b3 31 [I g, I t, y, .bool o] :: cel true b2 31 [I g, I t, x, .bool o] :: H) x rfC l := hx [_, _]
  have i2 : Rs B (cel true b3 31 [I g, I t, y, .bool o] :: cel true b2 31 [I g, I t, x, .bool o] :: H) y rfC l := hy [_, _]
  (repeat first | refine gS ?_ | refine gA fun _ => ?_ | refine gX fun _ _ => ?_ | refine gT ?_ | refine gF ?_ | refine gI ?_)
  rw [decide_eq_true (rfl : g = g)]
  (repeat first | refine gS ?_ | refine gA fun _ => ?_ | refine gX fun _ _ => ?_ | refine gT ?_ | refine gF ?_ | refine gI ?_)
  rw [decide_eq_true (rfl : t = t)]
  (repeat first | refine gS ?_ | refine gA fun _ => ?_ | refine gX fun _ _ => ?_ | refine gT ?_ | refine gF ?_ | refine gI ?_)
  refine gY ?_
  rw [beq_self_eq_true]
  (repeat first | refine gS ?_ | refine gA fun _ => ?_ | refine gX fun _ _ => ?_ | refine gT ?_ | refine gF ?_ | refine gI ?_)
  refine sameRefs (l := l) hn ?_
  (repeat first | refine gS ?_ | refine gA fun _ => ?_ | refine gX fun _ _ => ?_ | refine gT ?_ | refine gF ?_ | refine gI ?_)
  exact sm h
end Go.Proofs.YtjafpncngmbcdaaGreat.Nam
end
section
namespace Go.Proofs.YtjafpncngmbcdaaGreat.Nam
open Go Go.SL Go.Proofs Go.Proofs.YtjafpncngmbcdaaGreat.Sh
variable {B : World} {H : List Asrt} {K : Value → WT} {W : WT} {a b : Nat} {M : Bk} {f : Fa}
variable {fv sv : Cv} {L : List FC} {LS : List SC} {Pf : List (Value × List FC)} {Lv : List (Value × List VR)} {Lr : List (Value × List Rf)} {Ps : List (Value × List SC)} {Lh : List (Value × List (List UInt8 × Int))}
def FRd (B : World) (H : List Asrt) (L : List FC) (V : List Ver) : Prop := ∀ (i : Nat) (k : List UInt8), (nms V)[i]? = some k → ∃ (c : Cv) (l : List VR), L[i]? = some (k, c) ∧ l.map (·.1) = fof V k ∧ (∀ G, Rs B (G ++ H) c.1 vC l) ∧ ∀ p ∈ l, ∀ G, Rs B (G ++ H) p.2.1 rfC p.1.refs
def SRd (B : World) (H : List Asrt) (L : List SC) (S : List Sn) : Prop := ∀ (i : Nat) (s : Sn), S[i]? = some s → ∃ (c : Cv), L[i]? = some (s, c) ∧ ∀ G, Rs B (G ++ H) c.1 hC s.held
theorem FRd_of {V : List Ver} (h : FsOk Lv Lr L V) (h1 : ∀ v l, (v, l) ∈ Lv → Rs B H v vC l) (h2 : ∀ v l, (v, l) ∈ Lr → Rs B H v rfC l) : FRd B H L V := fun i k hk => by
  rw [← h.1, List.getElem?_map] at hk
  cases hp : L[i]? with
  | none => rw [hp] at hk; cases hk
  | some p =>
    rw [hp] at hk
    obtain ⟨k', c⟩ := p
    cases hk
    obtain ⟨l, hl⟩ := h.2 _ (List.mem_of_getElem? hp)
    exact ⟨c, l, rfl, hl.e, fun G => rs_app G (h1 _ _ hl.m), fun p hp G => rs_app G (h2 _ _ (hl.r p hp))⟩
theorem SRd_of {S : List Sn} (h : ShOk Lh LS S) (h1 : ∀ v l, (v, l) ∈ Lh → Rs B H v hC l) : SRd B H LS S := fun i s hs => by
  rw [← h.1, List.getElem?_map] at hs
  cases hp : LS[i]? with
  | none => rw [hp] at hs; cases hs
  | some p =>
    rw [hp] at hs
    obtain ⟨s', c⟩ := p
    cases hs
    exact ⟨c, rfl, fun G => rs_app G (h1 _ _ (h.2 _ (List.mem_of_getElem? hp)))⟩
attribute [local irreducible] S.pick S.ld S.ldN S.st S.box S.nc S.fad S.ixS S.ixA S.chr S.prt S.ext S.bin S.sh S.sbin S.beq S.neg1 S.com1 S.not1 S.cvt S.str1 S.lenS S.len S.cap S.lenM S.mx S.mn S.mkM S.cond S.gd S.fa S.dr S.rck S.join S.loop S.cvv S.eqv S.slc S.slcS S.b2s S.lk V U CF Gives E cel mpb osl ros dct dit itr lpo dfo
set_option maxRecDepth 8000
attribute [local irreducible] bk dbk
theorem sameFiles {x y : Value} {L1 L2 : List FC} {V : List Ver} [hx : Rs B H x fC L1] [hy : Rs B H y fC L2] (h1 : FRd B H L1 V) (h2 : FRd B H L2 V) (l1 : L1.length = (nms V).length) (l2 : L2.length = (nms V).length) (hn : (nms V).length ≤ 1000) (hfl : ∀ k, (fof V k).length ≤ 1000) (hr : ∀ v ∈ V, v.refs.length ≤ 1000)
    (h : E B H (K (.bool true))) : E B H (CF Tryz.prog 55 [x, y] K) := by
  refine E_mono (W := s55 _ _ K) ?_ fun _ => c55
  unfold s55
  refine E_rslen (v := x) (l := L1) ?_
  refine E_rslen (v := y) (l := L2) ?_
  refine E_neq ?_
  refine E_ifF (by omega) ?_
  refine E_loop (n := 3) (σ := Nat) (fun i => i ≤ L1.length) (fun i => [x, y, I i]) (fun _ => H) (fun i => L1.length - i) 0 (fun _ => rfl) rfl (Nat.zero_le _) (fun W hW => hW) ?_
  rintro i K0 hi hk0
  refine E_fa fun _ => ?_
  refine E_rslen (v := x) (l := L1) ?_
  refine E_lss ?_
  refine E_if (fun hc => ?_) (fun hc => ?_)
  · have hz : (nms V)[i]? = some (nms V)[i] := List.getElem?_eq_getElem (by omega)
    generalize (nms V)[i] = k at hz
    obtain ⟨c1, m1, e1, f1, r1, q1⟩ := h1 i k hz
    obtain ⟨c2, m2, e2, f2, r2, q2⟩ := h2 i k hz
    have hfk := hfl k
    have n1 : m1.length = (fof V k).length := by rw [← f1, List.length_map]
    have n2 : m2.length = (fof V k).length := by rw [← f2, List.length_map]
    have i1 : Rs B H c1.1 vC m1 := r1 []
    have i2 : Rs B H c2.1 vC m2 := r2 []
    refine E_join1 [x, y, I i, .bool false] H (fun q hq => ?_) ?_
    · refine E_dr ?_
      refine E_rsix (v := x) (l := L1) e1 fun _ _ => ?_
      refine E_ptfad0 fun _ _ => ?_
      refine E_ptld (u := str k) ?_
      refine E_rsix (v := y) (l := L2) e2 fun _ _ => ?_
      refine E_ptfad0 fun _ _ => ?_
      refine E_ptld (u := str k) ?_
      refine E_strne ?_
      rw [decide_eq_false (by simp : ¬ k ≠ k)]
      refine E_gft ?_
      refine E_gft ?_
      refine E_gft ?_
      refine E_rsix (v := x) (l := L1) e1 fun _ _ => ?_
      refine E_gft ?_
      refine E_ptfad0 fun _ _ => ?_
      refine E_gft ?_
      refine E_ptld (u := c1.1) ?_
      refine E_gft ?_
      refine E_rslen (v := c1.1) (l := m1) ?_
      refine E_gft ?_
      refine E_gft ?_
      refine E_gft ?_
      refine E_rsix (v := y) (l := L2) e2 fun _ _ => ?_
      refine E_gft ?_
      refine E_ptfad0 fun _ _ => ?_
      refine E_gft ?_
      refine E_ptld (u := c2.1) ?_
      refine E_gft ?_
      refine E_rslen (v := c2.1) (l := m2) ?_
      refine E_gft ?_
      refine E_neq ?_
      rw [decide_eq_false (by omega : ¬ (m1.length : Int) ≠ m2.length)]
      (repeat first | refine gS ?_ | refine gA fun _ => ?_ | refine gX fun _ _ => ?_ | refine gT ?_ | refine gF ?_ | refine gI ?_)
      exact hq
    · refine E_fa fun _ => ?_
      refine E_ff ?_
      refine E_loop (n := 4) (σ := Nat) (fun j => j ≤ m1.length) (fun j => [x, y, I i, I j]) (fun _ => H) (fun j => m1.length - j) 0 (fun _ => rfl) rfl (Nat.zero_le _) (fun W hW => hW) ?_
      rintro j K1 hj hk1
      refine E_fa fun _ => ?_
      refine E_rsix (v := x) (l := L1) e1 fun _ _ => ?_
      refine E_ptfad0 fun _ _ => ?_
      refine E_ptld (u := c1.1) ?_
      refine E_rslen (v := c1.1) (l := m1) ?_
      refine E_lss ?_
      refine E_if (fun hc2 => ?_) (fun hc2 => ?_)
      · have hu : m1[j]? = some m1[j] := List.getElem?_eq_getElem (by omega)
        have hw : m2[j]? = some m2[j] := List.getElem?_eq_getElem (by omega)
        have huw : (m1[j]).1 = (m2[j]).1 := by
          have g1 : (m1.map (·.1))[j]? = some (m1[j]).1 := by rw [List.getElem?_map, hu]; rfl
          have g2 : (m2.map (·.1))[j]? = some (m2[j]).1 := by rw [List.getElem?_map, hw]; rfl
          rw [f1] at g1; rw [f2] at g2
          rw [g1] at g2; exact Option.some.inj g2
        have hV : (m1[j]).1 ∈ V := (fof_mem.1 (f1 ▸ List.mem_map_of_mem (List.getElem_mem _))).1
        generalize m1[j] = u at hu huw hV
        generalize m2[j] = w at hw huw
        have ru := q1 u (List.mem_of_getElem? hu)
        have rw' := q2 w (List.mem_of_getElem? hw)
        have hrl := hr _ hV
        refine E_dr ?_
        refine E_rsix (v := x) (l := L1) e1 fun _ _ => ?_
        refine E_ptfad0 fun _ _ => ?_
        refine E_ptld (u := c1.1) ?_
        refine E_rsix (v := c1.1) (l := m1) hu fun _ _ => ?_
        refine E_ptldA ?_
        refine E_rsix (v := y) (l := L2) e2 fun _ _ => ?_
        refine E_ptfad0 fun _ _ => ?_
        refine E_ptld (u := c2.1) ?_
        refine E_rsix (v := c2.1) (l := m2) hw fun _ _ => ?_
        refine E_ptldA ?_
        rw [← huw] at rw'
        have ew : vC w = [I u.1.gen, I u.1.time, w.2.1, .bool u.1.gone] := by unfold vC; rw [huw]
        rw [ew]
        refine sameVersion (l := u.1.refs) ru rw' (by omega) ?_
        refine E_notb ?_
        refine E_ff ?_
        refine E_addI (by omega) (by omega) ?_
        exact hk1 (j + 1) (by omega) (by omega)
      · refine E_addI (by omega) (by omega) ?_
        exact hk0 (i + 1) (by omega) (by omega)
  · exact h
theorem sameShots {x y : Value} {L1 L2 : List SC} {S : List Sn} [hx : Rs B H x shC L1] [hy : Rs B H y shC L2] (h1 : SRd B H L1 S) (h2 : SRd B H L2 S) (l1 : L1.length = S.length) (l2 : L2.length = S.length) (hn : S.length ≤ 1000) (hh : ∀ s ∈ S, s.held.length ≤ 1000)
    (h : E B H (K (.bool true))) : E B H (CF Tryz.prog 56 [x, y] K) := by
  refine E_mono (W := s56 _ _ K) ?_ fun _ => c56
  unfold s56
  refine E_rslen (v := x) (l := L1) ?_
  refine E_rslen (v := y) (l := L2) ?_
  refine E_neq ?_
  refine E_ifF (by omega) ?_
  refine E_loop (n := 3) (σ := Nat) (fun i => i ≤ L1.length) (fun i => [x, y, I i]) (fun _ => H) (fun i => L1.length - i) 0 (fun _ => rfl) rfl (Nat.zero_le _) (fun W hW => hW) ?_
  rintro i K0 hi hk0
  refine E_fa fun _ => ?_
  refine E_rslen (v := x) (l := L1) ?_
  refine E_lss ?_
  refine E_if (fun hc => ?_) (fun hc => ?_)
  · have hz : S[i]? = some S[i] := List.getElem?_eq_getElem (by omega)
    have hzm := List.mem_of_getElem? hz
    generalize S[i] = s at hz hzm
    obtain ⟨c1, e1, r1⟩ := h1 i s hz
    obtain ⟨c2, e2, r2⟩ := h2 i s hz
    have hhs := hh s hzm
    have i1 : Rs B H c1.1 hC s.held := r1 []
    have i2 : Rs B H c2.1 hC s.held := r2 []
    refine E_join1 [x, y, I i, .bool false] H (fun q hq => ?_) ?_
    · refine E_dr ?_
      refine E_rsix (v := x) (l := L1) e1 fun _ _ => ?_
      refine E_ptfad0 fun _ _ => ?_
      refine E_ptld (u := str s.name) ?_
      refine E_rsix (v := y) (l := L2) e2 fun _ _ => ?_
      refine E_ptfad0 fun _ _ => ?_
      refine E_ptld (u := str s.name) ?_
      refine E_strne ?_
      rw [decide_eq_false (by simp : ¬ s.name ≠ s.name)]
      refine E_gft ?_
      refine E_gft ?_
      refine E_gft ?_
      refine E_rsix (v := x) (l := L1) e1 fun _ _ => ?_
      refine E_gft ?_
      refine E_ptfad0 fun _ _ => ?_
      refine E_gft ?_
      refine E_ptld (u := I s.time) ?_
      refine E_gft ?_
      refine E_gft ?_
      refine E_gft ?_
      refine E_rsix (v := y) (l := L2) e2 fun _ _ => ?_
      refine E_gft ?_
      refine E_ptfad0 fun _ _ => ?_
      refine E_gft ?_
      refine E_ptld (u := I s.time) ?_
      refine E_gft ?_
      refine E_neq ?_
      rw [decide_eq_false (by simp : ¬ s.time ≠ s.time)]
      refine gS ?_
      refine E_gft ?_
      refine E_gft ?_
      refine E_gft ?_
      refine E_rsix (v := x) (l := L1) e1 fun _ _ => ?_
      refine E_gft ?_
      refine E_ptfad0 fun _ _ => ?_
      refine E_gft ?_
      refine E_ptld (u := c1.1) ?_
      refine E_gft ?_
      refine E_gft ?_
      refine E_gft ?_
      refine E_rsix (v := y) (l := L2) e2 fun _ _ => ?_
      refine E_gft ?_
      refine E_ptfad0 fun _ _ => ?_
      refine E_gft ?_
      refine E_ptld (u := c2.1) ?_
      refine E_gft ?_
      refine sameHeld (l := s.held) (by omega) ?_
      refine E_gft ?_
      refine E_notb ?_
      (repeat first | refine gS ?_ | refine gA fun _ => ?_ | refine gX fun _ _ => ?_ | refine gT ?_ | refine gF ?_ | refine gI ?_)
      exact hq
    · refine E_fa fun _ => ?_
      refine E_ff ?_
      refine E_addI (by omega) (by omega) ?_
      exact hk0 (i + 1) (by omega) (by omega)
  · exact h
theorem newestL_len (hw : Inv M) : (newestL M).length ≤ 1000 := by
  have := hw.nl
  exact Nat.le_trans (List.length_filterMap_le _ _) (by omega)
theorem alike (hw : Inv M) (h : E B (bk a M :: dbk b M :: H) (K (.bool true))) : E B (bk a M :: dbk b M :: H) (CF Tryz.prog 21 [ptr a, ptr b] K) := by
  have hnl := hw.nl
  have h16 := hw.s16
  refine E_mono (W := s21 _ _ K) ?_ fun _ => c21
  unfold s21
  refine E_dr ?_
  refine fd (a := dbk b M) (E_dbk fun fv sv L LS Pf Lv Lr Ps Lh hd => ?_)
  have rf : ∀ H, Rs B (spool fC Pf :: H) fv.1 fC L := rs_pool hd.f
  have rs : ∀ H, Rs B (spool shC Ps :: H) sv.1 shC LS := rs_pool hd.s
  (repeat first | refine gS ?_ | refine gA fun _ => ?_)
  refine fd (a := bk a M) (files hw fun v1 L1 Lv1 Lr1 _ hf1 => ?_)
  (repeat (refine E_rck1 (by first | exact E_ld (E_fact rfl) | exact E_ld' (by assumption) (E_fact rfl) | exact E_b2sR (E_fact rfl) | exact E_gdnF (by assumption) (E_ld (E_fact rfl)) | exact E_gdT (by assumption) (E_ld (E_fact rfl)) | exact E_gtf (E_ld (E_fact rfl)) | exact E_gft (E_ld (E_fact rfl)) | exact E_ldNA (E_fact rfl) | exact E_ptld (E_fact rfl) | exact E_gtf (E_ldNA (E_fact rfl))) ?_)); (first | (refine E_rck0 ?_) | skip)
  refine sameFiles (V := M.V) (L1 := L1) (L2 := L) (FRd_of hf1 (fun v l hm => ?_) (fun v l hm => ?_)) (FRd_of hd.fs (fun v l hm => ?_) (fun v l hm => ?_)) (by rw [← hf1.1, List.length_map]) hd.len (by omega) (fun k => by have := hw.fl k; omega) (fun v hv => by have := hw.r v hv; omega) ?_
  · have := rs_pool (B := B) (enc := vC) hm; infer_instance
  · have := rs_pool (B := B) (enc := rfC) hm; infer_instance
  · have := rs_pool (B := B) (enc := vC) hm; infer_instance
  · have := rs_pool (B := B) (enc := rfC) hm; infer_instance
  (repeat first | refine gS ?_ | refine gA fun _ => ?_)
  refine fd (a := bk a M) (shots hw fun v2 L2 Lh2 _ hs2 => ?_)
  (repeat (refine E_rck1 (by first | exact E_ld (E_fact rfl) | exact E_ld' (by assumption) (E_fact rfl) | exact E_b2sR (E_fact rfl) | exact E_gdnF (by assumption) (E_ld (E_fact rfl)) | exact E_gdT (by assumption) (E_ld (E_fact rfl)) | exact E_gtf (E_ld (E_fact rfl)) | exact E_gft (E_ld (E_fact rfl)) | exact E_ldNA (E_fact rfl) | exact E_ptld (E_fact rfl) | exact E_gtf (E_ldNA (E_fact rfl))) ?_)); (first | (refine E_rck0 ?_) | skip)
  (repeat first | refine gS ?_ | refine gA fun _ => ?_)
  refine sameShots (S := M.S) (L1 := L2) (L2 := LS) (SRd_of hs2 (fun v l hm => ?_)) (SRd_of hd.sh (fun v l hm => ?_)) (by rw [← hs2.1, List.length_map]) hd.lenS (by omega) (fun s hs => by have := hw.hh s hs; omega) ?_
  · have := rs_pool (B := B) (enc := hC) hm; infer_instance
  · have := rs_pool (B := B) (enc := hC) hm; infer_instance
  (repeat first | refine gS ?_ | refine gA fun _ => ?_)
  refine fd (a := bk a M) (now ?_)
  (repeat (refine E_rck1 (by first | exact E_ld (E_fact rfl) | exact E_ld' (by assumption) (E_fact rfl) | exact E_b2sR (E_fact rfl) | exact E_gdnF (by assumption) (E_ld (E_fact rfl)) | exact E_gdT (by assumption) (E_ld (E_fact rfl)) | exact E_gtf (E_ld (E_fact rfl)) | exact E_gft (E_ld (E_fact rfl)) | exact E_ldNA (E_fact rfl) | exact E_ptld (E_fact rfl) | exact E_gtf (E_ldNA (E_fact rfl))) ?_)); (first | (refine E_rck0 ?_) | skip)
  (repeat first | refine gS ?_ | refine gA fun _ => ?_)
  rw [decide_eq_true (rfl : M.now = M.now)]
  (repeat first | refine gS ?_ | refine gA fun _ => ?_)
  refine newestAll hw fun v3 _ => ?_
  (repeat first | refine gS ?_ | refine gA fun _ => ?_)
  refine sm (G := cel true b 88 [fv.1, sv.1, I M.now] :: spool fC Pf :: spool vC Lv :: spool rfC Lr :: spool shC Ps :: spool hC Lh :: sls hC 53 2 v3 (newestL M) :: bk a M :: H) ?_
  refine newestD hd hw fun v4 _ => ?_
  (repeat first | refine gS ?_ | refine gA fun _ => ?_)
  refine sameHeld (l := newestL M) (by have := newestL_len hw; omega) ?_
  (repeat first | refine gS ?_ | refine gA fun _ => ?_)
  refine sm (G := cel true b 88 [fv.1, sv.1, I M.now] :: spool fC Pf :: spool vC Lv :: spool rfC Lr :: spool shC Ps :: spool hC Lh :: bk a M :: H) ?_
  refine E_dbkS hd rfl ?_
  exact sm h
end Go.Proofs.YtjafpncngmbcdaaGreat.Nam
end
section
namespace Go.Proofs.YtjafpncngmbcdaaGreat.Nam
open Go Go.SL Go.Proofs Go.Proofs.YtjafpncngmbcdaaGreat.Sh
variable {B : World} {H : List Asrt} {K : Value → WT} {W : WT} {a b : Nat} {M : Bk} {f : Fa} {rv hv mv : Value}
abbrev FV := Fa × Cv × Cv × Cv
def faE (p : FV) : List Value := faL p.1 p.2.1.1 p.2.2.1.1 p.2.2.2.1
instance : Enc faE 14 := ⟨fun _ => rfl, fun p y hy => by
  simp [faE, faL] at hy
  rcases hy with rfl | rfl | rfl | rfl | rfl | rfl | rfl | rfl | rfl | rfl | rfl | rfl | rfl | rfl
  all_goals first | rfl | exact p.2.1.2 | exact p.2.2.1.2 | exact p.2.2.2.2⟩
instance {p : FV} : AtLen (faE p) 14 := ⟨rfl⟩
instance {p : FV} : AllC (faE p) := ⟨fun y hy => Enc.cell (enc := faE) p y hy⟩
instance {p : FV} : AtI (faE p) 0 (I p.1.k) := ⟨rfl⟩
instance {p : FV} : AtI (faE p) 4 (str p.1.name) := ⟨rfl⟩
instance {p : FV} : AtI (faE p) 5 (I p.1.gen) := ⟨rfl⟩
instance {p : FV} : AtI (faE p) 7 p.2.1.1 := ⟨rfl⟩
instance {p : FV} : AtI (faE p) 8 p.2.2.1.1 := ⟨rfl⟩
structure FIn (B : World) (p : FV) : Prop where
  r : ∀ H, Rs B H p.2.1.1 rfC p.1.refs
  h : ∀ H, Rs B H p.2.2.1.1 hC p.1.held
  m : ∀ H, Rs B H p.2.2.2.1 mvC p.1.moves
  ok : FaOk p.1
  rb : p.1.refs.length * 56 ≤ 140737488355328
  hb : p.1.held.length * 24 ≤ 140737488355328
def bk0 : Bk := ⟨[], [], 0⟩
def runM (l : List Fa) : Bk := (l.take 100).foldl stepM bk0
theorem Inv.run {M : Bk} (h : Inv M) (l : List Fa) : Inv (l.foldl stepM M) := by
  induction l generalizing M with
  | nil => exact h
  | cons x l ih => exact ih (h.step x)
theorem inv_run (l : List Fa) : Inv (runM l) := inv0.run _
theorem E_xorA {x y : Int} (h : ∀ n : Int, E B H (K (I n))) : E B H (S.bin .xor (.int .i64 x) (.int .i64 y) K) := E_xor (h _)
theorem E_bsix {α : Type} {enc : α → List Value} {sz : Nat} [hE : Enc enc sz] {v : Value} {l : List α} {i : Nat} {x : α} {k : IntKind} (hf : ∀ H', Rs B H' v enc l) (hx : l[i]? = some x)
    (h : ∀ p, (∀ H', PtA B H' p 0 (enc x)) → E B H (K p)) : E B H (S.ixS sz v (.int k (i : Int)) K) := fun w hw => by
  have hlt : i < l.length := (List.getElem?_eq_some_iff.1 hx).1
  have hle : i * sz + sz ≤ (l.flatMap enc).length := by rw [enc_length, ← Nat.succ_mul]; exact Nat.mul_le_mul_right _ hlt
  obtain ⟨r, hr⟩ := enc_at (enc := enc) hx
  rcases (hf H).pf hw with ⟨_, h1, _⟩ | ⟨a, cap, hv, hle2, _⟩
  · omega
  · subst hv
    refine ⟨by omega, by omega, ?_⟩
    have : ∀ H', PtA B H' (.pointer (some (a.add (((i : Nat) : Int).toNat * sz)))) 0 (enc x) := fun H' => by
      refine ⟨a.add (i * sz), by rw [Int.toNat_natCast, addAdd, Nat.add_zero], fun {w'} hw' j hj => ?_⟩
      rcases (hf H').pf hw' with ⟨h0, _, _⟩ | ⟨a', cap', hv', _, hc⟩
      · cases h0
      · cases hv'
        rw [hE.len] at hj
        rw [addAdd, hc (i * sz + j) (by omega)]
        have h2 : ((l.flatMap enc).drop (i * sz))[j]? = (enc x)[j]? := by rw [hr, List.getElem?_append_left (by rw [hE.len]; omega)]
        rw [← h2, List.getElem?_drop]
    exact h _ this w hw
attribute [local irreducible] S.pick S.ld S.ldN S.st S.box S.nc S.fad S.ixS S.ixA S.chr S.prt S.ext S.bin S.sh S.sbin S.beq S.neg1 S.com1 S.not1 S.cvt S.str1 S.lenS S.len S.cap S.lenM S.mx S.mn S.mkM S.cond S.gd S.fa S.dr S.rck S.join S.loop S.cvv S.eqv S.slc S.slcS S.b2s S.lk V U CF Gives E cel mpb osl ros dct dit itr lpo dfo
set_option maxRecDepth 8000
attribute [local irreducible] bk dbk
theorem play {v0 : Value} {l : List FV} (hl : ∀ H, Rs B H v0 faE l) (hin : ∀ p ∈ l, FIn B p) (h : ∀ a b, E B (bk a (runM (l.map (·.1))) :: dbk b (runM (l.map (·.1))) :: H) (K (.tuple #[ptr a, ptr b, .bool true]))) : E B H (CF Tryz.prog 9 [v0] K) := by
  refine E_mono (W := s9 _ K) ?_ fun _ => c9
  unfold s9
  refine new fun a => ?_
  refine newD fun b => ?_
  refine E_peq u_pBook ?_
  refine E_ff ?_
  refine E_loop (n := 4) (σ := Nat) (fun i => i ≤ l.length ∧ i ≤ 100) (fun i => [v0, ptr a, ptr b, I i]) (fun i => bk a (((l.take i).map (·.1)).foldl stepM bk0) :: dbk b (((l.take i).map (·.1)).foldl stepM bk0) :: H) (fun i => l.length - i) 0 (fun _ => rfl) rfl ⟨Nat.zero_le _, Nat.zero_le _⟩ (fun W hW => by
    have hW2 : E B (bk a ⟨[], [], 0⟩ :: dbk b ⟨[], [], 0⟩ :: H) W := hW
    exact sm hW2) ?_
  rintro i K0 ⟨hi, hi1⟩ hk0
  have hw : Inv (((l.take i).map (·.1)).foldl stepM bk0) := inv0.run _
  refine E_fa fun _ => ?_
  refine E_join1 [v0, ptr a, ptr b, I i, .bool (decide ((i : Int) < l.length) && decide ((i : Int) < 100))] (bk a (((l.take i).map (·.1)).foldl stepM bk0) :: dbk b (((l.take i).map (·.1)).foldl stepM bk0) :: H) (fun q hq => ?_) ?_
  · refine E_rslen (hf := hl _) ?_
    (repeat first | refine gS ?_ | refine gY ?_ | refine gA fun _ => ?_ | refine gX fun _ _ => ?_ | refine gI ?_)
    exact sm hq
  refine E_fa fun _ => ?_
  refine E_ifb' (p := i < l.length ∧ i < 100) (by simp; omega) (fun hc => ?_) (fun hc => ?_)
  · have hx : l[i]? = some l[i] := List.getElem?_eq_getElem (by omega)
    have hfi := hin _ (List.mem_of_getElem? hx)
    generalize l[i] = p at hx hfi
    have hnx : ((l.take (i + 1)).map (·.1)).foldl stepM bk0 = stepM (((l.take i).map (·.1)).foldl stepM bk0) p.1 := by
      rw [List.take_add_one, hx, List.map_append, List.foldl_append]; rfl
    have hk1 := hk0 (i + 1) ⟨by omega, by omega⟩ (by omega)
    rw [hnx] at hk1
    generalize ((l.take i).map (·.1)).foldl stepM bk0 = M at hw hk1 ⊢
    obtain ⟨f, rv, hv, mv⟩ := p
    have ir : ∀ H, Rs B H rv.1 rfC f.refs := hfi.r
    have ih : ∀ H, Rs B H hv.1 hC f.held := hfi.h
    have im : ∀ H, Rs B H mv.1 mvC f.moves := hfi.m
    have ho : FaOk f := hfi.ok
    have hrb : f.refs.length * 56 ≤ 140737488355328 := hfi.rb
    have hhb : f.held.length * 24 ≤ 140737488355328 := hfi.hb
    refine E_bsix hl hx fun _ _ => ?_
    refine E_ptldA ?_
    refine E_box fun b8 => ?_
    refine E_stW (vs := [I f.k, I f.bin, I f.at_, I f.n, str f.name, I f.gen, I f.time, rv.1, hv.1, mv.1, I f.last, I f.young, I f.step, I f.count]) rfl rfl ?_
    refine E_bsl0 u_refs elt_ref fun b0 => ?_
    refine E_slsC (enc := rfC) [] 0 rfl rfl ?_
    refine E_bsix hl hx fun _ _ => ?_
    refine E_ptfad0 fun _ _ => ?_
    refine E_ptld (u := rv.1) ?_
    refine E_sapps (enc := rfC) (l := []) (m := f.refs) u_refs elt_ref (by simpa using hrb) (by simp; omega) fun r2 _ => ?_
    rw [List.nil_append]
    (repeat first | refine gS ?_ | refine gA fun _ => ?_ | refine gX fun _ _ => ?_ | refine gT ?_ | refine gF ?_ | refine gI ?_)
    refine E_bsl0 u_helds elt_held fun b1 => ?_
    refine E_slsC (enc := hC) [] 0 rfl rfl ?_
    refine E_bsix hl hx fun _ _ => ?_
    refine E_ptfad0 fun _ _ => ?_
    refine E_ptld (u := hv.1) ?_
    refine E_sapps (enc := hC) (l := []) (m := f.held) u_helds elt_held (by simpa using hhb) (by simp; omega) fun h2 _ => ?_
    rw [List.nil_append]
    (repeat first | refine gS ?_ | refine gA fun _ => ?_ | refine gX fun _ _ => ?_ | refine gT ?_ | refine gF ?_ | refine gI ?_)
    refine sm (G := bk a M :: dbk b M :: cel true b8 60 [I f.k, I f.bin, I f.at_, I f.n, str f.name, I f.gen, I f.time, r2, h2, mv.1, I f.last, I f.young, I f.step, I f.count] :: sls rfC 38 35 r2 f.refs :: sls hC 53 2 h2 f.held :: H) ?_
    show E B (bk a M :: dbk b M :: cel true b8 60 (faL f r2 h2 mv.1) :: sls rfC 38 35 r2 f.refs :: sls hC 53 2 h2 f.held :: H) _
    refine E_join1 [v0, ptr a, ptr b, I i, ptr b8, .bool false] (bk a (stepM M f) :: dbk b (stepM M f) :: cel true b8 60 (faL f r2 h2 mv.1) :: sls rfC 38 35 r2 f.refs :: sls hC 53 2 h2 f.held :: H) (fun q hq => ?_) ?_
    · refine E_dr ?_
      refine E_ldNA ?_
      refine E_bsix hl hx fun _ _ => ?_
      refine E_ptldA ?_
      refine check (f := f) ho hw ?_
      refine E_rck1 (E_ptldA (E_fact rfl)) (E_rck0 ?_)
      refine fd (a := dbk b M) (E_dbk fun fv sv L LS Pf Lv Lr Ps Lh hd => ?_)
      show E B _ (CF Tryz.prog 39 [ptr b, .agg (faL f rv.1 hv.1 mv.1).toArray] _)
      refine checkD (f := f) ho hd hw ?_
      refine E_dbkS hd rfl ?_
      refine E_neq ?_
      rw [decide_eq_false (by simp : ¬ checkB M f ≠ checkB M f)]
      refine E_gft ?_
      refine E_gft ?_
      refine E_ldNA ?_
      refine E_gft ?_
      refine E_gft ?_
      refine E_gft ?_
      refine E_gft ?_
      refine E_bsix hl hx fun _ _ => ?_
      refine E_gft ?_
      refine E_ptldA ?_
      refine E_gft ?_
      refine fd (a := bk a M) ?_
      refine apply (f := f) (hr3 := fun G => im _) ho hw ?_
      refine E_rck1 (E_gft (E_ptldA (E_fact rfl))) (E_rck0 ?_)
      refine E_gft ?_
      refine fd (a := dbk b M) ?_
      show E B _ (CF Tryz.prog 34 [ptr b, .agg (faL f rv.1 hv.1 mv.1).toArray] _)
      refine applyD (f := f) (hr3 := fun G => im _) ho hw ?_
      refine E_gft ?_
      refine E_neq ?_
      rw [decide_eq_false (by simp : ¬ checkB M f ≠ checkB M f)]
      (repeat first | refine gS ?_ | refine gA fun _ => ?_ | refine gX fun _ _ => ?_ | refine gT ?_ | refine gF ?_ | refine gI ?_)
      exact sm hq
    refine E_fa fun _ => ?_
    refine E_ff ?_
    refine E_loop (n := 6) (σ := Nat × List Rf) (fun s => s.1 ≤ f.refs.length ∧ s.2.length = f.refs.length) (fun s => [v0, ptr a, ptr b, I i, ptr b8, I s.1]) (fun s => bk a (stepM M f) :: dbk b (stepM M f) :: cel true b8 60 (faL f r2 h2 mv.1) :: sls rfC 38 35 r2 s.2 :: sls hC 53 2 h2 f.held :: H) (fun s => f.refs.length - s.1) (0, f.refs) (fun _ => rfl) rfl ⟨Nat.zero_le _, rfl⟩ (fun W hW => sm hW) ?_
    rintro ⟨j, rs⟩ K1 ⟨hj, hrl⟩ hk2
    simp only at hj hrl hk2 ⊢
    refine E_fa fun _ => ?_
    (repeat first | refine gS ?_ | refine gA fun _ => ?_)
    refine E_if (fun hc2 => ?_) (fun hc2 => ?_)
    · have hy : rs[j]? = some rs[j] := List.getElem?_eq_getElem (by omega)
      generalize rs[j] = x at hy
      (repeat first | refine gS ?_ | refine gA fun _ => ?_)
      refine E_rsix (v := r2) (l := rs) hy fun _ _ => ?_
      refine E_ptfad0 fun _ _ => ?_
      refine E_ptld (u := I x.bin) ?_
      refine E_xorA fun n => ?_
      refine fd (a := sls rfC 38 35 r2 rs) ?_
      refine E_sfld { x with bin := n } hy (by decide) (rfC_bin x n) ?_
      refine E_addI (by omega) (by omega) ?_
      exact sm (hk2 (j + 1, rs.set j { x with bin := n }) ⟨by simp only; omega, by simp [hrl]⟩ (by simp only; omega))
    · clear hk2 hc2
      refine E_loop (n := 6) (σ := Nat × List (List UInt8 × Int)) (fun s => s.1 ≤ f.held.length ∧ s.2.length = f.held.length) (fun s => [v0, ptr a, ptr b, I i, ptr b8, I s.1]) (fun s => bk a (stepM M f) :: dbk b (stepM M f) :: cel true b8 60 (faL f r2 h2 mv.1) :: sls hC 53 2 h2 s.2 :: H) (fun s => f.held.length - s.1) (0, f.held) (fun _ => rfl) rfl ⟨Nat.zero_le _, rfl⟩ (fun W hW => sm hW) ?_
      rintro ⟨j, hs⟩ K2 ⟨hj, hrl⟩ hk2
      simp only at hj hrl hk2 ⊢
      refine E_fa fun _ => ?_
      (repeat first | refine gS ?_ | refine gA fun _ => ?_)
      refine E_if (fun hc2 => ?_) (fun hc2 => ?_)
      · have hy : hs[j]? = some hs[j] := List.getElem?_eq_getElem (by omega)
        generalize hs[j] = x at hy
        (repeat first | refine gS ?_ | refine gA fun _ => ?_)
        refine E_rsix (v := h2) (l := hs) hy fun _ _ => ?_
        refine E_ptfad0 fun _ _ => ?_
        refine E_ptld (u := I x.2) ?_
        refine E_xorA fun n => ?_
        refine fd (a := sls hC 53 2 h2 hs) ?_
        refine E_sfld (x.1, n) hy (by decide) rfl ?_
        refine E_addI (by omega) (by omega) ?_
        exact sm (hk2 (j + 1, hs.set j (x.1, n)) ⟨by simp only; omega, by simp [hrl]⟩ (by simp only; omega))
      · refine E_addI (by omega) (by omega) ?_
        exact sm hk1
  · have hrun : runM (l.map (·.1)) = ((l.take i).map (·.1)).foldl stepM bk0 := by
      unfold runM
      rw [← List.map_take]
      have : l.take 100 = l.take i := by
        by_cases h1 : i = 100
        · rw [h1]
        · have h2 : i = l.length := by omega
          rw [h2, List.take_length, List.take_of_length_le (by omega)]
      rw [this]
    rw [hrun] at h
    refine alike hw ?_
    exact h a b
end Go.Proofs.YtjafpncngmbcdaaGreat.Nam
end
