/-
  Names: the program's Apply.
-/
import Derived.Test.YtjafpncngmbcdaaGreatNmT
set_option linter.unusedSimpArgs false
set_option linter.unusedVariables false
set_option linter.unusedSectionVars false
namespace Go.Proofs.YtjafpncngmbcdaaGreat.Nam
open Go Go.SL Go.Proofs Go.Proofs.YtjafpncngmbcdaaGreat.Sh
variable {B : World} {H : List Asrt} {K : Value → WT} {W : WT} {a : Nat} {M : Bk} {f : Fa} {rv hv mv : Value}
theorem E_dlkz {r : Nat} {kf : List (List UInt8 × Value)} {k : List UInt8} {v z : Value} {H' : List Asrt} [ht : TakD H kL true r kf H'] (hv : lk kf k = some v ∨ (lk kf k = none ∧ v = z)) (h : E B (dct kL true r kf :: H') (K v)) : E B H (S.lk .string z false (.map (some r)) (str k) K) := by
  rcases hv with hv | ⟨hv, rfl⟩
  · exact E_dlk1 (κ := List UInt8) hv h
  · exact E_dlk0 (κ := List UInt8) hv h
theorem str_ver : Str Tryz.prog 31 [(0, 1), (1, 1), (2, 1), (3, 1)] [I 0, I 0, nil, .bool false] := str_of (zv := .agg #[I 0, I 0, nil, .bool false]) (by kernel_rfl) (by kernel_rfl) rfl
theorem str_shot : Str Tryz.prog 90 [(0, 1), (1, 1), (2, 1)] [.string ⟨#[]⟩, I 0, nil] := str_of (zv := .agg #[.string ⟨#[]⟩, I 0, nil]) (by kernel_rfl) (by kernel_rfl) rfl
abbrev zFact : List Value := [I 0, I 0, I 0, I 0, .string ⟨#[]⟩, I 0, I 0, nil, nil, nil, I 0, I 0, I 0, I 0]
theorem str_fact : Str Tryz.prog 60 [(0, 1), (1, 3), (4, 1), (5, 1), (6, 1), (7, 1), (8, 1), (9, 1), (10, 4)] zFact := str_of (zv := .agg zFact.toArray) (by kernel_rfl) (by kernel_rfl) rfl
theorem rs_midA {α : Type} {enc : α → List Value} {v : Value} {l : List α} (H' C : List Asrt) (h : ∀ G, Rs B (G ++ H) v enc l) : Rs B (H' ++ (C ++ H)) v enc l := by
  rw [← List.append_assoc]; exact h _
theorem sok_put {Lh Lh' : List (Value × List (List UInt8 × Int))} {ks : List (List UInt8 × Value)} {S S' : List Sn} {k : List UInt8} {s : Sn} {v : Value} (h : SOk Lh ks S) (hc : isCell v = true) (ho : ∀ k', sof S' k' = if k' = k then some s else sof S k') (hm : (v, s.held) ∈ Lh') (hL : ∀ p ∈ Lh, p ∈ Lh') : SOk Lh' (dput ks k (shV s v)) S' := fun k' => by
  rw [ho k', show lk (dput ks k (shV s v)) k' = _ from dget_dput]
  by_cases hk : k' = k
  · rw [if_pos hk, if_pos hk]; exact .inr ⟨⟨v, hc⟩, s, rfl, rfl, hm⟩
  · rw [if_neg hk, if_neg hk]
    rcases h k' with h | ⟨u, t, h1, h2, h3⟩
    · exact .inl h
    · exact .inr ⟨u, t, h1, h2, hL _ h3⟩
theorem sok_del {Lh : List (Value × List (List UInt8 × Int))} {ks : List (List UInt8 × Value)} {S S' : List Sn} {k : List UInt8} (h : SOk Lh ks S) (ho : ∀ k', sof S' k' = if k' = k then none else sof S k') : SOk Lh (ddel ks k) S' := fun k' => by
  rw [ho k', show lk (ddel ks k) k' = _ from dget_ddel]
  by_cases hk : k' = k
  · rw [if_pos hk, if_pos hk]; exact .inl ⟨rfl, rfl⟩
  · rw [if_neg hk, if_neg hk]
    exact h k'
theorem flat_len {α β : Type} {g : α → List β} {c : Nat} : ∀ {l : List α}, (∀ a ∈ l, (g a).length ≤ c) → (l.flatMap g).length ≤ c * l.length
  | [], _ => by simp
  | a :: l, h => by
    have h1 := h a (by simp)
    have h2 := flat_len (l := l) fun b hb => h b (List.mem_cons_of_mem _ hb)
    rw [List.flatMap_cons, List.length_append, List.length_cons, Nat.mul_add, Nat.mul_one]; omega
theorem expireL_len (hw : Inv M) (f : Fa) : (expireL M f).length ≤ 2048 := by
  have h1 : (expireL M f).length ≤ 32 * (nms M.V).length := flat_len fun k _ => by
    refine Nat.le_trans (List.length_filterMap_le _ _) ?_
    rw [List.length_range]
    exact Nat.le_trans (List.length_filter_le _ _) (hw.fl k)
  have := hw.nl
  omega
instance {h : List UInt8 × Int} : AllC (hC h) := ⟨fun y hy => Enc.cell (enc := hC) h y hy⟩
attribute [local irreducible] S.pick S.ld S.ldN S.st S.box S.nc S.fad S.ixS S.ixA S.chr S.prt S.ext S.bin S.sh S.sbin S.beq S.neg1 S.com1 S.not1 S.cvt S.str1 S.lenS S.len S.cap S.lenM S.mx S.mn S.mkM S.cond S.gd S.fa S.dr S.rck S.join S.loop S.cvv S.eqv S.slc S.slcS S.b2s S.lk V U CF Gives E cel mpb osl ros dct dit itr lpo dfo
set_option maxRecDepth 8000
attribute [local irreducible] bk
theorem apply0 [CellI rv] [CellI hv] [CellI mv] [hr1 : Rs B H rv rfC f.refs] [hr2 : Rs B H hv hC f.held] [hr3 : ∀ G, Rs B (G ++ H) mv mvC f.moves] (ho : FaOk f) (hw : Inv M)
    (hrec : f.k = 9 → ∀ (M' : Bk) (x : List UInt8 × Int) (H' : List Asrt) (K' : Value → WT), Inv M' → x.1.length ≤ 1000 → (∀ e, E B (bk a (stepD M' x) :: H') (K' (I e))) → E B (bk a M' :: H') (CF Tryz.prog 23 [ptr a, .agg (faL (dropF x) nil nil nil).toArray] K'))
    (h : E B (bk a (stepM M f) :: H) (K (I (checkB M f)))) : E B (bk a M :: H) (CF Tryz.prog 23 [ptr a, .agg (faL f rv hv mv).toArray] K) := by
  have hr3' : Rs B H mv mvC f.moves := hr3 []
  refine E_mono (W := s23 _ _ K) ?_ fun _ => c23
  unfold s23
  refine E_box (vs := faL f rv hv mv) fun b3 => ?_
  (repeat first | refine gS ?_ | refine gA fun _ => ?_ | refine gX fun _ _ => ?_ | refine gT ?_ | refine gF ?_ | refine gI ?_)
  refine fd (a := bk a M) (check ho hw ?_)
  refine E_neq ?_
  refine E_if (fun hc => ?_) (fun hc => ?_)
  · unfold stepM at h
    rw [if_pos hc] at h
    exact sm h
  have hc0 : checkB M f = 0 := Decidable.not_not.1 hc
  have ok := checkB0.1 hc0
  obtain ⟨hk, hbad, hrl, hhl, hml, hmo, hho, hro, hbare⟩ := checkF0 ok.c
  obtain ⟨hnm, hgen, hng, hnt, h9⟩ := badB0 hbad
  have hfl := hw.fl
  have fin : ∀ M', applyM M f = M' → E B (bk a M' :: H) (K (I 0)) := fun M' e => by
    unfold stepM at h
    rw [if_neg (by simpa using hc0), hc0, e] at h
    exact h
  unfold applyM at fin
  refine E_join1 [] (bk a (applyM M f) :: cel true b3 60 (faL f rv hv mv) :: H) (fun q hq => ?_) ?_
  case refine_2 =>
    refine E_fa fun _ => ?_
    exact sm (fin (applyM M f) rfl)
  clear fin
  have fin : ∀ M', applyM M f = M' → E B (bk a M' :: cel true b3 60 (faL f rv hv mv) :: H) (app 0 q []) := fun M' e => e ▸ hq
  clear hq h
  unfold applyM at fin
  by_cases h8 : f.k = 8
  · rw [if_pos h8] at fin
    refine E_bk fun r1 r2 kf ks Lv Lr Lh hf hs => ?_
    (repeat first | refine gS ?_ | refine gA fun _ => ?_ | refine gX fun _ _ => ?_ | refine gT ?_ | refine gF ?_ | refine gI ?_)
    refine sm (G := cel true a 81 [.map (some r1), .map (some r2), I f.time] :: dct kL true r1 kf :: dct kL true r2 ks :: spool vC Lv :: spool rfC Lr :: spool hC Lh :: cel true b3 60 (faL f rv hv mv) :: H) ?_
    exact E_bkS (M := { M with now := f.time }) r1 r2 hf hs rfl (fin _ rfl)
  rw [if_neg h8] at fin
  by_cases h3 : f.k = 3
  · rw [if_pos h3] at fin
    refine E_bk fun r1 r2 kf ks Lv Lr Lh hf hs => ?_
    obtain ⟨v, l, hrv, hle, hlr, hlk⟩ := fok_get hf f.name
    have i1 := hrv B
    have hll : l.length = (fof M.V f.name).length := by rw [← hle, List.length_map]
    have hln := hfl f.name
    have last : ∀ (u v' : Value) [CellI u] [CellI v'], E B (sls vC 31 4 u (l ++ [(⟨f.name, f.gen, f.time, f.refs, false⟩, ⟨v', CellI.pf⟩)]) :: sls rfC 38 35 v' f.refs :: cel true a 81 [.map (some r1), .map (some r2), I M.now] :: dct kL true r1 kf :: dct kL true r2 ks :: spool vC Lv :: spool rfC Lr :: spool hC Lh :: cel true b3 60 (faL f rv hv mv) :: H) (S.rck [S.ld (.pointer (some ⟨b3, 4, none⟩)) (fun v' _ => v' = str f.name), S.ld (.pointer (some ⟨a, 0, none⟩)) (fun v' _ => v' = .map (some r1))] <| U Tryz.prog (Instr.mapUpdate 78 (.map (some r1)) (str f.name) u) fun _ => app 0 q []) := fun u v' _ _ => by
      (repeat (refine E_rck1 (by first | exact E_ld (E_fact rfl) | exact E_ld' (by assumption) (E_fact rfl) | exact E_b2sR (E_fact rfl) | exact E_gdnF (by assumption) (E_ld (E_fact rfl)) | exact E_gdT (by assumption) (E_ld (E_fact rfl)) | exact E_gtf (E_ld (E_fact rfl)) | exact E_gft (E_ld (E_fact rfl)) | exact E_ldNA (E_fact rfl) | exact E_ptld (E_fact rfl) | exact E_gtf (E_ldNA (E_fact rfl))) ?_)); (first | (refine E_rck0 ?_) | skip)
      refine E_dmu (κ := List UInt8) key_files ?_
      refine fd (a := spool vC Lv) ?_
      refine fd (a := sls vC 31 4 u (l ++ [((⟨f.name, f.gen, f.time, f.refs, false⟩, ⟨v', CellI.pf⟩) : VR)])) ?_
      refine E_give ?_
      refine fd (a := spool rfC Lr) ?_
      refine fd (a := sls rfC 38 35 v' f.refs) ?_
      refine E_give ?_
      have hv' : (l ++ [((⟨f.name, f.gen, f.time, f.refs, false⟩, ⟨v', CellI.pf⟩) : VR)]).map (·.1) = fof (insV M.V ⟨f.name, f.gen, f.time, f.refs, false⟩) f.name := by
        rw [fof_insV hw.v.n, if_pos rfl, List.map_append, hle]; rfl
      refine sm (G := cel true a 81 [.map (some r1), .map (some r2), I M.now] :: dct kL true r1 (dput kf f.name u) :: dct kL true r2 ks :: spool vC ((u, l ++ [((⟨f.name, f.gen, f.time, f.refs, false⟩, ⟨v', CellI.pf⟩) : VR)]) :: Lv) :: spool rfC ((v', f.refs) :: Lr) :: spool hC Lh :: cel true b3 60 (faL f rv hv mv) :: H) ?_
      refine E_bkS (M := { M with V := insV M.V ⟨f.name, f.gen, f.time, f.refs, false⟩ }) r1 r2 (fok_put hf (fun k' hk' => by rw [fof_insV hw.v.n, if_neg hk']) ⟨by simp, hv', fun p hp => ?_⟩ (fun _ h => List.mem_cons_of_mem _ h) (fun _ h => List.mem_cons_of_mem _ h) (by rw [← hv']; simp)) hs rfl (fin _ rfl)
      rcases List.mem_append.1 hp with hp | hp
      · exact List.mem_cons_of_mem _ (hlr p hp)
      · simp only [List.mem_singleton] at hp
        subst hp
        exact List.mem_cons_self
    (repeat first | refine gS ?_ | refine gA fun _ => ?_ | refine gX fun _ _ => ?_ | refine gT ?_ | refine gF ?_ | refine gI ?_)
    refine E_dlkg hlk ?_
    (repeat first | refine gS ?_ | refine gA fun _ => ?_ | refine gX fun _ _ => ?_ | refine gT ?_ | refine gF ?_ | refine gI ?_)
    refine E_both ?_ ?_
    · refine cloneV (v := v) (by omega) fun u _ => ?_
      (repeat (refine E_rck1 (by first | exact E_ld (E_fact rfl) | exact E_ld' (by assumption) (E_fact rfl) | exact E_b2sR (E_fact rfl) | exact E_gdnF (by assumption) (E_ld (E_fact rfl)) | exact E_gdT (by assumption) (E_ld (E_fact rfl)) | exact E_gtf (E_ld (E_fact rfl)) | exact E_gft (E_ld (E_fact rfl)) | exact E_ldNA (E_fact rfl) | exact E_ptld (E_fact rfl) | exact E_gtf (E_ldNA (E_fact rfl))) ?_)); (first | (refine E_rck0 ?_) | skip)
      refine E_build (l := [I f.gen, I f.time, rv, .bool false]) str_ver ?_
      (repeat (refine E_rck1 (by first | exact E_ld (E_fact rfl) | exact E_ld' (by assumption) (E_fact rfl) | exact E_b2sR (E_fact rfl) | exact E_gdnF (by assumption) (E_ld (E_fact rfl)) | exact E_gdT (by assumption) (E_ld (E_fact rfl)) | exact E_gtf (E_ld (E_fact rfl)) | exact E_gft (E_ld (E_fact rfl)) | exact E_ldNA (E_fact rfl) | exact E_ptld (E_fact rfl) | exact E_gtf (E_ldNA (E_fact rfl))) ?_)); (first | (refine E_rck0 ?_) | skip)
      refine copied (l := f.refs) (by omega) fun v' _ => ?_
      (repeat (refine E_rck1 (by first | exact E_ld (E_fact rfl) | exact E_ld' (by assumption) (E_fact rfl) | exact E_b2sR (E_fact rfl) | exact E_gdnF (by assumption) (E_ld (E_fact rfl)) | exact E_gdT (by assumption) (E_ld (E_fact rfl)) | exact E_gtf (E_ld (E_fact rfl)) | exact E_gft (E_ld (E_fact rfl)) | exact E_ldNA (E_fact rfl) | exact E_ptld (E_fact rfl) | exact E_gtf (E_ldNA (E_fact rfl))) ?_)); (first | (refine E_rck0 ?_) | skip)
      refine fd (a := sls vC 31 4 u l) ?_
      refine E_sapp1R (enc := vC) (⟨f.name, f.gen, f.time, f.refs, false⟩, ⟨v', CellI.pf⟩) u_vers elt_ver rfl (by decide) (by omega) (by omega) (fun b W hW => by (repeat (refine E_rck1 (by first | exact E_ld (E_fact rfl) | exact E_ld' (by assumption) (E_fact rfl) | exact E_b2sR (E_fact rfl) | exact E_gdnF (by assumption) (E_ld (E_fact rfl)) | exact E_gdT (by assumption) (E_ld (E_fact rfl)) | exact E_gtf (E_ld (E_fact rfl)) | exact E_gft (E_ld (E_fact rfl)) | exact E_ldNA (E_fact rfl) | exact E_ptld (E_fact rfl) | exact E_gtf (E_ldNA (E_fact rfl))) ?_)); (first | (refine E_rck0 ?_) | skip); exact sm hW) fun u' _ => ?_
      exact sm (last u' v')
    · refine E_build (l := [I f.gen, I f.time, rv, .bool false]) str_ver ?_
      refine E_rck1 (E_dlkg hlk (E_fact rfl)) ?_
      (repeat (refine E_rck1 (by first | exact E_ld (E_fact rfl) | exact E_ld' (by assumption) (E_fact rfl) | exact E_b2sR (E_fact rfl) | exact E_gdnF (by assumption) (E_ld (E_fact rfl)) | exact E_gdT (by assumption) (E_ld (E_fact rfl)) | exact E_gtf (E_ld (E_fact rfl)) | exact E_gft (E_ld (E_fact rfl)) | exact E_ldNA (E_fact rfl) | exact E_ptld (E_fact rfl) | exact E_gtf (E_ldNA (E_fact rfl))) ?_)); (first | (refine E_rck0 ?_) | skip)
      refine cloneV (v := v) (by omega) fun u _ => ?_
      (repeat (refine E_rck1 (by first | exact E_ld (E_fact rfl) | exact E_ld' (by assumption) (E_fact rfl) | exact E_b2sR (E_fact rfl) | exact E_gdnF (by assumption) (E_ld (E_fact rfl)) | exact E_gdT (by assumption) (E_ld (E_fact rfl)) | exact E_gtf (E_ld (E_fact rfl)) | exact E_gft (E_ld (E_fact rfl)) | exact E_ldNA (E_fact rfl) | exact E_ptld (E_fact rfl) | exact E_gtf (E_ldNA (E_fact rfl))) ?_)); (first | (refine E_rck0 ?_) | skip)
      refine copied (l := f.refs) (by omega) fun v' _ => ?_
      (repeat (refine E_rck1 (by first | exact E_ld (E_fact rfl) | exact E_ld' (by assumption) (E_fact rfl) | exact E_b2sR (E_fact rfl) | exact E_gdnF (by assumption) (E_ld (E_fact rfl)) | exact E_gdT (by assumption) (E_ld (E_fact rfl)) | exact E_gtf (E_ld (E_fact rfl)) | exact E_gft (E_ld (E_fact rfl)) | exact E_ldNA (E_fact rfl) | exact E_ptld (E_fact rfl) | exact E_gtf (E_ldNA (E_fact rfl))) ?_)); (first | (refine E_rck0 ?_) | skip)
      refine fd (a := sls vC 31 4 u l) ?_
      refine E_sapp1R (enc := vC) (⟨f.name, f.gen, f.time, f.refs, false⟩, ⟨v', CellI.pf⟩) u_vers elt_ver rfl (by decide) (by omega) (by omega) (fun b W hW => by (repeat (refine E_rck1 (by first | exact E_ld (E_fact rfl) | exact E_ld' (by assumption) (E_fact rfl) | exact E_b2sR (E_fact rfl) | exact E_gdnF (by assumption) (E_ld (E_fact rfl)) | exact E_gdT (by assumption) (E_ld (E_fact rfl)) | exact E_gtf (E_ld (E_fact rfl)) | exact E_gft (E_ld (E_fact rfl)) | exact E_ldNA (E_fact rfl) | exact E_ptld (E_fact rfl) | exact E_gtf (E_ldNA (E_fact rfl))) ?_)); (first | (refine E_rck0 ?_) | skip); exact sm hW) fun u' _ => ?_
      exact sm (last u' v')
  rw [if_neg h3] at fin
  by_cases h4 : f.k = 4
  · rw [if_pos h4] at fin
    refine E_bk fun r1 r2 kf ks Lv Lr Lh hf hs => ?_
    obtain ⟨v, l, hrv, hle, hlr, hlk⟩ := fok_get hf f.name
    have i1 := hrv B
    have hll : l.length = (fof M.V f.name).length := by rw [← hle, List.length_map]
    have hln := hfl f.name
    (repeat first | refine gS ?_ | refine gA fun _ => ?_ | refine gX fun _ _ => ?_ | refine gT ?_ | refine gF ?_ | refine gI ?_)
    refine E_dlkg hlk ?_
    refine cloneV (v := v) (by omega) fun u _ => ?_
    refine fd (a := spool rfC Lr) (pool_dup ?_)
    (repeat first | refine gS ?_ | refine gA fun _ => ?_ | refine gX fun _ _ => ?_ | refine gT ?_ | refine gF ?_ | refine gI ?_)
    refine E_build (l := [str f.name, I f.gen]) str_held ?_
    refine sm (G := cel true a 81 [.map (some r1), .map (some r2), I M.now] :: dct kL true r1 kf :: dct kL true r2 ks :: spool vC Lv :: spool rfC Lr :: spool hC Lh :: sls vC 31 4 u l :: spool rfC Lr :: cel true b3 60 (faL f rv hv mv) :: H) ?_
    refine E_bkS r1 r2 hf hs rfl ?_
    rename List (Value × List Rf) => Lr0
    clear hf hs hlk i1 hrv
    refine at_ (by omega) ?_
    obtain ⟨x0, _, _, _, _, hg0⟩ := live_some (ok.k4 h4)
    rcases fi (fof M.V f.name) (genP f.gen) with ⟨e1, e2⟩ | ⟨i, x, e1, e2, e3⟩
    · exfalso
      unfold genV at hg0
      rw [show (fun v : Ver => decide (v.gen = f.gen)) = genP f.gen from rfl, e2] at hg0; cases hg0
    have hxg : x.gen = f.gen := by simpa [genP] using List.find?_some e3
    rw [e1, show idxI (some i) = (i : Int) from rfl]
    have hp : ∃ p, l[i]? = some p ∧ p.1 = x := by
      rw [← hle, List.getElem?_map] at e2
      cases hp : l[i]? with
      | none => rw [hp] at e2; cases e2
      | some p => rw [hp] at e2; exact ⟨p, rfl, Option.some.inj e2⟩
    obtain ⟨p, hp, hpx⟩ := hp
    refine fd (a := sls vC 31 4 u l) ?_
    refine E_sfld (goneV p.1, p.2) hp (by decide) rfl ?_
    refine fd (a := bk a M) (E_bk fun r1 r2 kf ks Lv Lr Lh hf hs => ?_)
    (repeat first | refine gS ?_ | refine gA fun _ => ?_ | refine gX fun _ _ => ?_ | refine gT ?_ | refine gF ?_ | refine gI ?_)
    refine E_dmu (κ := List UInt8) key_files ?_
    refine fd (a := spool rfC Lr) ?_
    refine fd (a := spool rfC Lr0) (pool_join ?_)
    refine fd (a := spool vC Lv) ?_
    refine fd (a := sls vC 31 4 u (l.set i (goneV p.1, p.2))) ?_
    refine E_give ?_
    (repeat first | refine gS ?_ | refine gA fun _ => ?_ | refine gX fun _ _ => ?_ | refine gT ?_ | refine gF ?_ | refine gI ?_)
    refine sm (G := cel true a 81 [.map (some r1), .map (some r2), I M.now] :: dct kL true r1 (dput kf f.name u) :: dct kL true r2 ks :: spool vC ((u, l.set i (goneV p.1, p.2)) :: Lv) :: spool rfC (Lr0 ++ Lr) :: spool hC Lh :: cel true b3 60 (faL f rv hv mv) :: H) ?_
    have hv' : (l.set i (goneV p.1, p.2)).map (·.1) = fof (markV M.V f.name f.gen) f.name := by
      rw [← hxg, fof_mark hw.v e2, List.map_set, hle, hpx]
    have hil : i < l.length := (List.getElem?_eq_some_iff.1 hp).1
    refine E_bkS (M := { M with V := markV M.V f.name f.gen }) r1 r2 (fok_put hf (fun k' hk' => fof_mark_ne hk') ⟨by simp, hv', fun y hy => ?_⟩ (fun _ h => List.mem_cons_of_mem _ h) (fun _ h => List.mem_append_right _ h) (by
      rw [← hv']
      intro e
      have h0 := congrArg List.length e
      rw [List.length_map, List.length_set, List.length_nil] at h0
      omega)) hs rfl ?_
    · rcases List.mem_or_eq_of_mem_set hy with hy | hy
      · exact List.mem_append_left _ (hlr y hy)
      · subst hy
        exact List.mem_append_left _ (hlr p (List.mem_of_getElem? hp))
    refine sweep hw.su (fun s hs => Nat.le_trans (hw.hh s hs) (by decide)) (by
      show (fof (markV M.V f.name f.gen) f.name).length ≤ 1000000
      rw [← hv']; simp; omega) ?_
    exact sm (fin _ (by
      show dropM M f.name f.gen = _
      unfold dropM
      rw [← swN_mark hw.sw]))
  rw [if_neg h4] at fin
  by_cases h5 : f.k = 5
  · rw [if_pos h5] at fin
    refine E_bk fun r1 r2 kf ks Lv Lr Lh hf hs => ?_
    (repeat first | refine gS ?_ | refine gA fun _ => ?_ | refine gX fun _ _ => ?_ | refine gT ?_ | refine gF ?_ | refine gI ?_)
    refine cloneH (v := hv) (l := f.held) (by omega) fun v' _ => ?_
    (repeat (refine E_rck1 (by first | exact E_ld (E_fact rfl) | exact E_ld' (by assumption) (E_fact rfl) | exact E_b2sR (E_fact rfl) | exact E_gdnF (by assumption) (E_ld (E_fact rfl)) | exact E_gdT (by assumption) (E_ld (E_fact rfl)) | exact E_gtf (E_ld (E_fact rfl)) | exact E_gft (E_ld (E_fact rfl)) | exact E_ldNA (E_fact rfl) | exact E_ptld (E_fact rfl) | exact E_gtf (E_ldNA (E_fact rfl))) ?_)); (first | (refine E_rck0 ?_) | skip)
    refine E_build (l := [str f.name, I f.time, v']) str_shot ?_
    (repeat (refine E_rck1 (by first | exact E_ld (E_fact rfl) | exact E_ld' (by assumption) (E_fact rfl) | exact E_b2sR (E_fact rfl) | exact E_gdnF (by assumption) (E_ld (E_fact rfl)) | exact E_gdT (by assumption) (E_ld (E_fact rfl)) | exact E_gtf (E_ld (E_fact rfl)) | exact E_gft (E_ld (E_fact rfl)) | exact E_ldNA (E_fact rfl) | exact E_ptld (E_fact rfl) | exact E_gtf (E_ldNA (E_fact rfl))) ?_)); (first | (refine E_rck0 ?_) | skip)
    refine E_dmu (κ := List UInt8) key_shots ?_
    refine fd (a := spool hC Lh) ?_
    refine fd (a := sls hC 53 2 v' f.held) ?_
    refine E_give ?_
    refine sm (G := cel true a 81 [.map (some r1), .map (some r2), I M.now] :: dct kL true r1 kf :: dct kL true r2 (dput ks f.name (shV ⟨f.name, f.time, f.held⟩ v')) :: spool vC Lv :: spool rfC Lr :: spool hC ((v', f.held) :: Lh) :: cel true b3 60 (faL f rv hv mv) :: H) ?_
    exact E_bkS (M := { M with S := insS M.S ⟨f.name, f.time, f.held⟩ }) r1 r2 hf (sok_put hs CellI.pf (sof_insS (s := ⟨f.name, f.time, f.held⟩) (ok.k5 h5).2.1) (by simp) (fun _ h => List.mem_cons_of_mem _ h)) rfl (fin _ rfl)
  rw [if_neg h5] at fin
  by_cases h6 : f.k = 6
  · rw [if_pos h6] at fin
    refine E_bk fun r1 r2 kf ks Lv Lr Lh hf hs => ?_
    obtain ⟨s0, hv0, hrh, hlk, hsi, hst, _⟩ := sok_get hs f.name
    obtain ⟨s, hss⟩ := Option.isSome_iff_exists.1 (ok.k6 h6)
    have := hst s hss
    subst this
    obtain ⟨hsm, hsn⟩ := sof_some hss
    have ih := hrh B
    (repeat first | refine gS ?_ | refine gA fun _ => ?_ | refine gX fun _ _ => ?_ | refine gT ?_ | refine gF ?_ | refine gI ?_)
    refine E_dlkz hlk ?_
    (repeat first | refine gS ?_ | refine gA fun _ => ?_ | refine gX fun _ _ => ?_ | refine gT ?_ | refine gF ?_ | refine gI ?_)
    rename_i b7
    refine E_rck1 (E_dlkz hlk (E_fact rfl)) ?_
    (repeat (refine E_rck1 (by first | exact E_ld (E_fact rfl) | exact E_ld' (by assumption) (E_fact rfl) | exact E_b2sR (E_fact rfl) | exact E_gdnF (by assumption) (E_ld (E_fact rfl)) | exact E_gdT (by assumption) (E_ld (E_fact rfl)) | exact E_gtf (E_ld (E_fact rfl)) | exact E_gft (E_ld (E_fact rfl)) | exact E_ldNA (E_fact rfl) | exact E_ptld (E_fact rfl) | exact E_gtf (E_ldNA (E_fact rfl))) ?_)); (first | (refine E_rck0 ?_) | skip)
    refine E_stW (vs := [str s0.name, I s0.time, hv0.1]) rfl rfl ?_
    (repeat first | refine gS ?_ | refine gT ?_ | refine gF ?_)
    refine E_ddel (κ := List UInt8) rfl key_shots ?_
    (repeat first | refine gS ?_ | refine gA fun _ => ?_)
    refine fd (a := spool hC Lh) (pool_dup ?_)
    refine sm (G := cel true a 81 [.map (some r1), .map (some r2), I M.now] :: dct kL true r1 kf :: dct kL true r2 (ddel ks f.name) :: spool vC Lv :: spool rfC Lr :: spool hC Lh :: spool hC Lh :: cel true b3 60 (faL f rv hv mv) :: H) ?_
    refine E_bkS (M := { M with S := M.S.filter fun s => decide (s.name ≠ f.name) }) r1 r2 hf (sok_del hs fun k' => sof_filter _ _ _) rfl ?_
    have hhl := hw.hh s0 hsm
    clear hf hs hlk
    refine E_loop (n := 4) (σ := Nat) (fun i => i ≤ s0.held.length) (fun i => [ptr a, hv0.1, I s0.held.length, I i])
      (fun i => bk a { M with S := M.S.filter fun s => decide (s.name ≠ f.name), V := swL (M.S.filter fun s => decide (s.name ≠ f.name)) M.V ((s0.held.take i).map (·.1)) } :: spool hC Lh :: cel true b3 60 (faL f rv hv mv) :: H) (fun i => s0.held.length - i) 0 (fun _ => rfl) rfl (Nat.zero_le _)
      (fun W hW => by
        rw [List.take_zero, List.map_nil, swL_nil] at hW
        exact sm hW) ?_
    rintro i K0 hi hk0
    refine E_fa fun _ => ?_
    refine E_lss ?_
    refine E_if (fun hc1 => ?_) (fun hc1 => ?_)
    · have hx : s0.held[i]? = some s0.held[i] := List.getElem?_eq_getElem (by omega)
      generalize s0.held[i] = x at hx
      have iv : Rs B (bk a { M with S := M.S.filter fun s => decide (s.name ≠ f.name), V := swL (M.S.filter fun s => decide (s.name ≠ f.name)) M.V ((s0.held.take i).map (·.1)) } :: spool hC Lh :: cel true b3 60 (faL f rv hv mv) :: H) hv0.1 hC s0.held := rs_there (h := ih _)
      refine E_rsix (v := hv0.1) (l := s0.held) hx fun _ _ => ?_
      refine E_ptldA ?_
      refine E_box fun b9 => ?_
      refine E_stW (vs := hC x) rfl rfl ?_
      (repeat first | refine gS ?_ | refine gA fun _ => ?_)
      refine fd (a := bk a { M with S := M.S.filter fun s => decide (s.name ≠ f.name), V := swL (M.S.filter fun s => decide (s.name ≠ f.name)) M.V ((s0.held.take i).map (·.1)) }) (sweep (k := x.1) (fun s hs => ?_) (fun s hs => ?_) ?_ ?_)
      · have hs1 := List.mem_filter.1 hs
        rw [sof_filter, if_neg (by simpa using hs1.2)]
        exact hw.su s hs1.1
      · exact Nat.le_trans (hw.hh s (List.mem_filter.1 hs).1) (by decide)
      · refine Nat.le_trans (?_ : _ ≤ (fof M.V x.1).length) (by have := hfl x.1; omega)
        show (fof (swL _ M.V _) x.1).length ≤ _
        unfold swL
        rw [fof_filter]
        exact List.length_filter_le _ _
      · refine E_addI (by omega) (by omega) ?_
        have hk1 := hk0 (i + 1) (by omega) (by omega)
        rw [List.take_add_one, hx, List.map_append, Option.toList_some, List.map_singleton, ← swL_snoc] at hk1
        exact sm hk1
    · have hie : i = s0.held.length := by omega
      subst hie
      rw [List.take_length]
      have hfin := fin _ rfl
      rw [← hsn, ← swL_all hw.sw (by rw [hsn]; exact hss) hw.su, hsn] at hfin
      exact sm hfin
  rw [if_neg h6] at fin
  by_cases h7 : f.k = 7
  · rw [if_pos h7] at fin
    (repeat first | refine gS ?_ | refine gA fun _ => ?_ | refine gX fun _ _ => ?_ | refine gT ?_ | refine gF ?_ | refine gI ?_)
    have : ∀ G, Rs B (G ++ (cel true b3 60 (faL f rv hv mv) :: H)) mv mvC f.moves := fun G => rs_midA G [cel true b3 60 (faL f rv hv mv)] hr3
    refine fd (a := bk a M) (moved (ms := f.moves) hw (by omega) ?_)
    exact sm (fin _ rfl)
  rw [if_neg h7] at fin
  by_cases h9' : f.k = 9
  · rw [if_pos h9'] at fin
    have hru := h9 h9'
    simp only [ruleB, Bool.and_eq_true, decide_eq_true_eq, numB_iff] at hru
    have hkeep : keepOk f = true := decide_eq_true (by omega)
    (repeat first | refine gS ?_ | refine gA fun _ => ?_ | refine gX fun _ _ => ?_ | refine gT ?_ | refine gF ?_ | refine gI ?_)
    refine gY ?_
    refine fd (a := bk a M) (expire (f := f) hw (by omega) fun v _ => ?_)
    rw [if_pos hkeep, if_pos hkeep]
    (repeat first | refine gS ?_ | refine gA fun _ => ?_)
    have hxn : ∀ x ∈ expireL M f, x.1.length ≤ 1000 := fun x hx => by
      obtain ⟨k, hk, hxk⟩ := List.mem_flatMap.1 hx
      obtain ⟨j, _, hj⟩ := List.mem_filterMap.1 hxk
      obtain ⟨w, hw1, hw2⟩ := nms_mem.1 hk
      have hok := hw.nm w hw1
      have : x.1 = k := by
        split at hj
        · cases hj
        · split at hj
          · cases hj
          · cases hj; rfl
      rw [this, ← hw2]
      simp only [nameOk, decide_eq_true_eq] at hok
      omega
    have hrec' := hrec h9'
    have hLl := expireL_len hw f
    generalize hL : expireL M f = L at fin hxn hLl ⊢
    refine E_loop (n := 4) (σ := Nat) (fun i => i ≤ L.length) (fun i => [ptr a, v, I L.length, I i])
      (fun i => bk a ((L.take i).foldl stepD M) :: sls hC 53 2 v L :: cel true b3 60 (faL f rv hv mv) :: H) (fun i => L.length - i) 0 (fun _ => rfl) rfl (Nat.zero_le _) (fun W hW => by
        rw [List.take_zero, List.foldl_nil] at hW
        exact sm hW) ?_
    rintro i K0 hi hk0
    refine E_fa fun _ => ?_
    refine E_lss ?_
    refine E_if (fun hc1 => ?_) (fun hc1 => ?_)
    · have hx : L[i]? = some L[i] := List.getElem?_eq_getElem (by omega)
      have hxm := List.mem_of_getElem? hx
      generalize L[i] = x at hx hxm
      refine E_rsix (v := v) (l := L) hx fun _ _ => ?_
      refine E_ptldA ?_
      refine E_box fun b9 => ?_
      refine E_stW (vs := hC x) rfl rfl ?_
      (repeat first | refine gS ?_ | refine gA fun _ => ?_)
      refine E_build (l := faL (dropF x) nil nil nil) str_fact ?_
      refine fd (a := bk a ((L.take i).foldl stepD M)) (hrec' _ x _ _ (hw.fold _) (hxn x hxm) fun e => ?_)
      refine E_addI (by omega) (by omega) ?_
      have hk1 := hk0 (i + 1) (by omega) (by omega)
      rw [List.take_add_one, hx, List.foldl_append, Option.toList_some, List.foldl_cons, List.foldl_nil] at hk1
      exact sm hk1
    · have hie : i = L.length := by omega
      subst hie
      rw [List.take_length]
      exact sm (fin _ rfl)
  rw [if_neg h9'] at fin
  (repeat first | refine gS ?_ | refine gA fun _ => ?_ | refine gX fun _ _ => ?_ | refine gT ?_ | refine gF ?_ | refine gI ?_)
  exact sm (fin _ rfl)
theorem stepD_eq (M : Bk) (x : List UInt8 × Int) : stepM M (dropF x) = stepD M x := rfl
theorem apply [CellI rv] [CellI hv] [CellI mv] [hr1 : Rs B H rv rfC f.refs] [hr2 : Rs B H hv hC f.held] [hr3 : ∀ G, Rs B (G ++ H) mv mvC f.moves] (ho : FaOk f) (hw : Inv M)
    (h : E B (bk a (stepM M f) :: H) (K (I (checkB M f)))) : E B (bk a M :: H) (CF Tryz.prog 23 [ptr a, .agg (faL f rv hv mv).toArray] K) := by
  have rn : ∀ {α : Type} {enc : α → List Value} (H' : List Asrt), Rs B H' nil enc [] := fun H' => ⟨fun _ => .inl ⟨rfl, rfl, rfl⟩⟩
  refine apply0 ho hw (fun _ M' x H' K' hw' hx hk => ?_) h
  have i1 : Rs B H' nil rfC (dropF x).refs := rn (enc := rfC) H'
  have i2 : Rs B H' nil hC (dropF x).held := rn (enc := hC) H'
  have i3 : ∀ G, Rs B (G ++ H') nil mvC (dropF x).moves := fun G => rn (enc := mvC) _
  refine apply0 (f := dropF x) (hr1 := i1) (hr2 := i2) (hr3 := i3) ⟨by show x.1.length ≤ _; omega, Nat.zero_le _, Nat.zero_le _, Nat.zero_le _, fun h hh => by cases hh⟩ hw' (fun e => by cases e) ?_
  rw [stepD_eq]
  exact hk _
theorem apply_nil {l : List Value} {v : Value} [CellsI v l] [AllC l] [AtLen l 14] (h : E B H (K (I 1))) : E B H (CF Tryz.prog 23 [.pointer none, v] K) := by
  refine E_mono (W := s23 _ _ K) ?_ fun _ => c23
  unfold s23
  refine E_box (vs := l) fun b3 => ?_
  (repeat first | refine gS ?_ | refine gA fun _ => ?_ | refine gX fun _ _ => ?_ | refine gT ?_ | refine gF ?_ | refine gI ?_)
  refine check_nil ?_
  (repeat first | refine gS ?_ | refine gA fun _ => ?_ | refine gX fun _ _ => ?_ | refine gT ?_ | refine gF ?_ | refine gI ?_)
  exact sm h
end Go.Proofs.YtjafpncngmbcdaaGreat.Nam
