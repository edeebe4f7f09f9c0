/-
  Names: Shots; Files.
-/
import Derived.Test.YtjafpncngmbcdaaGreatNmV
set_option linter.unusedSimpArgs false
set_option linter.unusedVariables false
set_option linter.unusedSectionVars false
namespace Go.Proofs.YtjafpncngmbcdaaGreat.Nam
open Go Go.SL Go.Proofs Go.Proofs.YtjafpncngmbcdaaGreat.Sh
variable {B : World} {H : List Asrt} {K : Value → WT} {W : WT} {a : Nat} {M : Bk} {f : Fa}
/-- Snapshots that lie in a slice. -/
abbrev SC := Sn × Cv
def shC (p : SC) : List Value := [str p.1.name, I p.1.time, p.2.1]
instance : Enc shC 3 := ⟨fun _ => rfl, fun p y hy => by
  simp [shC] at hy
  rcases hy with rfl | rfl | rfl
  all_goals first | rfl | exact p.2.2⟩
instance {v : SC} : AtLen (shC v) 3 := ⟨rfl⟩
instance {v : SC} : AllC (shC v) := ⟨fun y hy => Enc.cell (enc := shC) v y hy⟩
instance {v : SC} : AtI (shC v) 0 (str v.1.name) := ⟨rfl⟩
instance {v : SC} : AtI (shC v) 1 (I v.1.time) := ⟨rfl⟩
instance {v : SC} : AtI (shC v) 2 v.2.1 := ⟨rfl⟩
def ShOk (Lh : List (Value × List (List UInt8 × Int))) (L : List SC) (S : List Sn) : Prop := L.map (·.1) = S ∧ ∀ p ∈ L, (p.2.1, p.1.held) ∈ Lh
/-- Files that lie in a slice. -/
abbrev FC := List UInt8 × Cv
def fC (p : FC) : List Value := [str p.1, p.2.1]
instance : Enc fC 2 := ⟨fun _ => rfl, fun p y hy => by
  simp [fC] at hy
  rcases hy with rfl | rfl
  all_goals first | rfl | exact p.2.2⟩
instance {v : FC} : AtLen (fC v) 2 := ⟨rfl⟩
instance {v : FC} : AllC (fC v) := ⟨fun y hy => Enc.cell (enc := fC) v y hy⟩
instance {v : FC} : AtI (fC v) 0 (str v.1) := ⟨rfl⟩
instance {v : FC} : AtI (fC v) 1 v.2.1 := ⟨rfl⟩
def FsOk (Lv : List (Value × List VR)) (Lr : List (Value × List Rf)) (L : List FC) (V : List Ver) : Prop := L.map (·.1) = nms V ∧ ∀ p ∈ L, ∃ l, VOk Lv Lr p.2.1 l (fof V p.1)
theorem u_shotL : Tryz.prog.underlying 73 = some (.slice 90) := by kernel_rfl
theorem u_fileL : Tryz.prog.underlying 71 = some (.slice 86) := by kernel_rfl
theorem elt_shot : Elt Tryz.prog 90 3 48 [.string ⟨#[]⟩, I 0, nil] := elt_of (zv := .agg #[.string ⟨#[]⟩, I 0, nil]) (by kernel_rfl) rfl rfl
theorem elt_file : Elt Tryz.prog 86 2 40 [.string ⟨#[]⟩, nil] := elt_of (zv := .agg #[.string ⟨#[]⟩, nil]) (by kernel_rfl) rfl rfl
theorem str_file : Str Tryz.prog 86 [(0, 1), (1, 1)] [.string ⟨#[]⟩, nil] := str_of (zv := .agg #[.string ⟨#[]⟩, nil]) (by kernel_rfl) (by kernel_rfl) rfl
attribute [local irreducible] S.pick S.ld S.ldN S.st S.box S.nc S.fad S.ixS S.ixA S.chr S.prt S.ext S.bin S.sh S.sbin S.beq S.neg1 S.com1 S.not1 S.cvt S.str1 S.lenS S.len S.cap S.lenM S.mx S.mn S.mkM S.cond S.gd S.fa S.dr S.rck S.join S.loop S.cvv S.eqv S.slc S.slcS S.b2s S.lk V U CF Gives E cel mpb osl ros dct dit itr lpo dfo
set_option maxRecDepth 8000
attribute [local irreducible] bk
theorem sortedShots {o : Bool} {r : Nat} {kv : List (List UInt8 × Value)} {H' : List Asrt} [ht : TakD H kL o r kv H'] (hn : kv.length ≤ 1048576)
    (h : ∀ sv zs [CellI sv], zs.Perm (kv.map (·.1)) → E B (sls cS 9 1 sv (sortS zs) :: dct kL o r kv :: H') (K sv)) :
    E B H (CF Tryz.prog 88 [.map (some r)] fun v9 => CF Tryz.prog 87 [v9] K) := by
  refine E_find ht.pf ?_
  refine E_mono (W := s88 _ _) ?_ fun _ => c88
  unfold s88
  (first | refine gS ?_ | refine gA fun _ => ?_ | refine gX fun _ _ => ?_ | refine gT ?_ | refine gF ?_ | refine gI ?_)
  rename_i mb
  refine E_mono (W := s87 _ _) ?_ fun _ => c87
  unfold s87
  refine E_mono (W := s117 _ _) ?_ fun _ => c117
  unfold s117
  refine E_mono (W := s142 _ _ _) ?_ fun _ => c142
  unfold s142
  (first | refine gS ?_ | refine gA fun _ => ?_ | refine gX fun _ _ => ?_ | refine gT ?_ | refine gF ?_ | refine gI ?_)
  rename_i sb
  refine E_rf (by kernel_rfl) fun l dl L hY => ?_
  refine E_mono (W := s119 _ _ _) ?_ fun _ => c119
  unfold s119
  (repeat first | refine gS ?_ | refine gA fun _ => ?_ | refine gX fun _ _ => ?_ | refine gT ?_ | refine gF ?_ | refine gI ?_)
  refine E_drange (κ := List UInt8) u_shots fun it => ?_
  refine E_loop (σ := List (List UInt8 × Value) × Option (List UInt8 × Value) × List (List UInt8) × Value)
    (fun s => (s.2.2.1 ++ s.1.map (·.1)).Perm (kv.map (·.1)) ∧ isCell s.2.2.2 = true)
    (fun s => [.func (.yield l) #[] #[], .pointer (some ⟨it, 0, none⟩)])
    (fun s => dit kL o it r kv s.1 s.2.1 :: lpo l L .ready .nrm :: sls cS 9 1 s.2.2.2 s.2.2.1 :: cel true sb 94 [s.2.2.2] :: dfo dl :: cel true mb 79 [.map (some r)] :: H')
    (fun s => s.1.length) (kv, none, [], .slice none 0 0) (fun s => rfl) rfl ⟨by simp, rfl⟩ ?_ ?_
  · intro W hW
    refine sls_nil cS 1 (E_same (by repeat (first | exact Same.refl | (refine Same.cons (by repeat (first | exact Find.here | apply Find.there)) ?_) | (refine Same.drop ?_))) hW)
  · rintro ⟨rest, cur, zs, sv⟩ K ⟨hφ, hcl⟩ hk
    simp only at hφ hk hcl ⊢
    have : CellI sv := ⟨hcl⟩
    refine E_fa fun _ => ?_
    refine E_dnext (κ := List UInt8) (fun hr => ?_) (fun p rest' hp => ?_)
    · subst hr
      (repeat first | refine gS ?_ | refine gA fun _ => ?_ | refine gX fun _ _ => ?_ | refine gT ?_ | refine gF ?_ | refine gI ?_)
      refine fd (a := lpo l L .ready .nrm) (E_over (by simp) ?_)
      unfold aft
      (repeat first | refine gS ?_ | refine gA fun _ => ?_ | refine gX fun _ _ => ?_ | refine gT ?_ | refine gF ?_ | refine gI ?_)
      refine fd (a := dfo dl) (E_done1 ?_)
      refine fd (a := sls cS 9 1 sv zs) ?_
      have hz : zs.Perm (kv.map (·.1)) := by simpa using hφ
      have hl : zs.length = kv.length := by have := hz.length_eq; simpa using this
      refine E_sortS sortOkS (by omega) ?_
      refine fd (a := dit kL o it r kv [] none) (E_idone ?_)
      refine sm (h sv zs hz)
    · (repeat first | refine gS ?_ | refine gA fun _ => ?_ | refine gX fun _ _ => ?_ | refine gT ?_ | refine gF ?_ | refine gI ?_)
      refine E_dentry (κ := List UInt8) ?_
      (repeat first | refine gS ?_ | refine gA fun _ => ?_ | refine gX fun _ _ => ?_ | refine gT ?_ | refine gF ?_ | refine gI ?_)
      refine fd (a := lpo l L .ready .nrm) (hY _ _ _ rfl ?_)
      refine E_begun ?_
      (repeat first | refine gS ?_ | refine gA fun _ => ?_ | refine gX fun _ _ => ?_ | refine gT ?_ | refine gF ?_ | refine gI ?_)
      refine fd (a := sls cS 9 1 sv zs) ?_
      have hl : zs.length + rest.length = kv.length := by have := hφ.length_eq; simpa using this
      have hr : rest.length = rest'.length + 1 := by simpa using hp.length_eq
      refine E_sapp1 (enc := cS) p.1 u_strs elt_string rfl (by decide) (by omega) (by omega) fun v' _ => ?_
      (repeat first | refine gS ?_ | refine gA fun _ => ?_ | refine gX fun _ _ => ?_ | refine gT ?_ | refine gF ?_ | refine gI ?_)
      refine fd (a := lpo l L .busy .nrm) (E_ended ?_)
      refine E_notb ?_
      refine E_ff ?_
      show E _ _ (K _ _)
      have h1 := (hp.map (·.1)).append_left zs
      have hk' := hk (rest', some p, zs ++ [p.1], v') ⟨by simpa using h1.symm.trans hφ, CellI.pf⟩ (by simp [hr])
      simp only at hk'
      exact sm hk'

theorem shots (hw : Inv M) (h : ∀ v L Lo [CellI v], ShOk Lo L M.S → E B (sls shC 90 3 v L :: spool hC Lo :: bk a M :: H) (K v)) : E B (bk a M :: H) (CF Tryz.prog 37 [ptr a] K) := by
  have h16 := hw.s16
  refine E_mono (W := s37 _ K) ?_ fun _ => c37
  unfold s37
  refine E_peq u_pBook ?_
  refine E_ff ?_
  refine E_bk fun r1 r2 kf ks Lv Lr Lh hf hs => ?_
  refine fd (a := dct kL true r2 ks) (E_dnod fun hnod => ?_)
  have hkeys := sok_keys hs hnod hw.ss
  have hkl : ks.length = M.S.length := by have := hkeys.length_eq; simpa using this
  (repeat first | refine gS ?_ | refine gA fun _ => ?_ | refine gX fun _ _ => ?_ | refine gT ?_ | refine gF ?_ | refine gI ?_)
  refine sortedShots (by omega) fun sv zs _ hz => ?_
  rw [sortS_eq (hz.trans hkeys) (List.pairwise_map.2 hw.ss)]
  refine E_rslen (v := sv) (l := M.S.map fun s : Sn => s.name) (enc := cS) ?_
  rw [List.length_map]
  refine E_loop (n := 5) (σ := Nat × Value × List SC × List (Value × List (List UInt8 × Int))) (fun s => s.1 ≤ M.S.length ∧ isCell s.2.1 = true ∧ s.2.2.1.map (·.1) = M.S.take s.1 ∧ (∀ p ∈ s.2.2.1, (p.2.1, p.1.held) ∈ s.2.2.2))
    (fun s => [ptr a, s.2.1, sv, I M.S.length, I s.1]) (fun s => sls shC 90 3 s.2.1 s.2.2.1 :: spool hC s.2.2.2 :: sls cS 9 1 sv (M.S.map fun s : Sn => s.name) :: cel true a 81 [.map (some r1), .map (some r2), I M.now] :: dct kL true r1 kf :: dct kL true r2 ks :: spool vC Lv :: spool rfC Lr :: spool hC Lh :: H) (fun s => M.S.length - s.1) (0, nil, [], []) (fun _ => rfl) rfl ⟨Nat.zero_le _, rfl, rfl, by simp⟩
    (fun W hW => by
      refine sls_nil shC 3 (T := 90) ?_
      refine pool_new (slQ hC) ?_
      exact sm hW) ?_
  rintro ⟨i, ov, L, Lo⟩ K0 ⟨hi, hov, hL, hLo⟩ hk0
  simp only at hi hov hL hLo hk0 ⊢
  have : CellI ov := ⟨hov⟩
  have hLl : L.length = i := by have := congrArg List.length hL; simp at this; omega
  refine E_fa fun _ => ?_
  refine E_lss ?_
  refine E_if (fun hc1 => ?_) (fun hc1 => ?_)
  · have hx : M.S[i]? = some M.S[i] := List.getElem?_eq_getElem (by omega)
    have hxm := List.mem_of_getElem? hx
    generalize M.S[i] = x at hx hxm
    have hx' : (M.S.map fun s : Sn => s.name)[i]? = some x.name := by rw [List.getElem?_map, hx]; rfl
    refine E_rsix (v := sv) (l := M.S.map fun s : Sn => s.name) (enc := cS) hx' fun _ _ => ?_
    refine E_ptld ?_
    obtain ⟨s0, hv0, hrh, hlk, _, hst, _⟩ := sok_get hs x.name
    have := hst x (hw.su x hxm)
    subst this
    have ih := hrh B
    have hhl := hw.hh s0 hxm
    (repeat first | refine gS ?_ | refine gA fun _ => ?_ | refine gX fun _ _ => ?_ | refine gT ?_ | refine gF ?_ | refine gI ?_)
    refine E_dlkz hlk ?_
    refine E_box fun b7 => ?_
    refine E_stW (vs := [str s0.name, I s0.time, hv0.1]) rfl rfl ?_
    (repeat first | refine gS ?_ | refine gA fun _ => ?_ | refine gX fun _ _ => ?_ | refine gT ?_ | refine gF ?_ | refine gI ?_)
    refine fd (a := spool hC Lh) ?_
    refine cloneH (v := hv0.1) (l := s0.held) (by omega) fun v' _ => ?_
    (repeat first | refine gS ?_ | refine gA fun _ => ?_ | refine gX fun _ _ => ?_ | refine gT ?_ | refine gF ?_ | refine gI ?_)
    refine fd (a := sls shC 90 3 ov L) ?_
    refine E_sapp1 (enc := shC) ((s0, ⟨v', CellI.pf⟩) : SC) u_shotL elt_shot rfl (by decide) (by omega) (by omega) fun ov' _ => ?_
    refine E_addI (by omega) (by omega) ?_
    refine fd (a := spool hC Lo) ?_
    refine fd (a := sls hC 53 2 v' s0.held) ?_
    refine E_give ?_
    refine sm (hk0 (i + 1, ov', L ++ [((s0, ⟨v', CellI.pf⟩) : SC)], (v', s0.held) :: Lo) ⟨by simp only; omega, CellI.pf, by simp only; rw [List.map_append, hL, List.take_add_one, hx]; rfl, fun p hp => ?_⟩ (by simp only; omega))
    rcases List.mem_append.1 hp with hp | hp
    · exact List.mem_cons_of_mem _ (hLo p hp)
    · simp only [List.mem_singleton] at hp
      subst hp
      exact List.mem_cons_self
  · have hie : i = M.S.length := by omega
    rw [hie, List.take_length] at hL
    refine sm (G := cel true a 81 [.map (some r1), .map (some r2), I M.now] :: dct kL true r1 kf :: dct kL true r2 ks :: spool vC Lv :: spool rfC Lr :: spool hC Lh :: sls shC 90 3 ov L :: spool hC Lo :: H) ?_
    refine E_bkS r1 r2 hf hs rfl ?_
    exact sm (h ov L Lo ⟨hL, hLo⟩)
theorem shots_nil (h : E B H (K nil)) : E B H (CF Tryz.prog 37 [.pointer none] K) := by
  refine E_mono (W := s37 _ K) ?_ fun _ => c37
  unfold s37
  refine E_peq0 u_pBook ?_
  refine E_tt ?_
  exact h
noncomputable def tail86 [Amb] (v2'2 v_4'2 : Value) (K : Value → WT) : WT :=
 S.ld v2'2 fun v25 =>
 S.ld v2'2 fun v26 =>
 S.len v26 fun v27 =>
 S.bin .sub v27 (SL.I 1) fun v28 =>
 S.ixS 2 v25 v28 fun v29 =>
 S.dr <|
 S.nc v29 fun v32 =>
 S.fad v32 1 fun v33 =>
 S.ld v33 fun v34 =>
 S.ldN 4 v_4'2 fun v35 =>
 CF Tryz.prog 42 [v35] fun v36 =>
 S.rck [S.ld v33 (fun v' _ => v' = v34)] <|
 V Tryz.prog (Instr.buildSlice 63 1 #[(0, v36)]) fun v37 =>
 S.rck [S.ld v33 (fun v' _ => v' = v34)] <|
 V Tryz.prog (Builtin.append_ #[63, 63] 63 #[v34, v37]) fun v38 =>
 S.nc v29 fun v39 =>
 S.fad v39 1 fun v40 =>
 S.st 1 v40 v38 fun _ =>
 K (.tuple #[])
theorem told2 {ob b4 : Nat} {ov cv : Value} {L : List FC} {k : List UInt8} {cl : List VR} {x : VR} [CellI ov] [hcv : CellI cv] [hr : ∀ G, Rs B (G ++ H) x.2.1 rfC x.1.refs] (hn : cl.length ≤ 1000) (hL : L.length ≤ 1000) (hrn : x.1.refs.length ≤ 1000000)
    (h : ∀ cv' rv [hcv' : CellI cv'] [hrv : CellI rv], E B (cel true ob 71 [ov] :: sls fC 86 2 ov (L ++ [(k, ⟨cv', hcv'.pf⟩)]) :: sls vC 31 4 cv' (cl ++ [(x.1, ⟨rv, hrv.pf⟩)]) :: sls rfC 38 35 rv x.1.refs :: H) (K (.tuple #[]))) :
    E B (cel true b4 31 (vC x) :: cel true ob 71 [ov] :: sls fC 86 2 ov (L ++ [(k, ⟨cv, hcv.pf⟩)]) :: sls vC 31 4 cv cl :: H) (tail86 (ptr ob) (ptr b4) K) := by
  unfold tail86
  (repeat refine gS ?_)
  refine E_subI (by simp) (by simp; omega) ?_
  rw [show ((L ++ [((k, ⟨cv, hcv.pf⟩) : FC)]).length : Int) - 1 = (L.length : Int) by simp]
  refine fd (a := sls fC 86 2 ov (L ++ [(k, ⟨cv, hcv.pf⟩)])) ?_
  refine E_oslo (by simp) fun b cap spare hv hle hxl hsl => ?_
  have hld : ((L ++ [((k, ⟨cv, hcv.pf⟩) : FC)]).flatMap fC ++ spare)[0 + L.length * 2 + 1]? = some cv := by
    rw [List.flatMap_append, List.append_assoc, List.getElem?_append_right (by rw [enc_length]; omega), enc_length, show 0 + L.length * 2 + 1 - L.length * 2 = 1 by omega]
    rfl
  subst hv
  refine E_ixN (by simp) ?_
  refine E_dr ?_
  (repeat refine gS ?_)
  refine E_ld' hld ?_
  (repeat refine gS ?_)
  refine copied (hv := rs_midA [] [_, _, _, _] hr) (by omega) fun rv hrv => ?_
  refine E_rck1 (E_ld' hld (E_fact rfl)) (E_rck0 ?_)
  refine fd (a := sls vC 31 4 cv cl) ?_
  refine E_sapp1R (enc := vC) ((x.1, ⟨rv, hrv.pf⟩) : VR) u_vers elt_ver rfl (by decide) (by omega) (by omega) (fun b' W hW => E_rck1 (E_ld' hld (E_fact rfl)) (E_rck0 hW)) fun cv' hcv' => ?_
  (repeat refine gS ?_)
  have hset := enc_set1 (enc := fC) (l := L ++ [((k, ⟨cv, hcv.pf⟩) : FC)]) (i := L.length) (o := 1) (x := (k, ⟨cv, hcv.pf⟩)) (x' := ((k, ⟨cv', hcv'.pf⟩) : FC)) (u := cv') spare (by simp) (by decide) rfl
  refine fd (a := cel true b 86 ((L ++ [((k, ⟨cv, hcv.pf⟩) : FC)]).flatMap fC ++ spare)) ?_
  refine E_st' (hf := takC_here) (by rw [List.length_append, enc_length]; simp; omega) ?_
  rw [Nat.zero_add, hset, show (L ++ [((k, ⟨cv, hcv.pf⟩) : FC)]).set L.length (k, ⟨cv', hcv'.pf⟩) = L ++ [(k, ⟨cv', hcv'.pf⟩)] by simp]
  refine E_osls (n := (L ++ [((k, ⟨cv, hcv.pf⟩) : FC)]).length) (cap := cap) (sz := 2) hle (by rw [enc_length]; simp) hsl ?_
  have h' := h cv' rv
  unfold sls at h' ⊢
  simp only [List.length_append, List.length_singleton] at h' ⊢
  exact sm h'
/-- A generation told behind the last file. -/
theorem told {ob : Nat} {ov cv : Value} {L : List FC} {k : List UInt8} {cl : List VR} {x : VR} [CellI ov] [hcv : CellI cv] [hr : ∀ G, Rs B (G ++ H) x.2.1 rfC x.1.refs] (hn : cl.length ≤ 1000) (hL : L.length ≤ 1000) (hrn : x.1.refs.length ≤ 1000000)
    (h : ∀ cv' rv [hcv' : CellI cv'] [hrv : CellI rv], E B (cel true ob 71 [ov] :: sls fC 86 2 ov (L ++ [(k, ⟨cv', hcv'.pf⟩)]) :: sls vC 31 4 cv' (cl ++ [(x.1, ⟨rv, hrv.pf⟩)]) :: sls rfC 38 35 rv x.1.refs :: H) (K (.tuple #[]))) :
    E B (cel true ob 71 [ov] :: sls fC 86 2 ov (L ++ [(k, ⟨cv, hcv.pf⟩)]) :: sls vC 31 4 cv cl :: H) (CF Tryz.prog 86 [str k, .agg (vC x).toArray, ptr ob] K) := by
  refine E_mono (W := s86 _ _ _ K) ?_ fun _ => c86
  unfold s86
  refine E_box (vs := vC x) fun b4 => ?_
  have hlast : (L ++ [((k, ⟨cv, hcv.pf⟩) : FC)])[L.length]? = some (k, ⟨cv, hcv.pf⟩) := by simp
  refine E_join1 [ptr ob, ptr b4] (cel true b4 31 (vC x) :: cel true ob 71 [ov] :: sls fC 86 2 ov (L ++ [(k, ⟨cv, hcv.pf⟩)]) :: sls vC 31 4 cv cl :: H) (fun q hq => ?_) ?_
  · refine E_join1 [str k, ptr ob, ptr b4, .bool false] (cel true b4 31 (vC x) :: cel true ob 71 [ov] :: sls fC 86 2 ov (L ++ [(k, ⟨cv, hcv.pf⟩)]) :: sls vC 31 4 cv cl :: H) (fun q2 hq2 => ?_) ?_
    · (repeat first | refine gS ?_ | refine gA fun _ => ?_ | refine gX fun _ _ => ?_ | refine gT ?_ | refine gF ?_ | refine gI ?_)
      have hne : ¬ ((L ++ [((k, ⟨cv, hcv.pf⟩) : FC)]).length : Int) = 0 := by simp; omega
      rw [decide_eq_false hne]
      (repeat first | refine gS ?_ | refine gA fun _ => ?_ | refine gX fun _ _ => ?_ | refine gT ?_ | refine gF ?_ | refine gI ?_)
      try refine E_gft ?_
      refine E_subI (by simp) (by simp; omega) ?_
      rw [show ((L ++ [((k, ⟨cv, hcv.pf⟩) : FC)]).length : Int) - 1 = (L.length : Int) by simp]
      refine E_gft ?_
      refine E_rsix (v := ov) (l := L ++ [(k, ⟨cv, hcv.pf⟩)]) hlast fun _ _ => ?_
      (repeat first | refine gS ?_ | refine gA fun _ => ?_ | refine gX fun _ _ => ?_ | refine gT ?_ | refine gF ?_ | refine gI ?_)
      have e : decide (k ≠ k) = false := by simp
      try rw [e]
      (repeat first | refine gS ?_ | refine gA fun _ => ?_ | refine gX fun _ _ => ?_ | refine gT ?_ | refine gF ?_ | refine gI ?_)
      exact sm hq2
    · refine E_fa fun _ => ?_
      refine E_ff ?_
      exact hq
  refine E_fa fun _ => ?_
  show E B _ (tail86 (ptr ob) (ptr b4) K)
  exact told2 hn hL hrn h
theorem told0 {ob : Nat} {ov : Value} {L : List FC} {k : List UInt8} {x : VR} [hov : CellI ov] [hr : ∀ G, Rs B (G ++ H) x.2.1 rfC x.1.refs] (hL : L.length ≤ 1000) (hrn : x.1.refs.length ≤ 1000000) (hne : ∀ p ∈ L, p.1 ≠ k)
    (h : ∀ ov' cv' rv [CellI ov'] [hcv : CellI cv'] [hrv : CellI rv], E B (cel true ob 71 [ov'] :: sls fC 86 2 ov' (L ++ [(k, ⟨cv', hcv.pf⟩)]) :: sls vC 31 4 cv' [(x.1, ⟨rv, hrv.pf⟩)] :: sls rfC 38 35 rv x.1.refs :: H) (K (.tuple #[]))) :
    E B (cel true ob 71 [ov] :: sls fC 86 2 ov L :: H) (CF Tryz.prog 86 [str k, .agg (vC x).toArray, ptr ob] K) := by
  refine E_mono (W := s86 _ _ _ K) ?_ fun _ => c86
  unfold s86
  refine E_box (vs := vC x) fun b4 => ?_
  refine E_joinC (σ := Cv) (fun _ => True) (fun _ => [ptr ob, ptr b4]) (fun ov' => cel true b4 31 (vC x) :: cel true ob 71 [ov'.1] :: sls fC 86 2 ov'.1 (L ++ [(k, ⟨nil, rfl⟩)]) :: sls vC 31 4 nil [] :: H) (fun q hq => ?_) (fun ov' _ => ?_)
  · refine E_join1 [str k, ptr ob, ptr b4, .bool true] (cel true b4 31 (vC x) :: cel true ob 71 [ov] :: sls fC 86 2 ov L :: H) (fun q2 hq2 => ?_) ?_
    · (repeat first | refine gS ?_ | refine gA fun _ => ?_ | refine gX fun _ _ => ?_ | refine gT ?_ | refine gF ?_ | refine gI ?_)
      by_cases hl0 : L = []
      · subst hl0
        (repeat first | refine gS ?_ | refine gA fun _ => ?_ | refine gX fun _ _ => ?_ | refine gT ?_ | refine gF ?_ | refine gI ?_)
        exact sm hq2
      · have hpos : 0 < L.length := List.length_pos_iff.2 hl0
        have hne0 : ¬ (L.length : Int) = 0 := by omega
        rw [decide_eq_false hne0]
        (repeat first | refine gS ?_ | refine gA fun _ => ?_ | refine gX fun _ _ => ?_ | refine gT ?_ | refine gF ?_ | refine gI ?_)
        try refine E_gft ?_
        rw [show (L.length : Int) - 1 = ((L.length - 1 : Nat) : Int) by omega]
        have hlast : L[L.length - 1]? = some L[L.length - 1] := List.getElem?_eq_getElem (by omega)
        have hnk := hne _ (List.mem_of_getElem? hlast)
        generalize L[L.length - 1] = p at hlast hnk
        refine E_rsix (v := ov) (l := L) hlast fun _ _ => ?_
        (repeat first | refine gS ?_ | refine gA fun _ => ?_ | refine gX fun _ _ => ?_ | refine gT ?_ | refine gF ?_ | refine gI ?_)
        rw [decide_eq_true hnk]
        (repeat first | refine gS ?_ | refine gA fun _ => ?_ | refine gX fun _ _ => ?_ | refine gT ?_ | refine gF ?_ | refine gI ?_)
        exact sm hq2
    · refine E_fa fun _ => ?_
      refine E_tt ?_
      (repeat first | refine gS ?_ | refine gA fun _ => ?_ | refine gX fun _ _ => ?_ | refine gT ?_ | refine gF ?_ | refine gI ?_)
      refine E_build (l := [str k, nil]) str_file ?_
      refine fd (a := sls fC 86 2 ov L) ?_
      refine E_sapp1 (enc := fC) ((k, ⟨nil, rfl⟩) : FC) u_fileL elt_file rfl (by decide) (by omega) (by omega) fun ov' hov' => ?_
      (repeat first | refine gS ?_ | refine gA fun _ => ?_ | refine gX fun _ _ => ?_ | refine gT ?_ | refine gF ?_ | refine gI ?_)
      refine sls_nil vC 4 (T := 31) ?_
      exact sm (hq ⟨ov', hov'.pf⟩ trivial)
  refine E_fa fun _ => ?_
  show E B _ (tail86 (ptr ob) (ptr b4) K)
  have hcn : CellI nil := ⟨rfl⟩
  exact told2 (cv := nil) (cl := []) (by simp) hL hrn fun cv' rv hcv' hrv => h ov'.1 cv' rv
theorem files (hw : Inv M) (h : ∀ v L Lv Lr [CellI v], FsOk Lv Lr L M.V → E B (sls fC 86 2 v L :: spool vC Lv :: spool rfC Lr :: bk a M :: H) (K v)) : E B (bk a M :: H) (CF Tryz.prog 36 [ptr a] K) := by
  have hnl := hw.nl
  have hfl := hw.fl
  refine E_mono (W := s36 _ K) ?_ fun _ => c36
  unfold s36
  refine E_box (vs := [nil]) fun ob => ?_
  refine E_mono (W := s61 _ _ _) ?_ fun _ => c61
  unfold s61
  refine fd (a := bk a M) (order hw.v.n (by have := hw.n; omega) fun nv _ => ?_)
  refine E_rslen (v := nv) (l := nms M.V) ?_
  refine E_loop (n := 5) (σ := Nat × Cv × List FC × List (Value × List VR) × List (Value × List Rf)) (fun s => s.1 ≤ (nms M.V).length ∧ s.2.2.1.map (·.1) = (nms M.V).take s.1 ∧ (∀ p ∈ s.2.2.1, ∃ l, VOk s.2.2.2.1 s.2.2.2.2 p.2.1 l (fof M.V p.1)))
    (fun s => [ptr a, .func (.func 86) #[] #[ptr ob], nv, I (nms M.V).length, I s.1]) (fun s => cel true ob 71 [s.2.1.1] :: sls fC 86 2 s.2.1.1 s.2.2.1 :: spool vC s.2.2.2.1 :: spool rfC s.2.2.2.2 :: sls cS 9 1 nv (nms M.V) :: bk a M :: H) (fun s => (nms M.V).length - s.1) (0, ⟨nil, rfl⟩, [], [], []) (fun _ => rfl) rfl ⟨Nat.zero_le _, rfl, by simp⟩
    (fun W hW => by
      refine sls_nil fC 2 (T := 86) ?_
      refine pool_new (slQ vC) ?_
      refine pool_new (slQ rfC) ?_
      exact sm hW) ?_
  rintro ⟨i, ov, L, Pv, Pr⟩ K0 ⟨hi, hL, hLo⟩ hk0
  simp only at hi hL hLo hk0 ⊢
  have hLl : L.length = i := by have := congrArg List.length hL; simp at this; omega
  refine E_fa fun _ => ?_
  refine E_lss ?_
  refine E_if (fun hc1 => ?_) (fun hc1 => ?_)
  · have hx : (nms M.V)[i]? = some (nms M.V)[i] := List.getElem?_eq_getElem (by omega)
    have hnd := nms_lt hw.v.n
    have hnk : (nms M.V)[i] ∉ (nms M.V).take i := fun hmem => by
      obtain ⟨j, hj, e⟩ := List.mem_take_iff_getElem.1 hmem
      have := List.pairwise_iff_getElem.1 hnd j i (by omega) (by omega) (by omega)
      exact slt_ne this e
    generalize (nms M.V)[i] = k at hx hnk
    have hkne := fof_some (List.mem_of_getElem? hx)
    have hnL : ∀ p ∈ L, p.1 ≠ k := fun p hp e => hnk (by rw [← hL, ← e]; exact List.mem_map_of_mem hp)
    have hfk := hfl k
    refine E_rsix (v := nv) (l := nms M.V) hx fun _ _ => ?_
    refine E_ptld ?_
    refine fd (a := bk a M) (E_bk fun r1 r2 kf ks Lv Lr Lh hf hs => ?_)
    obtain ⟨v, l, hrv, hle, hlr, hlk⟩ := fok_get hf k
    have i1 := hrv B
    have hll : l.length = (fof M.V k).length := by rw [← hle, List.length_map]
    (repeat first | refine gS ?_ | refine gA fun _ => ?_)
    refine E_dlkg hlk ?_
    refine E_rslen (v := v) (l := l) ?_
    refine E_loop (n := 9) (σ := Nat × Cv × List FC × Cv × List VR × List (Value × List Rf)) (fun s => s.1 ≤ l.length ∧ s.2.2.1 = (if s.1 = 0 then L else L ++ [(k, s.2.2.2.1)]) ∧ s.2.2.2.2.1.map (·.1) = (l.take s.1).map (·.1) ∧ (∀ p ∈ s.2.2.2.2.1, (p.2.1, p.1.refs) ∈ s.2.2.2.2.2) ∧ (∀ p ∈ Pr, p ∈ s.2.2.2.2.2) ∧ (s.1 = 0 → s.2.2.2.1 = ⟨nil, rfl⟩))
      (fun s => [ptr a, .func (.func 86) #[] #[ptr ob], str k, nv, I (nms M.V).length, I i, v, I l.length, I s.1])
      (fun s => cel true ob 71 [s.2.1.1] :: sls fC 86 2 s.2.1.1 s.2.2.1 :: sls vC 31 4 s.2.2.2.1.1 s.2.2.2.2.1 :: spool rfC s.2.2.2.2.2 :: spool vC Pv :: sls cS 9 1 nv (nms M.V) :: cel true a 81 [.map (some r1), .map (some r2), I M.now] :: dct kL true r1 kf :: dct kL true r2 ks :: spool vC Lv :: spool rfC Lr :: spool hC Lh :: H) (fun s => l.length - s.1) (0, ov, L, ⟨nil, rfl⟩, [], Pr) (fun _ => rfl) rfl ⟨Nat.zero_le _, rfl, rfl, by simp, fun p hp => hp, fun _ => rfl⟩
      (fun W hW => by
        refine sls_nil vC 4 (T := 31) ?_
        exact sm hW) ?_
    rintro ⟨j, ou, L', cv, cl, Qr⟩ K1 ⟨hj, hL', hcl, hcr, hPQ, hj0⟩ hk1
    simp only at hj hL' hcl hcr hPQ hj0 hk1 ⊢
    have hcll : cl.length = j := by have := congrArg List.length hcl; simp at this; omega
    refine E_fa fun _ => ?_
    refine E_lss ?_
    refine E_if (fun hc2 => ?_) (fun hc2 => ?_)
    · have hy : l[j]? = some l[j] := List.getElem?_eq_getElem (by omega)
      have hym := hlr _ (List.mem_of_getElem? hy)
      have hyV : (l[j]).1 ∈ M.V := (fof_mem.1 (hle ▸ List.mem_map_of_mem (List.getElem_mem _))).1
      generalize l[j] = x at hy hym hyV
      have hrl := hw.r _ hyV
      have htk : (l.take (j + 1)).map (·.1) = (l.take j).map (·.1) ++ [x.1] := by rw [List.take_add_one, hy, List.map_append]; rfl
      refine E_rsix (v := v) (l := l) hy fun _ _ => ?_
      refine E_ptldA ?_
      refine E_box fun b7 => ?_
      refine E_stW (vs := vC x) rfl rfl ?_
      (repeat first | refine gS ?_ | refine gA fun _ => ?_)
      refine E_cvv (by kernel_rfl) ?_
      show E B _ (CF Tryz.prog 86 [str k, .agg (vC x).toArray, ptr ob] _)
      have rp := rs_pool (B := B) (enc := rfC) hym
      have hrx : ∀ G, Rs B (G ++ (spool rfC Lr :: spool rfC Qr :: spool vC Pv :: sls cS 9 1 nv (nms M.V) :: cel true b7 31 (vC x) :: cel true a 81 [.map (some r1), .map (some r2), I M.now] :: dct kL true r1 kf :: dct kL true r2 ks :: spool vC Lv :: spool hC Lh :: H)) x.2.1 rfC x.1.refs := fun G => rs_app G (rp _)
      by_cases hj1 : j = 0
      · subst hj1
        rw [if_pos rfl] at hL'
        rw [hL']
        clear hL'
        have hcl0 : cl = [] := List.length_eq_zero_iff.1 hcll
        subst hcl0
        refine sm (G := cel true ob 71 [ou.1] :: sls fC 86 2 ou.1 L :: spool rfC Lr :: spool rfC Qr :: spool vC Pv :: sls cS 9 1 nv (nms M.V) :: cel true b7 31 (vC x) :: cel true a 81 [.map (some r1), .map (some r2), I M.now] :: dct kL true r1 kf :: dct kL true r2 ks :: spool vC Lv :: spool hC Lh :: H) ?_
        refine told0 (by omega) (by omega) hnL fun ov' cv' rv hov' hcv' hrv' => ?_
        refine E_addI (by omega) (by omega) ?_
        refine fd (a := spool rfC Qr) ?_
        refine fd (a := sls rfC 38 35 rv x.1.refs) ?_
        refine E_give ?_
        refine sm (hk1 (1, ⟨ov', hov'.pf⟩, L ++ [(k, ⟨cv', hcv'.pf⟩)], ⟨cv', hcv'.pf⟩, [(x.1, ⟨rv, hrv'.pf⟩)], (rv, x.1.refs) :: Qr) ⟨by simp only; omega, rfl, ?_, ?_, fun p hp => List.mem_cons_of_mem _ (hPQ p hp), fun e => by cases e⟩ (by simp only; omega))
        · simp only; rw [htk]; rfl
        · intro p hp
          simp only [List.mem_singleton] at hp
          subst hp
          exact List.mem_cons_self
      · rw [if_neg hj1] at hL'
        subst hL'
        refine sm (G := cel true ob 71 [ou.1] :: sls fC 86 2 ou.1 (L ++ [(k, cv)]) :: sls vC 31 4 cv.1 cl :: spool rfC Lr :: spool rfC Qr :: spool vC Pv :: sls cS 9 1 nv (nms M.V) :: cel true b7 31 (vC x) :: cel true a 81 [.map (some r1), .map (some r2), I M.now] :: dct kL true r1 kf :: dct kL true r2 ks :: spool vC Lv :: spool hC Lh :: H) ?_
        refine told (cv := cv.1) (by omega) (by omega) (by omega) fun cv' rv hcv' hrv' => ?_
        refine E_addI (by omega) (by omega) ?_
        refine fd (a := spool rfC Qr) ?_
        refine fd (a := sls rfC 38 35 rv x.1.refs) ?_
        refine E_give ?_
        refine sm (hk1 (j + 1, ou, L ++ [(k, ⟨cv', hcv'.pf⟩)], ⟨cv', hcv'.pf⟩, cl ++ [(x.1, ⟨rv, hrv'.pf⟩)], (rv, x.1.refs) :: Qr) ⟨by simp only; omega, by simp, ?_, ?_, fun p hp => List.mem_cons_of_mem _ (hPQ p hp), fun e => by cases e⟩ (by simp only; omega))
        · simp only; rw [htk, List.map_append, hcl]; rfl
        · intro p hp
          rcases List.mem_append.1 hp with hp | hp
          · exact List.mem_cons_of_mem _ (hcr p hp)
          · simp only [List.mem_singleton] at hp
            subst hp
            exact List.mem_cons_self
    · have hje : j = l.length := by omega
      have hj1 : j ≠ 0 := fun e => by
        have : (fof M.V k).length = 0 := by omega
        exact hkne (List.length_eq_zero_iff.1 this)
      rw [if_neg hj1] at hL'
      subst hL'
      rw [hje, List.take_length, hle] at hcl
      refine E_addI (by omega) (by omega) ?_
      refine fd (a := spool vC Pv) ?_
      refine fd (a := sls vC 31 4 cv.1 cl) ?_
      refine E_give ?_
      refine sm (G := cel true a 81 [.map (some r1), .map (some r2), I M.now] :: dct kL true r1 kf :: dct kL true r2 ks :: spool vC Lv :: spool rfC Lr :: spool hC Lh :: cel true ob 71 [ou.1] :: sls fC 86 2 ou.1 (L ++ [(k, cv)]) :: spool vC ((cv.1, cl) :: Pv) :: spool rfC Qr :: sls cS 9 1 nv (nms M.V) :: H) ?_
      refine E_bkS r1 r2 hf hs rfl ?_
      refine sm (hk0 (i + 1, ou, L ++ [(k, cv)], (cv.1, cl) :: Pv, Qr) ⟨by simp only; omega, by simp only; rw [List.map_append, hL, List.take_add_one, hx]; rfl, fun p hp => ?_⟩ (by simp only; omega))
      rcases List.mem_append.1 hp with hp | hp
      · obtain ⟨l', hl'⟩ := hLo p hp
        exact ⟨l', hl'.mono (fun _ h => List.mem_cons_of_mem _ h) hPQ⟩
      · simp only [List.mem_singleton] at hp
        subst hp
        exact ⟨cl, by simp, hcl, hcr⟩
  · have hie : i = (nms M.V).length := by omega
    rw [hie, List.take_length] at hL
    have : CellI ov.1 := ⟨ov.2⟩
    (repeat first | refine gS ?_ | refine gA fun _ => ?_ | refine gX fun _ _ => ?_ | refine gT ?_ | refine gF ?_ | refine gI ?_)
    exact sm (h ov.1 L Pv Pr ⟨hL, hLo⟩)
theorem all_nil {fv : Value} (h : E B H (K (.tuple #[]))) : E B H (CF Tryz.prog 61 [.pointer none, fv] K) := by
  refine E_mono (W := s61 _ _ K) ?_ fun _ => c61
  unfold s61
  refine order_nil ?_
  (repeat first | refine gS ?_ | refine gA fun _ => ?_ | refine gX fun _ _ => ?_ | refine gT ?_ | refine gF ?_ | refine gI ?_)
  refine E_loop (n := 5) (σ := Unit) (fun _ => True) (fun _ => [.pointer none, fv, nil, I 0, I 0]) (fun _ => H) (fun _ => 0) () (fun _ => rfl) rfl trivial (fun W hW => hW) ?_
  rintro _ K0 _ hk0
  refine E_fa fun _ => ?_
  refine E_lss ?_
  refine E_ifF (by omega) ?_
  exact h
theorem files_nil (h : E B H (K nil)) : E B H (CF Tryz.prog 36 [.pointer none] K) := by
  refine E_mono (W := s36 _ K) ?_ fun _ => c36
  unfold s36
  refine E_box (vs := [nil]) fun ob => ?_
  refine all_nil ?_
  (repeat first | refine gS ?_ | refine gA fun _ => ?_ | refine gX fun _ _ => ?_ | refine gT ?_ | refine gF ?_ | refine gI ?_)
  exact sm h
end Go.Proofs.YtjafpncngmbcdaaGreat.Nam
