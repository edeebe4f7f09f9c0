/-
  Names: chunks of all files that lie elsewhere; a generation copied.
-/
import Derived.Test.YtjafpncngmbcdaaGreatNmQ
set_option linter.unusedSimpArgs false
set_option linter.unusedVariables false
set_option linter.unusedSectionVars false
namespace Go.Proofs.YtjafpncngmbcdaaGreat.Nam
open Go Go.SL Go.Proofs Go.Proofs.YtjafpncngmbcdaaGreat.Sh
variable {B : World} {H : List Asrt} {K : Value → WT} {W : WT} {a : Nat} {M : Bk} {f : Fa}
/-- Moved as far as some names go. -/
def mvS (ms : List Mv) (ns : List (List UInt8)) (V : List Ver) : List Ver := V.map fun v => if v.name ∈ ns then moveV ms v else v
theorem fof_mvS (ms : List Mv) (ns : List (List UInt8)) (V : List Ver) (k : List UInt8) : fof (mvS ms ns V) k = if k ∈ ns then (fof V k).map (moveV ms) else fof V k := by
  unfold mvS fof
  rw [List.filter_map]
  have e : ((fun v : Ver => decide (v.name = k)) ∘ fun v : Ver => if v.name ∈ ns then moveV ms v else v) = fun v : Ver => decide (v.name = k) := by
    funext v
    show decide ((if v.name ∈ ns then moveV ms v else v).name = k) = decide (v.name = k)
    split <;> rfl
  rw [e]
  split
  · rename_i h
    refine List.map_congr_left fun v hv => ?_
    rw [if_pos]
    rw [show v.name = k by simpa using (List.mem_filter.1 hv).2]; exact h
  · rename_i h
    rw [List.map_congr_left (g := id), List.map_id]
    intro v hv
    rw [if_neg]; rfl
    rw [show v.name = k by simpa using (List.mem_filter.1 hv).2]; exact h
theorem mvS_nil (ms : List Mv) (V : List Ver) : mvS ms [] V = V := by simp [mvS]
theorem mvS_all (ms : List Mv) (V : List Ver) (hs : SrtN V) : mvS ms (nms V) V = V.map (moveV ms) := by
  refine List.map_congr_left fun v hv => if_pos ?_
  refine Classical.byContradiction fun hn => ?_
  have := fof_none hn
  have h2 : v ∈ fof V v.name := fof_mem.2 ⟨hv, rfl⟩
  rw [this] at h2; cases h2
theorem vC_refs (x : VR) (V : Ver) (v : Cv) (h1 : V.gen = x.1.gen) (h2 : V.time = x.1.time) (h3 : V.gone = x.1.gone) : vC (V, v) = (vC x).set 2 v.1 := by
  simp [vC, h1, h2, h3]
attribute [local irreducible] S.pick S.ld S.ldN S.st S.box S.nc S.fad S.ixS S.ixA S.chr S.prt S.ext S.bin S.sh S.sbin S.beq S.neg1 S.com1 S.not1 S.cvt S.str1 S.lenS S.len S.cap S.lenM S.mx S.mn S.mkM S.cond S.gd S.fa S.dr S.rck S.join S.loop S.cvv S.eqv S.slc S.slcS S.b2s S.lk V U CF Gives E cel mpb osl ros dct dit itr lpo dfo
set_option maxRecDepth 8000
attribute [local irreducible] bk
theorem moved {mv : Value} {ms : List Mv} [CellI mv] [hm : ∀ H', Rs B (H' ++ H) mv mvC ms] (hw : Inv M) (hmn : ms.length ≤ 140737488355328)
    (h : E B (bk a { M with V := M.V.map (moveV ms) } :: H) (K (.tuple #[]))) : E B (bk a M :: H) (CF Tryz.prog 60 [ptr a, mv] K) := by
  have hnl := hw.nl
  refine E_mono (W := s60 _ _ K) ?_ fun _ => c60
  unfold s60
  refine order hw.v.n (by have := hw.n; omega) fun nv _ => ?_
  refine E_rslen (v := nv) (l := nms M.V) ?_
  refine E_loop (n := 5) (σ := Nat) (fun i => i ≤ (nms M.V).length) (fun i => [ptr a, mv, nv, I (nms M.V).length, I i]) (fun i => bk a { M with V := mvS ms ((nms M.V).take i) M.V } :: sls cS 9 1 nv (nms M.V) :: H) (fun i => (nms M.V).length - i) 0 (fun _ => rfl) rfl (Nat.zero_le _)
    (fun W hW => by
      simp only [List.take_zero, mvS_nil] at hW
      exact sm hW) ?_
  rintro i K0 hi hk
  refine E_fa fun _ => ?_
  refine E_lss ?_
  refine E_if (fun hc => ?_) (fun hc => ?_)
  · have hx : (nms M.V)[i]? = some (nms M.V)[i] := List.getElem?_eq_getElem (by omega)
    have hnd := nms_lt hw.v.n
    have hnk : (nms M.V)[i] ∉ (nms M.V).take i := fun hmem => by
      obtain ⟨j, hj, e⟩ := List.mem_take_iff_getElem.1 hmem
      have := List.pairwise_iff_getElem.1 hnd j i (by omega) (by omega) (by omega)
      exact slt_ne this e
    generalize (nms M.V)[i] = k at hx hnk
    refine E_rsix (v := nv) (l := nms M.V) hx fun _ _ => ?_
    refine E_ptld ?_
    refine E_bk fun r1 r2 kf ks Lv Lr Lh hf hs => ?_
    obtain ⟨v, l, hrv, hle, hlr, hlk⟩ := fok_get hf k
    have i1 := hrv B
    have hfk : fof (mvS ms ((nms M.V).take i) M.V) k = fof M.V k := by rw [fof_mvS, if_neg hnk]
    simp only [hfk] at hle
    have hll : l.length = (fof M.V k).length := by rw [← hle, List.length_map]
    have hln := hw.fl k
    (repeat first | refine gS ?_ | refine gA fun _ => ?_)
    refine E_dlkg hlk ?_
    refine cloneV (v := v) (by omega) fun u _ => ?_
    refine fd (a := spool rfC Lr) (pool_dup ?_)
    refine sm (G := cel true a 81 [.map (some r1), .map (some r2), I M.now] :: dct kL true r1 kf :: dct kL true r2 ks :: spool vC Lv :: spool rfC Lr :: spool hC Lh :: sls cS 9 1 nv (nms M.V) :: sls vC 31 4 u l :: spool rfC Lr :: H) ?_
    refine E_bkS r1 r2 hf hs rfl ?_
    refine E_rslen (v := u) (l := l) ?_
    rename List (Value × List Rf) => Lr0
    clear hf hs hlk i1 hrv
    refine E_loop (n := 10) (σ := Nat × List VR × List (Value × List Rf)) (fun s => s.1 ≤ l.length ∧ s.2.1.length = l.length ∧ s.2.1.map (·.1) = ((l.take s.1).map fun p => moveV ms p.1) ++ (l.drop s.1).map (·.1) ∧ (∀ p ∈ s.2.1, (p.2.1, p.1.refs) ∈ s.2.2))
      (fun s => [ptr a, mv, str k, u, nv, I (nms M.V).length, I i, u, I l.length, I s.1])
      (fun s => bk a { M with V := mvS ms ((nms M.V).take i) M.V } :: sls cS 9 1 nv (nms M.V) :: sls vC 31 4 u s.2.1 :: spool rfC s.2.2 :: H) (fun s => l.length - s.1) (0, l, Lr0) (fun _ => rfl) rfl ⟨Nat.zero_le _, rfl, by simp, hlr⟩ (fun W hW => sm hW) ?_
    rintro ⟨j, c, L⟩ K1 ⟨hj, hcl, hce, hcr⟩ hk1
    simp only at hj hcl hce hcr hk1 ⊢
    refine E_fa fun _ => ?_
    refine E_lss ?_
    refine E_if (fun hc1 => ?_) (fun hc1 => ?_)
    · have hy : c[j]? = some c[j] := List.getElem?_eq_getElem (by omega)
      have hyr := hcr _ (List.mem_of_getElem? hy)
      have hdr := List.drop_eq_getElem_cons (show j < l.length by omega)
      have hyl : (c[j]).1 = (l[j]).1 := by
        have h1 : (c.map (·.1))[j]? = some (c[j]).1 := by rw [List.getElem?_map, hy]; rfl
        rw [hce, List.getElem?_append_right (by simp; omega), List.length_map, List.length_take, Nat.min_eq_left (by omega), Nat.sub_self, hdr] at h1
        exact (Option.some.inj h1).symm
      have hlm : (l[j]).1 ∈ fof M.V k := by rw [← hle]; exact List.mem_map_of_mem (List.getElem_mem _)
      have hrl := hw.r _ (fof_mem.1 hlm).1
      rw [← hyl] at hrl
      have htk : l.take (j + 1) = l.take j ++ [l[j]] := by rw [List.take_add_one, List.getElem?_eq_getElem (by omega)]; rfl
      generalize c[j] = x at hy hyr hyl hrl
      generalize l[j] = y at hdr hyl htk
      refine E_rsix (v := u) (l := c) hy fun _ _ => ?_
      refine E_ptldA ?_
      refine E_box fun b8 => ?_
      refine E_stW (vs := vC x) rfl rfl ?_
      (repeat first | refine gS ?_ | refine gA fun _ => ?_)
      have rv := rs_pool (B := B) (enc := rfC) hyr
      refine fd (a := spool rfC L) ?_
      refine move (v := x.2.1) (l := x.1.refs) (ms := ms) (hm := fun H' => by
        have := hm (H' ++ [spool rfC L, cel true b8 31 (vC x), bk a { M with V := mvS ms ((nms M.V).take i) M.V }, sls cS 9 1 nv (nms M.V), sls vC 31 4 u c])
        simpa using this) (by omega) hmn fun v' n _ => ?_
      (repeat first | refine gS ?_ | refine gA fun _ => ?_)
      refine fd (a := sls vC 31 4 u c) ?_
      refine E_sfld (moveV ms x.1, (⟨v', CellI.pf⟩ : Cv)) hy (by decide) (vC_refs x _ ⟨v', CellI.pf⟩ rfl rfl rfl) ?_
      refine E_addI (by omega) (by omega) ?_
      refine fd (a := spool rfC L) ?_
      refine fd (a := sls rfC 38 35 v' (x.1.refs.map (moveR ms))) ?_
      refine E_give ?_
      refine sm (hk1 (j + 1, c.set j (moveV ms x.1, (⟨v', CellI.pf⟩ : Cv)), (v', x.1.refs.map (moveR ms)) :: L) ⟨by simp only; omega, by simp [hcl], ?_, ?_⟩ (by simp only; omega))
      · simp only
        rw [List.map_set, hce, List.set_append, if_neg (by simp; omega), List.length_map, List.length_take, Nat.min_eq_left (by omega), Nat.sub_self, hdr, htk]
        simp [hyl]
      · intro p hp
        rcases List.mem_or_eq_of_mem_set hp with hp | hp
        · exact List.mem_cons_of_mem _ (hcr p hp)
        · subst hp; exact List.mem_cons_self
    · have hje : j = l.length := by omega
      subst hje
      rw [List.take_length, List.drop_length, List.map_nil, List.append_nil] at hce
      refine E_bk fun r1 r2 kf ks Lv Lr Lh hf hs => ?_
      (repeat first | refine gS ?_ | refine gA fun _ => ?_)
      refine E_dmu (κ := List UInt8) key_files ?_
      refine E_addI (by omega) (by omega) ?_
      refine fd (a := spool rfC Lr) ?_
      refine fd (a := spool rfC L) (pool_join ?_)
      refine fd (a := spool vC Lv) ?_
      refine rs_cell (v := u) (l := c) fun hcu => ?_
      have : CellI u := ⟨hcu⟩
      refine fd (a := sls vC 31 4 u c) ?_
      refine E_give ?_
      refine sm (G := cel true a 81 [.map (some r1), .map (some r2), I M.now] :: dct kL true r1 (dput kf k u) :: dct kL true r2 ks :: spool vC ((u, c) :: Lv) :: spool rfC (L ++ Lr) :: spool hC Lh :: sls cS 9 1 nv (nms M.V) :: H) ?_
      have htk : (nms M.V).take (i + 1) = (nms M.V).take i ++ [k] := by rw [List.take_add_one, hx]; rfl
      have hv' : c.map (·.1) = fof (mvS ms ((nms M.V).take (i + 1)) M.V) k := by
        rw [fof_mvS, if_pos (by rw [htk]; simp), ← hle, hce, List.map_map]; rfl
      refine E_bkS (M := { M with V := mvS ms ((nms M.V).take (i + 1)) M.V }) r1 r2 (fok_put hf (fun k' hk' => by
        rw [fof_mvS, fof_mvS, htk]; simp [hk']) ⟨by simp, hv', fun p hp => List.mem_append_left _ (hcr p hp)⟩ (fun _ h => List.mem_cons_of_mem _ h) (fun _ h => List.mem_append_right _ h) (by
          rw [← hv']
          intro e
          have h1 : (fof M.V k).length = 0 := by rw [← hll, ← hcl, List.map_eq_nil_iff.1 e]; rfl
          exact fof_some (List.mem_of_getElem? hx) (List.length_eq_zero_iff.1 h1))) hs rfl ?_
      exact hk (i + 1) (by omega) (by omega)
  · have hie : i = (nms M.V).length := by omega
    subst hie
    rw [List.take_length, mvS_all _ _ hw.v.n]
    exact sm h
theorem copied {v : Value} {l : List Rf} {g t : Int} {o : Bool} [CellI v] [hv : Rs B H v rfC l] (hn : l.length ≤ 1000000) (h : ∀ v' [CellI v'], E B (sls rfC 38 35 v' l :: H) (K (.agg #[I g, I t, v', .bool o]))) :
    E B H (CF Tryz.prog 42 [.agg #[I g, I t, v, .bool o]] K) := by
  refine E_mono (W := s42 _ K) ?_ fun _ => c42
  unfold s42
  refine E_box (vs := [I g, I t, v, .bool o]) fun b1 => ?_
  (repeat first | refine gS ?_ | refine gA fun _ => ?_ | refine gX fun _ _ => ?_ | refine gT ?_ | refine gF ?_ | refine gI ?_)
  refine cloneR (v := v) (l := l) hn fun v' _ => ?_
  (repeat first | refine gS ?_ | refine gA fun _ => ?_ | refine gX fun _ _ => ?_ | refine gT ?_ | refine gF ?_ | refine gI ?_)
  exact sm (h v')
end Go.Proofs.YtjafpncngmbcdaaGreat.Nam
