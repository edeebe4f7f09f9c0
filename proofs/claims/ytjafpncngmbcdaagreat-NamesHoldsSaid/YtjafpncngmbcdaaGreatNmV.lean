/-
  Names: Now, newest, Newest, Get, Via, Fork.
-/
import Derived.Test.YtjafpncngmbcdaaGreatNmU
set_option linter.unusedSimpArgs false
set_option linter.unusedVariables false
set_option linter.unusedSectionVars false
namespace Go.Proofs.YtjafpncngmbcdaaGreat.Nam
open Go Go.SL Go.Proofs Go.Proofs.YtjafpncngmbcdaaGreat.Sh
variable {B : World} {H : List Asrt} {K : Value → WT} {W : WT} {a : Nat} {M : Bk} {f : Fa}
def newG (V : List Ver) (n : List UInt8) : Int := topG (liveL V n)
def newestL (M : Bk) : List (List UInt8 × Int) := (nms M.V).filterMap fun k => if 0 < newG M.V k then some (k, newG M.V k) else none
def liveV (V : List Ver) (n : List UInt8) (g : Int) : Option Ver := match genV V n g with | none => none | some v => if v.gone then none else some v
def getM (V : List Ver) (n : List UInt8) (g : Int) : Option Ver := liveV V n (if g = 0 then newG V n else g)
def viaM (M : Bk) (s n : List UInt8) : Option Ver := match sof M.S s with
  | none => none
  | some t => match t.held.find? (fun h => decide (h.1 = n)) with
    | none => none
    | some h => genV M.V h.1 h.2
theorem liveB_liveV (V : List Ver) (n : List UInt8) (g : Int) : liveB V n g = (liveV V n g).isSome := by
  unfold liveB liveV
  cases genV V n g with
  | none => rfl
  | some v => cases h : v.gone <;> simp [h]
theorem topG_snoc (l : List Ver) (v : Ver) : topG (l ++ [v]) = v.gen := by simp [topG]
theorem topG_mem {l : List Ver} (h : 0 < topG l) : ∃ v ∈ l, topG l = v.gen := by
  cases hl : l with
  | nil => rw [hl] at h; exact absurd h (by decide)
  | cons v t =>
    obtain ⟨x, h1, h2⟩ := topG_some (l := v :: t) (by simp)
    exact ⟨x, List.mem_of_getElem? h1, h2⟩
attribute [local irreducible] S.pick S.ld S.ldN S.st S.box S.nc S.fad S.ixS S.ixA S.chr S.prt S.ext S.bin S.sh S.sbin S.beq S.neg1 S.com1 S.not1 S.cvt S.str1 S.lenS S.len S.cap S.lenM S.mx S.mn S.mkM S.cond S.gd S.fa S.dr S.rck S.join S.loop S.cvv S.eqv S.slc S.slcS S.b2s S.lk V U CF Gives E cel mpb osl ros dct dit itr lpo dfo
set_option maxRecDepth 8000
attribute [local irreducible] bk
theorem now (h : E B (bk a M :: H) (K (I M.now))) : E B (bk a M :: H) (CF Tryz.prog 24 [ptr a] K) := by
  refine E_mono (W := s24 _ K) ?_ fun _ => c24
  unfold s24
  refine E_peq u_pBook ?_
  refine E_ff ?_
  refine E_bk fun r1 r2 kf ks Lv Lr Lh hf hs => ?_
  (repeat first | refine gS ?_ | refine gA fun _ => ?_ | refine gX fun _ _ => ?_ | refine gT ?_ | refine gF ?_ | refine gI ?_)
  refine sm (G := cel true a 81 [.map (some r1), .map (some r2), I M.now] :: dct kL true r1 kf :: dct kL true r2 ks :: spool vC Lv :: spool rfC Lr :: spool hC Lh :: H) ?_
  exact E_bkS r1 r2 hf hs rfl h
theorem now_nil (h : E B H (K (I 0))) : E B H (CF Tryz.prog 24 [.pointer none] K) := by
  refine E_mono (W := s24 _ K) ?_ fun _ => c24
  unfold s24
  refine E_peq0 u_pBook ?_
  refine E_tt ?_
  exact h
theorem newest {n : List UInt8} (hn : (fof M.V n).length ≤ 1000000) (h : E B (bk a M :: H) (K (I (newG M.V n)))) : E B (bk a M :: H) (CF Tryz.prog 40 [ptr a, str n] K) := by
  refine E_mono (W := s40 _ _ K) ?_ fun _ => c40
  unfold s40
  refine E_bk fun r1 r2 kf ks Lv Lr Lh hf hs => ?_
  have hend := E_bkS (a := a) (M := M) r1 r2 (n := M.now) hf hs rfl h
  obtain ⟨v, l, hrv, hle, hlr, hlk⟩ := fok_get hf n
  have i1 := hrv B
  have hll : l.length = (fof M.V n).length := by rw [← hle, List.length_map]
  (repeat first | refine gS ?_ | refine gA fun _ => ?_ | refine gX fun _ _ => ?_ | refine gT ?_ | refine gF ?_ | refine gI ?_)
  refine E_dlkg hlk ?_
  refine E_rslen (v := v) (l := l) ?_
  refine E_loop (n := 4) (σ := Nat) (fun i => i ≤ l.length) (fun i => [I (topG ((l.take i).filter (fun p => !p.1.gone) |>.map (·.1))), v, I l.length, I i]) (fun _ => cel true a 81 [.map (some r1), .map (some r2), I M.now] :: dct kL true r1 kf :: dct kL true r2 ks :: spool vC Lv :: spool rfC Lr :: spool hC Lh :: H) (fun i => l.length - i) 0 (fun _ => rfl) rfl (Nat.zero_le _) (fun W hW => sm hW) ?_
  rintro i K0 hi hk0
  refine E_fa fun _ => ?_
  refine E_lss ?_
  refine E_if (fun hc1 => ?_) (fun hc1 => ?_)
  · have hx : l[i]? = some l[i] := List.getElem?_eq_getElem (by omega)
    generalize l[i] = x at hx
    refine E_join1 [I (topG ((l.take (i + 1)).filter (fun p => !p.1.gone) |>.map (·.1))), v, I l.length, I i] (cel true a 81 [.map (some r1), .map (some r2), I M.now] :: dct kL true r1 kf :: dct kL true r2 ks :: spool vC Lv :: spool rfC Lr :: spool hC Lh :: H) (fun q hq => ?_) ?_
    · rw [List.take_add_one, hx, List.filter_append, List.map_append] at hq
      refine E_rsix (v := v) (l := l) hx fun _ _ => ?_
      refine E_ptldA ?_
      refine E_box fun b7 => ?_
      refine E_stW (vs := vC x) rfl rfl ?_
      (repeat first | refine gS ?_ | refine gA fun _ => ?_ | refine gX fun _ _ => ?_ | refine gT ?_ | refine gF ?_ | refine gI ?_)
      cases hg : x.1.gone with
      | false =>
        (repeat first | refine gS ?_ | refine gA fun _ => ?_ | refine gX fun _ _ => ?_ | refine gT ?_ | refine gF ?_ | refine gI ?_)
        simp only [Option.toList_some, List.filter_cons, hg, Bool.not_false, if_true, List.filter_nil, List.map_cons, List.map_nil, topG_snoc] at hq
        exact sm hq
      | true =>
        (repeat first | refine gS ?_ | refine gA fun _ => ?_ | refine gX fun _ _ => ?_ | refine gT ?_ | refine gF ?_ | refine gI ?_)
        simp only [Option.toList_some, List.filter_cons, hg, Bool.not_true, Bool.false_eq_true, if_false, List.filter_nil, List.map_nil, List.append_nil] at hq
        exact sm hq
    · refine E_fa fun _ => ?_
      refine E_addI (by omega) (by omega) ?_
      exact hk0 (i + 1) (by omega) (by omega)
  · have hie : i = l.length := by omega
    subst hie
    have e : ((l.filter (fun p => !p.1.gone)).map (·.1)) = liveL M.V n := by
      unfold liveL; rw [← hle, List.filter_map]; rfl
    rw [List.take_length, e]
    exact sm hend
theorem newestAll (hw : Inv M) (h : ∀ v [CellI v], E B (sls hC 53 2 v (newestL M) :: bk a M :: H) (K v)) : E B (bk a M :: H) (CF Tryz.prog 22 [ptr a] K) := by
  have hnl := hw.nl
  unfold newestL at h
  refine E_mono (W := s22 _ K) ?_ fun _ => c22
  unfold s22
  refine order hw.v.n (by have := hw.n; omega) fun nv _ => ?_
  refine E_rslen (v := nv) (l := nms M.V) ?_
  refine E_loop (n := 5) (σ := Nat × Value × List (List UInt8 × Int)) (fun s => s.1 ≤ (nms M.V).length ∧ isCell s.2.1 = true ∧ s.2.2 = ((nms M.V).take s.1).filterMap (fun k => if 0 < newG M.V k then some (k, newG M.V k) else none) ∧ s.2.2.length ≤ s.1)
    (fun s => [ptr a, s.2.1, nv, I (nms M.V).length, I s.1]) (fun s => sls hC 53 2 s.2.1 s.2.2 :: bk a M :: sls cS 9 1 nv (nms M.V) :: H) (fun s => (nms M.V).length - s.1) (0, nil, []) (fun _ => rfl) rfl ⟨Nat.zero_le _, rfl, rfl, Nat.le_refl _⟩
    (fun W hW => by
      refine sls_nil hC 2 (T := 53) ?_
      exact sm hW) ?_
  rintro ⟨i, ov, zs⟩ K0 ⟨hi, hov, hzs, hzl⟩ hk0
  simp only at hi hov hzs hzl hk0 ⊢
  have : CellI ov := ⟨hov⟩
  refine E_fa fun _ => ?_
  refine E_lss ?_
  refine E_if (fun hc1 => ?_) (fun hc1 => ?_)
  · have hx : (nms M.V)[i]? = some (nms M.V)[i] := List.getElem?_eq_getElem (by omega)
    generalize (nms M.V)[i] = k at hx
    refine E_joinC (σ := Value × List (List UInt8 × Int)) (fun s => isCell s.1 = true ∧ s.2 = ((nms M.V).take (i + 1)).filterMap (fun k => if 0 < newG M.V k then some (k, newG M.V k) else none) ∧ s.2.length ≤ i + 1)
      (fun s => [ptr a, s.1, nv, I (nms M.V).length, I i]) (fun s => sls hC 53 2 s.1 s.2 :: bk a M :: sls cS 9 1 nv (nms M.V) :: H) (fun q hq => ?_) (fun s hs => ?_)
    · refine E_rsix (v := nv) (l := nms M.V) hx fun _ _ => ?_
      refine E_ptld ?_
      refine fd (a := bk a M) (newest (by have := hw.fl k; omega) ?_)
      rw [List.take_add_one, hx, List.filterMap_append, ← hzs] at hq
      refine E_gtr ?_
      refine E_if (fun hg => ?_) (fun hg => ?_)
      · simp only [Option.toList_some, List.filterMap_cons, hg, if_true, List.filterMap_nil] at hq
        refine E_build (l := [str k, I (newG M.V k)]) str_held ?_
        refine fd (a := sls hC 53 2 ov zs) ?_
        refine E_sapp1 (enc := hC) (k, newG M.V k) u_helds elt_held rfl (by decide) (by omega) (by omega) fun v' hv' => ?_
        have := hq (v', zs ++ [(k, newG M.V k)]) ⟨hv'.pf, rfl, by simp; omega⟩
        exact sm this
      · simp only [Option.toList_some, List.filterMap_cons, hg, if_false, List.filterMap_nil, List.append_nil] at hq
        have := hq (ov, zs) ⟨hov, rfl, by simp only; omega⟩
        exact sm this
    · obtain ⟨v', zs'⟩ := s
      obtain ⟨h1, h2, h3⟩ := hs
      refine E_fa fun _ => ?_
      refine E_addI (by omega) (by omega) ?_
      exact hk0 (i + 1, v', zs') ⟨by simp only; omega, h1, h2, by simpa using h3⟩ (by simp only; omega)
  · have hie : i = (nms M.V).length := by omega
    subst hie
    rw [List.take_length] at hzs
    subst hzs
    exact sm (h ov)
theorem newest_nil (h : E B H (K nil)) : E B H (CF Tryz.prog 22 [.pointer none] K) := by
  refine E_mono (W := s22 _ K) ?_ fun _ => c22
  unfold s22
  refine order_nil ?_
  (repeat first | refine gS ?_ | refine gA fun _ => ?_ | refine gX fun _ _ => ?_ | refine gT ?_ | refine gF ?_ | refine gI ?_)
  refine E_loop (n := 5) (σ := Unit) (fun _ => True) (fun _ => [.pointer none, nil, nil, I 0, I 0]) (fun _ => H) (fun _ => 0) () (fun _ => rfl) rfl trivial (fun W hW => hW) ?_
  rintro _ K0 _ hk0
  refine E_fa fun _ => ?_
  refine E_lss ?_
  refine E_ifF (by omega) ?_
  exact h
theorem atO {r1 r2 : Nat} {kf ks : List (List UInt8 × Value)} {Lv : List (Value × List VR)} {Lr : List (Value × List Rf)} {Lh : List (Value × List (List UInt8 × Int))} {n : List UInt8} {g : Int} (hf : FOk Lv Lr kf M.V) (hn : (fof M.V n).length ≤ 140737488355328)
    (h : E B (cel true a 81 [.map (some r1), .map (some r2), I M.now] :: dct kL true r1 kf :: dct kL true r2 ks :: spool vC Lv :: spool rfC Lr :: spool hC Lh :: H) (K (I (idxI ((fof M.V n).findIdx? (genP g)))))) : E B (cel true a 81 [.map (some r1), .map (some r2), I M.now] :: dct kL true r1 kf :: dct kL true r2 ks :: spool vC Lv :: spool rfC Lr :: spool hC Lh :: H) (CF Tryz.prog 43 [ptr a, .agg #[str n, I g]] K) := by
  refine E_mono (W := s43 _ _ K) ?_ fun _ => c43
  unfold s43
  refine E_box (vs := [str n, I g]) fun b => ?_
  (repeat first | refine gS ?_ | refine gA fun _ => ?_ | refine gX fun _ _ => ?_ | refine gT ?_ | refine gF ?_ | refine gI ?_)
  rcases hf n with ⟨h1, h2⟩ | ⟨v, l, h1, h2, h3⟩
  · refine E_dlk0 (κ := List UInt8) h1 ?_
    refine fd (a := cel true b 53 [str n, I g]) ?_
    refine idxGen (l := []) (hv := ⟨fun _ => .inl ⟨rfl, rfl, rfl⟩⟩) (by simp) ?_
    rw [h2] at h
    exact sm h
  · refine E_dlk1 (κ := List UInt8) h1 ?_
    have rv := rs_pool (B := B) (enc := vC) h2.m
    refine fd (a := cel true b 53 [str n, I g]) ?_
    refine idxGen (l := l) (by rw [← h2.e] at hn; simpa using hn) ?_
    rw [idx_map h2.e]
    exact sm h
theorem liveO {r1 r2 : Nat} {kf ks : List (List UInt8 × Value)} {Lv : List (Value × List VR)} {Lr : List (Value × List Rf)} {Lh : List (Value × List (List UInt8 × Int))} {n : List UInt8} {g : Int} (hf : FOk Lv Lr kf M.V) (hn : (fof M.V n).length ≤ 140737488355328)
    (h : E B (cel true a 81 [.map (some r1), .map (some r2), I M.now] :: dct kL true r1 kf :: dct kL true r2 ks :: spool vC Lv :: spool rfC Lr :: spool hC Lh :: H) (K (.bool (liveB M.V n g)))) : E B (cel true a 81 [.map (some r1), .map (some r2), I M.now] :: dct kL true r1 kf :: dct kL true r2 ks :: spool vC Lv :: spool rfC Lr :: spool hC Lh :: H) (CF Tryz.prog 41 [ptr a, .agg #[str n, I g]] K) := by
  have fin : ∀ b : Bool, liveB M.V n g = b → E B (cel true a 81 [.map (some r1), .map (some r2), I M.now] :: dct kL true r1 kf :: dct kL true r2 ks :: spool vC Lv :: spool rfC Lr :: spool hC Lh :: H) (K (.bool b)) := fun b hb => hb ▸ h
  unfold liveB genV at fin
  refine E_mono (W := s41 _ _ K) ?_ fun _ => c41
  unfold s41
  refine E_box (vs := [str n, I g]) fun b => ?_
  (repeat first | refine gS ?_ | refine gA fun _ => ?_ | refine gX fun _ _ => ?_ | refine gT ?_ | refine gF ?_ | refine gI ?_)
  refine sm (G := cel true a 81 [.map (some r1), .map (some r2), I M.now] :: dct kL true r1 kf :: dct kL true r2 ks :: spool vC Lv :: spool rfC Lr :: spool hC Lh :: cel true b 53 [str n, I g] :: H) ?_
  refine atO hf hn ?_
  rcases fi (fof M.V n) (genP g) with ⟨e1, e2⟩ | ⟨i, x, e1, e2, e3⟩
  · rw [e1, show idxI none = (-1 : Int) from rfl]
    (repeat first | refine gS ?_ | refine gA fun _ => ?_ | refine gX fun _ _ => ?_ | refine gT ?_ | refine gF ?_ | refine gI ?_)
    exact sm (fin false (by rw [show (fun v : Ver => decide (v.gen = g)) = genP g from rfl, e2]))
  · rw [e1, show idxI (some i) = (i : Int) from rfl]
    have hi : (0 : Int) ≤ (i : Int) := by omega
    rcases hf n with ⟨h1, h2⟩ | ⟨v, l, h1, h2, h3⟩
    · rw [h2] at e2; cases e2
    have rv := rs_pool (B := B) (enc := vC) h2.m
    (repeat first | refine gS ?_ | refine gA fun _ => ?_ | refine gX fun _ _ => ?_ | refine gT ?_ | refine gF ?_ | refine gI ?_)
    refine E_dlk1 (κ := List UInt8) h1 ?_
    have hx : ∃ p, l[i]? = some p ∧ p.1 = x := by
      rw [← h2.e, List.getElem?_map] at e2
      cases hp : l[i]? with
      | none => rw [hp] at e2; cases e2
      | some p => rw [hp] at e2; exact ⟨p, rfl, Option.some.inj e2⟩
    obtain ⟨p, hp, hpx⟩ := hx
    (repeat first | refine gS ?_ | refine gA fun _ => ?_ | refine gX fun _ _ => ?_ | refine gT ?_ | refine gF ?_ | refine gI ?_)
    refine gY ?_
    (repeat first | refine gS ?_ | refine gA fun _ => ?_ | refine gX fun _ _ => ?_ | refine gT ?_ | refine gF ?_ | refine gI ?_)
    refine sm (fin _ ?_)
    rw [show (fun v : Ver => decide (v.gen = g)) = genP g from rfl, e3, hpx]
theorem get {n : List UInt8} {g : Int} (hw : Inv M) (h0 : getM M.V n g = none → E B (bk a M :: H) (K (.tuple #[.agg #[I 0, I 0, nil, .bool false], I 9])))
    (h1 : ∀ v (c : Value) [CellI c], getM M.V n g = some v → E B (sls rfC 38 35 c v.refs :: bk a M :: H) (K (.tuple #[.agg #[I v.gen, I v.time, c, .bool v.gone], I 0]))) :
    E B (bk a M :: H) (CF Tryz.prog 11 [ptr a, str n, I g] K) := by
  have hfl := hw.fl n
  refine E_mono (W := s11 _ _ _ K) ?_ fun _ => c11
  unfold s11
  refine E_box (vs := [I 0, I 0, nil, .bool false]) fun b6 => ?_
  refine E_peq u_pBook ?_
  refine E_ff ?_
  refine E_join1 [ptr a, str n, I (if g = 0 then newG M.V n else g), ptr b6] (bk a M :: cel true b6 31 [I 0, I 0, nil, .bool false] :: H) (fun q hq => ?_) ?_
  · refine E_eql ?_
    refine E_if (fun hc => ?_) (fun hc => ?_)
    · rw [if_pos hc] at hq
      refine fd (a := bk a M) (newest (by omega) ?_)
      exact sm hq
    · rw [if_neg hc] at hq
      exact sm hq
  refine E_fa fun _ => ?_
  unfold getM at h0 h1
  generalize (if g = 0 then newG M.V n else g) = g' at h0 h1 ⊢
  refine E_build (l := [str n, I g']) str_held ?_
  (repeat first | refine gS ?_ | refine gA fun _ => ?_ | refine gX fun _ _ => ?_ | refine gT ?_ | refine gF ?_ | refine gI ?_)
  rename_i b8
  refine fd (a := bk a M) (E_bk fun r1 r2 kf ks Lv Lr Lh hf hs => ?_)
  have hend0 := fun e => E_bkS (a := a) (M := M) r1 r2 (n := M.now) hf hs rfl (h0 e)
  refine sm (G := cel true a 81 [.map (some r1), .map (some r2), I M.now] :: dct kL true r1 kf :: dct kL true r2 ks :: spool vC Lv :: spool rfC Lr :: spool hC Lh :: cel true b8 53 [str n, I g'] :: cel true b6 31 [I 0, I 0, nil, .bool false] :: H) ?_
  refine liveO hf (by omega) ?_
  rw [liveB_liveV]
  cases hl : liveV M.V n g' with
  | none =>
    rw [Option.isSome_none]
    (repeat first | refine gS ?_ | refine gA fun _ => ?_ | refine gX fun _ _ => ?_ | refine gT ?_ | refine gF ?_ | refine gI ?_)
    refine E_build (l := [I 0, I 0, nil, .bool false]) str_ver ?_
    (repeat first | refine gS ?_ | refine gA fun _ => ?_ | refine gX fun _ _ => ?_ | refine gT ?_ | refine gF ?_ | refine gI ?_)
    exact sm (hend0 hl)
  | some x =>
    rw [Option.isSome_some]
    (repeat first | refine gS ?_ | refine gA fun _ => ?_ | refine gX fun _ _ => ?_ | refine gT ?_ | refine gF ?_ | refine gI ?_)
    obtain ⟨v, l, hrv, hle, hlr, hlk⟩ := fok_get hf n
    have i1 := hrv B
    refine E_dlkg hlk ?_
    (repeat first | refine gS ?_ | refine gA fun _ => ?_ | refine gX fun _ _ => ?_ | refine gT ?_ | refine gF ?_ | refine gI ?_)
    refine sm (G := cel true a 81 [.map (some r1), .map (some r2), I M.now] :: dct kL true r1 kf :: dct kL true r2 ks :: spool vC Lv :: spool rfC Lr :: spool hC Lh :: cel true b8 53 [str n, I g'] :: cel true b6 31 [I 0, I 0, nil, .bool false] :: H) ?_
    refine atO hf (by omega) ?_
    have hgx : genV M.V n g' = some x := by
      unfold liveV at hl
      cases hg : genV M.V n g' with
      | none => rw [hg] at hl; cases hl
      | some y =>
        rw [hg] at hl
        simp only at hl
        split at hl
        · cases hl
        · exact hl
    rcases fi (fof M.V n) (genP g') with ⟨e1, e2⟩ | ⟨i, x', e1, e2, e3⟩
    · unfold genV at hgx
      rw [show (fun v : Ver => decide (v.gen = g')) = genP g' from rfl, e2] at hgx; cases hgx
    unfold genV at hgx
    rw [show (fun v : Ver => decide (v.gen = g')) = genP g' from rfl, e3] at hgx
    cases hgx
    rw [e1, show idxI (some i) = (i : Int) from rfl]
    refine E_rck1 (E_dlkg hlk (E_fact rfl)) ?_
    (repeat (refine E_rck1 (by first | exact E_ld (E_fact rfl) | exact E_ld' (by assumption) (E_fact rfl) | exact E_b2sR (E_fact rfl) | exact E_gdnF (by assumption) (E_ld (E_fact rfl)) | exact E_gdT (by assumption) (E_ld (E_fact rfl)) | exact E_gtf (E_ld (E_fact rfl)) | exact E_gft (E_ld (E_fact rfl)) | exact E_ldNA (E_fact rfl) | exact E_ptld (E_fact rfl) | exact E_gtf (E_ldNA (E_fact rfl))) ?_)); (first | (refine E_rck0 ?_) | skip)
    have hp : ∃ p, l[i]? = some p ∧ p.1 = x := by
      rw [← hle, List.getElem?_map] at e2
      cases hp : l[i]? with
      | none => rw [hp] at e2; cases e2
      | some p => rw [hp] at e2; exact ⟨p, rfl, Option.some.inj e2⟩
    obtain ⟨p, hp, hpx⟩ := hp
    subst hpx
    have hxm := fof_mem.1 (List.mem_of_getElem? e2)
    refine E_rsix (v := v) (l := l) hp fun _ _ => ?_
    refine E_ptldA ?_
    have rr := rs_pool (B := B) (enc := rfC) (hlr p (List.mem_of_getElem? hp))
    refine fd (a := spool rfC Lr) ?_
    refine copied (v := p.2.1) (l := p.1.refs) (by have := hw.r _ hxm.1; omega) fun v' _ => ?_
    (repeat first | refine gS ?_ | refine gA fun _ => ?_ | refine gX fun _ _ => ?_ | refine gT ?_ | refine gF ?_ | refine gI ?_)
    have h1' := E_bkS (a := a) (M := M) (H := sls rfC 38 35 v' p.1.refs :: H) r1 r2 (n := M.now) hf hs rfl (sm (h1 p.1 v' hl))
    exact sm h1'
theorem get_nil {n : List UInt8} {g : Int} (h : ∀ v, E B H (K (.tuple #[v, I 1]))) : E B H (CF Tryz.prog 11 [.pointer none, str n, I g] K) := by
  refine E_mono (W := s11 _ _ _ K) ?_ fun _ => c11
  unfold s11
  refine E_box (vs := [I 0, I 0, nil, .bool false]) fun b6 => ?_
  refine E_peq0 u_pBook ?_
  refine E_tt ?_
  refine E_build (l := [I 0, I 0, nil, .bool false]) str_ver ?_
  (repeat first | refine gS ?_ | refine gA fun _ => ?_ | refine gX fun _ _ => ?_ | refine gT ?_ | refine gF ?_ | refine gI ?_)
  exact sm (h _)
theorem via {s n : List UInt8} (hw : Inv M) (h0 : viaM M s n = none → E B (bk a M :: H) (K (.tuple #[.agg #[I 0, I 0, nil, .bool false], I 9])))
    (h1 : ∀ v (c : Value) [CellI c], viaM M s n = some v → E B (sls rfC 38 35 c v.refs :: bk a M :: H) (K (.tuple #[.agg #[I v.gen, I v.time, c, .bool v.gone], I 0]))) :
    E B (bk a M :: H) (CF Tryz.prog 13 [ptr a, str s, str n] K) := by
  have hfl := hw.fl
  refine E_mono (W := s13 _ _ _ K) ?_ fun _ => c13
  unfold s13
  refine E_box (vs := [str n]) fun b5 => ?_
  refine E_box (vs := [I 0, I 0, nil, .bool false]) fun b6 => ?_
  refine E_peq u_pBook ?_
  refine E_ff ?_
  refine fd (a := bk a M) (E_bk fun r1 r2 kf ks Lv Lr Lh hf hs => ?_)
  have hend0 := fun e => E_bkS (a := a) (M := M) r1 r2 (n := M.now) hf hs rfl (h0 e)
  obtain ⟨s0, hv0, hrh, hlks, _, hst, hnil⟩ := sok_get hs s
  have ih := hrh B
  (repeat first | refine gS ?_ | refine gA fun _ => ?_ | refine gX fun _ _ => ?_ | refine gT ?_ | refine gF ?_ | refine gI ?_)
  refine E_dlkz hlks ?_
  (repeat first | refine gS ?_ | refine gA fun _ => ?_)
  have hsl : s0.held.length ≤ 64 := by
    cases hsf : sof M.S s with
    | none => rw [hnil hsf]; exact Nat.zero_le _
    | some t => rw [hst t hsf]; exact hw.hh t (sof_some hsf).1
  have hvia : viaM M s n = match s0.held.find? (fun h => decide (h.1 = n)) with | none => none | some h => genV M.V h.1 h.2 := by
    unfold viaM
    cases hsf : sof M.S s with
    | none => rw [hnil hsf]; rfl
    | some t => rw [hst t hsf]
  refine E_mono (W := s45 _ _ _) ?_ fun _ => c45
  rw [s45_eq]
  refine sm (G := cel true b5 9 [str n] :: cel true a 81 [.map (some r1), .map (some r2), I M.now] :: dct kL true r1 kf :: dct kL true r2 ks :: spool vC Lv :: spool rfC Lr :: spool hC Lh :: cel true b6 31 [I 0, I 0, nil, .bool false] :: H) ?_
  have iv : Rs B (cel true b5 9 [str n] :: cel true a 81 [.map (some r1), .map (some r2), I M.now] :: dct kL true r1 kf :: dct kL true r2 ks :: spool vC Lv :: spool rfC Lr :: spool hC Lh :: cel true b6 31 [I 0, I 0, nil, .bool false] :: H) hv0.1 hC s0.held := inferInstance
  refine idxC_ok (C := [cel true b5 9 [str n]]) (hv := iv) (enc := hC) (p := fun h : List UInt8 × Int => decide (h.1 = n)) (by omega) (fun m hm H' K' hK => ?_) ?_
  · refine E_cvv (by kernel_rfl) ?_
    show E B (cel true b5 9 [str n] :: H') (CF Tryz.prog 46 [.agg (hC m).toArray, ptr b5] K')
    refine E_mono (W := s46 _ _ K') ?_ fun _ => c46
    unfold s46
    (repeat first | refine gS ?_ | refine gA fun _ => ?_ | refine gX fun _ _ => ?_ | refine gT ?_ | refine gF ?_ | refine gI ?_)
    have hK2 : E B (cel true b5 9 [str n] :: H') (K' (.bool (decide (m.1 = n)))) := hK
    exact sm hK2
  show E B (cel true b5 9 [str n] :: cel true a 81 [.map (some r1), .map (some r2), I M.now] :: dct kL true r1 kf :: dct kL true r2 ks :: spool vC Lv :: spool rfC Lr :: spool hC Lh :: cel true b6 31 [I 0, I 0, nil, .bool false] :: H) _
  rcases fi s0.held (fun h => decide (h.1 = n)) with ⟨e1, e2⟩ | ⟨j, y, e1, e2, e3⟩
  · rw [e1, show idxI none = (-1 : Int) from rfl]
    rw [e2] at hvia
    (repeat first | refine gS ?_ | refine gA fun _ => ?_ | refine gX fun _ _ => ?_ | refine gT ?_ | refine gF ?_ | refine gI ?_)
    refine E_build (l := [I 0, I 0, nil, .bool false]) str_ver ?_
    (repeat first | refine gS ?_ | refine gA fun _ => ?_ | refine gX fun _ _ => ?_ | refine gT ?_ | refine gF ?_ | refine gI ?_)
    exact sm (hend0 hvia)
  · rw [e1, show idxI (some j) = (j : Int) from rfl]
    rw [e3] at hvia
    have hj : ¬ (j : Int) < 0 := by omega
    have hyn : y.1 = n := by simpa using List.find?_some e3
    (repeat first | refine gS ?_ | refine gA fun _ => ?_ | refine gX fun _ _ => ?_ | refine gT ?_ | refine gF ?_ | refine gI ?_)
    obtain ⟨v, l, hrv, hle, hlr, hlk⟩ := fok_get hf n
    have i1 := hrv B
    refine E_dlkg hlk ?_
    refine E_rsix (v := hv0.1) (l := s0.held) e2 fun _ _ => ?_
    refine E_ptldA ?_
    refine sm (G := cel true a 81 [.map (some r1), .map (some r2), I M.now] :: dct kL true r1 kf :: dct kL true r2 ks :: spool vC Lv :: spool rfC Lr :: spool hC Lh :: cel true b5 9 [str n] :: cel true b6 31 [I 0, I 0, nil, .bool false] :: H) ?_
    have hfn := hfl n
    show E B _ (CF Tryz.prog 43 [ptr a, .agg #[str y.1, I y.2]] _)
    rw [hyn]
    refine atO hf (by omega) ?_
    have hsm : s0 ∈ M.S := by
      cases hsf : sof M.S s with
      | none => rw [hnil hsf] at e2; cases e2
      | some t => rw [hst t hsf]; exact (sof_some hsf).1
    obtain ⟨x, hx1, hx2, hx3⟩ := hw.se s0 hsm y (List.mem_of_getElem? e2)
    have hgx : genV M.V n y.2 = some x := by rw [← hyn, ← hx2, ← hx3]; exact hw.v.genV hx1
    simp only [hyn, hgx] at hvia
    rcases fi (fof M.V n) (genP y.2) with ⟨g1, g2⟩ | ⟨i, x', g1, g2, g3⟩
    · unfold genV at hgx
      rw [show (fun v : Ver => decide (v.gen = y.2)) = genP y.2 from rfl, g2] at hgx; cases hgx
    unfold genV at hgx
    rw [show (fun v : Ver => decide (v.gen = y.2)) = genP y.2 from rfl, g3] at hgx
    cases hgx
    rw [g1, show idxI (some i) = (i : Int) from rfl]
    refine E_rck1 (E_dlkg hlk (E_fact rfl)) ?_
    (repeat (refine E_rck1 (by first | exact E_ld (E_fact rfl) | exact E_ld' (by assumption) (E_fact rfl) | exact E_b2sR (E_fact rfl) | exact E_gdnF (by assumption) (E_ld (E_fact rfl)) | exact E_gdT (by assumption) (E_ld (E_fact rfl)) | exact E_gtf (E_ld (E_fact rfl)) | exact E_gft (E_ld (E_fact rfl)) | exact E_ldNA (E_fact rfl) | exact E_ptld (E_fact rfl) | exact E_gtf (E_ldNA (E_fact rfl))) ?_)); (first | (refine E_rck0 ?_) | skip)
    have hp : ∃ p, l[i]? = some p ∧ p.1 = x := by
      rw [← hle, List.getElem?_map] at g2
      cases hp : l[i]? with
      | none => rw [hp] at g2; cases g2
      | some p => rw [hp] at g2; exact ⟨p, rfl, Option.some.inj g2⟩
    obtain ⟨p, hp, hpx⟩ := hp
    subst hpx
    refine E_rsix (v := v) (l := l) hp fun _ _ => ?_
    refine E_ptldA ?_
    have rr := rs_pool (B := B) (enc := rfC) (hlr p (List.mem_of_getElem? hp))
    refine fd (a := spool rfC Lr) ?_
    refine copied (v := p.2.1) (l := p.1.refs) (by have := hw.r _ hx1; omega) fun v' _ => ?_
    (repeat first | refine gS ?_ | refine gA fun _ => ?_ | refine gX fun _ _ => ?_ | refine gT ?_ | refine gF ?_ | refine gI ?_)
    have h1' := E_bkS (a := a) (M := M) (H := sls rfC 38 35 v' p.1.refs :: H) r1 r2 (n := M.now) hf hs rfl (sm (h1 p.1 v' hvia))
    exact sm h1'
theorem via_nil {s n : List UInt8} (h : ∀ v, E B H (K (.tuple #[v, I 1]))) : E B H (CF Tryz.prog 13 [.pointer none, str s, str n] K) := by
  refine E_mono (W := s13 _ _ _ K) ?_ fun _ => c13
  unfold s13
  refine E_box (vs := [str n]) fun b5 => ?_
  refine E_box (vs := [I 0, I 0, nil, .bool false]) fun b6 => ?_
  refine E_peq0 u_pBook ?_
  refine E_tt ?_
  refine E_build (l := [I 0, I 0, nil, .bool false]) str_ver ?_
  (repeat first | refine gS ?_ | refine gA fun _ => ?_ | refine gX fun _ _ => ?_ | refine gT ?_ | refine gF ?_ | refine gI ?_)
  exact sm (h _)
theorem mcloneF {r : Nat} {kv : List (List UInt8 × Value)} {H' : List Asrt} [ht : TakD H kL true r kv H'] (h : ∀ r', E B (dct kL true r' kv :: dct kL true r kv :: H') (K (.map (some r')))) : E B H (CF Tryz.prog 73 [.map (some r)] K) := by
  refine E_mono (W := s73 _ K) ?_ fun _ => c73
  unfold s73
  refine E_meq u_files ?_
  refine E_ff ?_
  refine E_mclone (κ := List UInt8) (enc := kL) (kv := kv) Tryz.func105 (fun w => run_callFunc_extern Tryz.func105 (by kernel_rfl) (by kernel_rfl) (by kernel_rfl) (e := Extern.MapsClone.clone) (by kernel_rfl) _ w) fun r' => ?_
  refine E_tamap u_files ?_
  exact h r'
theorem mcloneS {r : Nat} {kv : List (List UInt8 × Value)} {H' : List Asrt} [ht : TakD H kL true r kv H'] (h : ∀ r', E B (dct kL true r' kv :: dct kL true r kv :: H') (K (.map (some r')))) : E B H (CF Tryz.prog 74 [.map (some r)] K) := by
  refine E_mono (W := s74 _ K) ?_ fun _ => c74
  unfold s74
  refine E_meq u_shots ?_
  refine E_ff ?_
  refine E_mclone (κ := List UInt8) (enc := kL) (kv := kv) Tryz.func105 (fun w => run_callFunc_extern Tryz.func105 (by kernel_rfl) (by kernel_rfl) (by kernel_rfl) (e := Extern.MapsClone.clone) (by kernel_rfl) _ w) fun r' => ?_
  refine E_tamap u_shots ?_
  exact h r'
theorem forkF (h : ∀ b, E B (bk b M :: bk a M :: H) (K (ptr b))) : E B (bk a M :: H) (CF Tryz.prog 32 [ptr a] K) := by
  refine E_mono (W := s32 _ K) ?_ fun _ => c32
  unfold s32
  refine E_peq u_pBook ?_
  refine E_ff ?_
  refine E_bk fun r1 r2 kf ks Lv Lr Lh hf hs => ?_
  (repeat first | refine gS ?_ | refine gA fun _ => ?_ | refine gX fun _ _ => ?_ | refine gT ?_ | refine gF ?_ | refine gI ?_)
  refine mcloneF fun f1 => ?_
  (repeat (refine E_rck1 (by first | exact E_ld (E_fact rfl) | exact E_ld' (by assumption) (E_fact rfl) | exact E_b2sR (E_fact rfl) | exact E_gdnF (by assumption) (E_ld (E_fact rfl)) | exact E_gdT (by assumption) (E_ld (E_fact rfl)) | exact E_gtf (E_ld (E_fact rfl)) | exact E_gft (E_ld (E_fact rfl)) | exact E_ldNA (E_fact rfl) | exact E_ptld (E_fact rfl) | exact E_gtf (E_ldNA (E_fact rfl))) ?_)); (first | (refine E_rck0 ?_) | skip)
  refine mcloneS fun f2 => ?_
  (repeat (refine E_rck1 (by first | exact E_ld (E_fact rfl) | exact E_ld' (by assumption) (E_fact rfl) | exact E_b2sR (E_fact rfl) | exact E_gdnF (by assumption) (E_ld (E_fact rfl)) | exact E_gdT (by assumption) (E_ld (E_fact rfl)) | exact E_gtf (E_ld (E_fact rfl)) | exact E_gft (E_ld (E_fact rfl)) | exact E_ldNA (E_fact rfl) | exact E_ptld (E_fact rfl) | exact E_gtf (E_ldNA (E_fact rfl))) ?_)); (first | (refine E_rck0 ?_) | skip)
  refine E_build (l := [.map (some f1), .map (some f2), I M.now]) str_book ?_
  (repeat first | refine gS ?_ | refine gA fun _ => ?_ | refine gX fun _ _ => ?_ | refine gT ?_ | refine gF ?_ | refine gI ?_)
  rename_i b
  refine fd (a := spool vC Lv) (pool_dup ?_)
  refine fd (a := spool rfC Lr) (pool_dup ?_)
  refine fd (a := spool hC Lh) (pool_dup ?_)
  refine sm (G := cel true b 81 [.map (some f1), .map (some f2), I M.now] :: dct kL true f1 kf :: dct kL true f2 ks :: spool vC Lv :: spool rfC Lr :: spool hC Lh :: cel true a 81 [.map (some r1), .map (some r2), I M.now] :: dct kL true r1 kf :: dct kL true r2 ks :: spool vC Lv :: spool rfC Lr :: spool hC Lh :: H) ?_
  refine E_bkS (M := M) f1 f2 hf hs rfl ?_
  refine sm (G := cel true a 81 [.map (some r1), .map (some r2), I M.now] :: dct kL true r1 kf :: dct kL true r2 ks :: spool vC Lv :: spool rfC Lr :: spool hC Lh :: bk b M :: H) ?_
  refine E_bkS (M := M) r1 r2 hf hs rfl ?_
  exact sm (h b)
theorem fork_nil (h : E B H (K (.pointer none))) : E B H (CF Tryz.prog 32 [.pointer none] K) := by
  refine E_mono (W := s32 _ K) ?_ fun _ => c32
  unfold s32
  refine E_peq0 u_pBook ?_
  refine E_tt ?_
  exact h
end Go.Proofs.YtjafpncngmbcdaaGreat.Nam
