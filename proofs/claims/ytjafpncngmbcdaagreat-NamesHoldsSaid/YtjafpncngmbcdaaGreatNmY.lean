/-
  Names: the document's find, live, Next, Get, Via, Newest.
-/
import Derived.Test.YtjafpncngmbcdaaGreatNmX
set_option linter.unusedSimpArgs false
set_option linter.unusedVariables false
set_option linter.unusedSectionVars false
namespace Go.Proofs.YtjafpncngmbcdaaGreat.Nam
open Go Go.SL Go.Proofs Go.Proofs.YtjafpncngmbcdaaGreat.Sh
variable {B : World} {H : List Asrt} {K : Value → WT} {W : WT} {a : Nat} {M : Bk} {f : Fa}
variable {fv sv : Cv} {L : List FC} {LS : List SC} {Pf : List (Value × List FC)} {Lv : List (Value × List VR)} {Lr : List (Value × List Rf)} {Ps : List (Value × List SC)} {Lh : List (Value × List (List UInt8 × Int))}
def getP (g : Int) (v : Ver) : Bool := !v.gone && (decide (g = 0) || decide (v.gen = g))
theorem genV_gen {V : List Ver} (h : SrtG V) {n : List UInt8} {v : Ver} (hv : v ∈ fof V n) : genV V n v.gen = some v := by
  obtain ⟨h1, h2⟩ := fof_mem.1 hv
  rw [← h2]; exact h.genV h1
theorem genV_none {V : List Ver} {n : List UInt8} {g : Int} (h : ∀ v ∈ fof V n, v.gen ≠ g) : genV V n g = none := List.find?_eq_none.2 fun v hv => by simpa using h v hv
theorem getM_last (hw : Inv M) (n : List UInt8) (g : Int) : getM M.V n g = ((fof M.V n).filter (getP g)).getLast? := by
  unfold getM
  by_cases hg : g = 0
  · rw [if_pos hg]
    have e : (fof M.V n).filter (getP g) = liveL M.V n := List.filter_congr fun v _ => by simp [getP, hg]
    rw [e]
    unfold newG topG
    cases hl : (liveL M.V n).getLast? with
    | none =>
      simp only
      unfold liveV
      rw [genV_none fun v hv => by have := (hw.g v (fof_mem.1 hv).1).1; omega]
    | some v =>
      simp only
      have hm := List.mem_of_getLast? hl
      obtain ⟨h1, h2⟩ := List.mem_filter.1 hm
      unfold liveV
      rw [genV_gen hw.v h1]
      simp only
      rw [if_neg (by simpa using h2)]
  · rw [if_neg hg]
    unfold liveV
    cases hv : genV M.V n g with
    | none =>
      have hno : ∀ v ∈ fof M.V n, v.gen ≠ g := fun v hm e => by
        have := genV_gen hw.v hm
        rw [e, hv] at this; cases this
      rw [List.filter_eq_nil_iff.2 fun v hm => by simp [getP, hg, hno v hm]]
      rfl
    | some v =>
      obtain ⟨h1, h2, h3⟩ := genV_some hv
      have hu : ∀ w ∈ fof M.V n, w.gen = g → w = v := fun w hw' e => by
        obtain ⟨e1, e2⟩ := fof_mem.1 hw'
        exact hw.v.uniq e1 h1 (e2.trans h2.symm) (e.trans h3.symm)
      simp only
      cases hgo : v.gone with
      | true =>
        rw [if_pos rfl, List.filter_eq_nil_iff.2 fun w hm => ?_]
        · rfl
        · by_cases e : w.gen = g
          · rw [hu w hm e]; simp [getP, hgo]
          · simp [getP, hg, e]
      | false =>
        rw [if_neg (by simp)]
        have hall : ∀ w ∈ (fof M.V n).filter (getP g), w = v := fun w hm => by
          obtain ⟨m1, m2⟩ := List.mem_filter.1 hm
          simp [getP, hg] at m2
          exact hu w m1 m2.2
        have hin : v ∈ (fof M.V n).filter (getP g) := List.mem_filter.2 ⟨fof_mem.2 ⟨h1, h2⟩, by simp [getP, hgo, h3]⟩
        cases hl : ((fof M.V n).filter (getP g)).getLast? with
        | none => rw [List.getLast?_eq_none_iff.1 hl] at hin; cases hin
        | some w => rw [hall w (List.mem_of_getLast? hl)]
theorem findIdx_take {l : List VR} {V : List Ver} {g : Int} {j : Nat} {x : VR} (e : l.map (·.1) = V) (hx : l[j]? = some x) (ha : ∀ y ∈ l.take j, y.1.gen ≠ g) (hg : x.1.gen = g) : V.findIdx? (genP g) = some j := by
  rw [← idx_map e]
  obtain ⟨hj, hxe⟩ := List.getElem?_eq_some_iff.1 hx
  rw [List.findIdx?_eq_some_iff_getElem]
  refine ⟨hj, by rw [hxe]; simp [genP, hg], fun i hi => ?_⟩
  have := ha l[i] (List.mem_take_iff_getElem.2 ⟨i, by omega, rfl⟩)
  simp [genP, this]
theorem findIdx_all {l : List VR} {V : List Ver} {g : Int} (e : l.map (·.1) = V) (ha : ∀ y ∈ l, y.1.gen ≠ g) : V.findIdx? (genP g) = none := by
  rw [← idx_map e, List.findIdx?_eq_none_iff]
  intro x hx; simp [genP, ha x hx]
attribute [local irreducible] S.pick S.ld S.ldN S.st S.box S.nc S.fad S.ixS S.ixA S.chr S.prt S.ext S.bin S.sh S.sbin S.beq S.neg1 S.com1 S.not1 S.cvt S.str1 S.lenS S.len S.cap S.lenM S.mx S.mn S.mkM S.cond S.gd S.fa S.dr S.rck S.join S.loop S.cvv S.eqv S.slc S.slcS S.b2s S.lk V U CF Gives E cel mpb osl ros dct dit itr lpo dfo
set_option maxRecDepth 8000
attribute [local irreducible] bk dbk
theorem findD {n : List UInt8} {g : Int} (hd : DOk ⟨fv, sv, L, LS, Pf, Lv, Lr, Ps, Lh⟩ M) (hw : Inv M) (h0 : (fof M.V n).findIdx? (genP g) = none → E B (cel true a 88 [fv.1, sv.1, I M.now] :: spool fC Pf :: spool vC Lv :: spool rfC Lr :: spool shC Ps :: spool hC Lh :: H) (K (.tuple #[I (-1), I (-1)])))
    (h1 : ∀ j, (fof M.V n).findIdx? (genP g) = some j → n ∈ nms M.V → E B (cel true a 88 [fv.1, sv.1, I M.now] :: spool fC Pf :: spool vC Lv :: spool rfC Lr :: spool shC Ps :: spool hC Lh :: H) (K (.tuple #[I (posL (nms M.V) n), I j]))) : E B (cel true a 88 [fv.1, sv.1, I M.now] :: spool fC Pf :: spool vC Lv :: spool rfC Lr :: spool shC Ps :: spool hC Lh :: H) (CF Tryz.prog 48 [ptr a, .agg #[str n, I g]] K) := by
  have hns := nms_lt hw.v.n
  have hfl := hw.fl n
  refine E_mono (W := s48 _ _ K) ?_ fun _ => c48
  unfold s48
  refine E_box (vs := [str n, I g]) fun b => ?_
  (repeat first | refine gS ?_ | refine gA fun _ => ?_ | refine gX fun _ _ => ?_ | refine gT ?_ | refine gF ?_ | refine gI ?_)
  refine sm (G := cel true a 88 [fv.1, sv.1, I M.now] :: spool fC Pf :: spool vC Lv :: spool rfC Lr :: spool shC Ps :: spool hC Lh :: cel true b 53 [str n, I g] :: H) ?_
  refine fileD hd hw ?_
  by_cases hn : n ∈ nms M.V
  · rw [decide_eq_true hn]
    (repeat first | refine gS ?_ | refine gA fun _ => ?_ | refine gX fun _ _ => ?_ | refine gT ?_ | refine gF ?_ | refine gI ?_)
    obtain ⟨c, l, hx, hl⟩ := hd.get (pos_mem hns hn)
    have rf : ∀ H, Rs B (spool fC Pf :: H) fv.1 fC L := rs_pool hd.f
    have rl := rs_pool (B := B) (enc := vC) hl.m
    have hll : l.length = (fof M.V n).length := by rw [← hl.e, List.length_map]
    refine E_loop (n := 4) (σ := Nat) (fun j => j ≤ l.length ∧ ∀ y ∈ l.take j, y.1.gen ≠ g) (fun j => [ptr a, ptr b, I (posL (nms M.V) n), I j]) (fun _ => cel true a 88 [fv.1, sv.1, I M.now] :: spool fC Pf :: spool vC Lv :: spool rfC Lr :: spool shC Ps :: spool hC Lh :: cel true b 53 [str n, I g] :: H) (fun j => l.length - j) 0 (fun _ => rfl) rfl ⟨Nat.zero_le _, by simp⟩ (fun W hW => sm hW) ?_
    rintro j K0 ⟨hj, ha⟩ hk0
    refine E_fa fun _ => ?_
    (repeat first | refine gS ?_ | refine gA fun _ => ?_ | refine gX fun _ _ => ?_ | refine gT ?_ | refine gF ?_ | refine gI ?_)
    refine E_if (fun hc => ?_) (fun hc => ?_)
    · have hy : l[j]? = some l[j] := List.getElem?_eq_getElem (by omega)
      generalize l[j] = x at hy
      (repeat first | refine gS ?_ | refine gA fun _ => ?_ | refine gX fun _ _ => ?_ | refine gT ?_ | refine gF ?_ | refine gI ?_)
      refine E_if (fun e => ?_) (fun e => ?_)
      · exact sm (h1 j (findIdx_take hl.e hy ha e) hn)
      · refine E_addI (by omega) (by omega) ?_
        refine hk0 (j + 1) ⟨by omega, fun y hy' => ?_⟩ (by omega)
        rw [List.take_add_one, hy] at hy'
        rcases List.mem_append.1 hy' with hy' | hy'
        · exact ha y hy'
        · simp at hy'; subst hy'; exact e
    · have hje : j = l.length := by omega
      rw [hje, List.take_length] at ha
      exact sm (h0 (findIdx_all hl.e ha))
  · rw [decide_eq_false hn]
    (repeat first | refine gS ?_ | refine gA fun _ => ?_ | refine gX fun _ _ => ?_ | refine gT ?_ | refine gF ?_ | refine gI ?_)
    exact sm (h0 (by rw [fof_none hn]; rfl))
theorem liveD {n : List UInt8} {g : Int} (hd : DOk ⟨fv, sv, L, LS, Pf, Lv, Lr, Ps, Lh⟩ M) (hw : Inv M) (h : E B (cel true a 88 [fv.1, sv.1, I M.now] :: spool fC Pf :: spool vC Lv :: spool rfC Lr :: spool shC Ps :: spool hC Lh :: H) (K (.bool (liveB M.V n g)))) : E B (cel true a 88 [fv.1, sv.1, I M.now] :: spool fC Pf :: spool vC Lv :: spool rfC Lr :: spool shC Ps :: spool hC Lh :: H) (CF Tryz.prog 90 [ptr a, .agg #[str n, I g]] K) := by
  have fin : ∀ b : Bool, liveB M.V n g = b → E B (cel true a 88 [fv.1, sv.1, I M.now] :: spool fC Pf :: spool vC Lv :: spool rfC Lr :: spool shC Ps :: spool hC Lh :: H) (K (.bool b)) := fun b hb => hb ▸ h
  unfold liveB genV at fin
  rw [show (fun v : Ver => decide (v.gen = g)) = genP g from rfl] at fin
  have hns := nms_lt hw.v.n
  refine E_mono (W := s90 _ _ K) ?_ fun _ => c90
  unfold s90
  refine E_box (vs := [str n, I g]) fun b => ?_
  (repeat first | refine gS ?_ | refine gA fun _ => ?_ | refine gX fun _ _ => ?_ | refine gT ?_ | refine gF ?_ | refine gI ?_)
  refine sm (G := cel true a 88 [fv.1, sv.1, I M.now] :: spool fC Pf :: spool vC Lv :: spool rfC Lr :: spool shC Ps :: spool hC Lh :: cel true b 53 [str n, I g] :: H) ?_
  refine findD hd hw (fun e => ?_) (fun j e hn => ?_)
  · (repeat first | refine gS ?_ | refine gA fun _ => ?_ | refine gX fun _ _ => ?_ | refine gT ?_ | refine gF ?_ | refine gI ?_)
    refine sm (fin false ?_)
    rcases fi (fof M.V n) (genP g) with ⟨_, e2⟩ | ⟨_, _, e2, _, _⟩
    · rw [e2]
    · rw [e] at e2; cases e2
  · have hp0 : (0 : Int) ≤ (posL (nms M.V) n : Int) := by omega
    obtain ⟨c, l, hx, hl⟩ := hd.get (pos_mem hns hn)
    have rf : ∀ H, Rs B (spool fC Pf :: H) fv.1 fC L := rs_pool hd.f
    have rl := rs_pool (B := B) (enc := vC) hl.m
    rcases fi (fof M.V n) (genP g) with ⟨e2, _⟩ | ⟨j', x, e2, e3, e4⟩
    · rw [e] at e2; cases e2
    rw [e] at e2; cases e2
    have hp : ∃ p, l[j]? = some p ∧ p.1 = x := by
      rw [← hl.e, List.getElem?_map] at e3
      cases hp : l[j]? with
      | none => rw [hp] at e3; cases e3
      | some p => rw [hp] at e3; exact ⟨p, rfl, Option.some.inj e3⟩
    obtain ⟨p, hp, hpx⟩ := hp
    (repeat first | refine gS ?_ | refine gA fun _ => ?_ | refine gX fun _ _ => ?_ | refine gT ?_ | refine gF ?_ | refine gI ?_)
    refine gY ?_
    (repeat first | refine gS ?_ | refine gA fun _ => ?_ | refine gX fun _ _ => ?_ | refine gT ?_ | refine gF ?_ | refine gI ?_)
    refine sm (fin _ ?_)
    rw [e4, hpx]
theorem nextD {n : List UInt8} (hd : DOk ⟨fv, sv, L, LS, Pf, Lv, Lr, Ps, Lh⟩ M) (hw : Inv M) (h : E B (cel true a 88 [fv.1, sv.1, I M.now] :: spool fC Pf :: spool vC Lv :: spool rfC Lr :: spool shC Ps :: spool hC Lh :: H) (K (I (nextG M.V n)))) : E B (cel true a 88 [fv.1, sv.1, I M.now] :: spool fC Pf :: spool vC Lv :: spool rfC Lr :: spool shC Ps :: spool hC Lh :: H) (CF Tryz.prog 17 [ptr a, str n] K) := by
  have hns := nms_lt hw.v.n
  have hfl := hw.fl n
  refine E_mono (W := s17 _ _ K) ?_ fun _ => c17
  unfold s17
  refine fileD hd hw ?_
  unfold nextG at h
  by_cases hn : n ∈ nms M.V
  · rw [decide_eq_true hn]
    obtain ⟨c, l, hx, hl⟩ := hd.get (pos_mem hns hn)
    have rf : ∀ H, Rs B (spool fC Pf :: H) fv.1 fC L := rs_pool hd.f
    have rl := rs_pool (B := B) (enc := vC) hl.m
    have hll : l.length = (fof M.V n).length := by rw [← hl.e, List.length_map]
    have hne := fof_some hn
    obtain ⟨x, hxl, hxg⟩ := topG_some hne
    have hpos : 0 < l.length := by rw [hll]; exact List.length_pos_iff.2 hne
    have hp : ∃ p, l[l.length - 1]? = some p ∧ p.1 = x := by
      rw [← hll, ← hl.e, List.getElem?_map] at hxl
      cases hp : l[l.length - 1]? with
      | none => rw [hp] at hxl; cases hxl
      | some p => rw [hp] at hxl; exact ⟨p, rfl, Option.some.inj hxl⟩
    obtain ⟨p, hp, hpx⟩ := hp
    have hxm := hw.g x (fof_mem.1 (List.mem_of_getElem? hxl)).1
    (repeat first | refine gS ?_ | refine gA fun _ => ?_ | refine gX fun _ _ => ?_ | refine gT ?_ | refine gF ?_ | refine gI ?_)
    rw [show (l.length : Int) - 1 = ((l.length - 1 : Nat) : Int) by omega]
    refine E_rsix (v := c.1) (l := l) hp fun _ _ => ?_
    refine E_ptfad0 fun _ _ => ?_
    refine E_ptld ?_
    refine E_addI (by rw [hpx]; omega) (by rw [hpx]; omega) ?_
    rw [hxg, ← hpx] at h
    exact sm h
  · rw [decide_eq_false hn]
    rw [fof_none hn] at h
    (repeat first | refine gS ?_ | refine gA fun _ => ?_ | refine gX fun _ _ => ?_ | refine gT ?_ | refine gF ?_ | refine gI ?_)
    exact sm h
theorem filt_last {l : List VR} {k : Nat} {x : VR} {p : Ver → Bool} (hx : l[k]? = some x) (ha : ∀ y ∈ l.drop (k + 1), p y.1 = false) (hp : p x.1 = true) : ((l.map (·.1)).filter p).getLast? = some x.1 := by
  obtain ⟨hk, hxe⟩ := List.getElem?_eq_some_iff.1 hx
  have e : l = l.take k ++ x :: l.drop (k + 1) := by rw [← hxe, List.getElem_cons_drop, List.take_append_drop]
  have key : ∀ A C : List VR, (∀ y ∈ C, p y.1 = false) → (((A ++ x :: C).map (·.1)).filter p).getLast? = some x.1 := fun A C hC => by
    have hD : (C.map (·.1)).filter p = [] := List.filter_eq_nil_iff.2 fun y hy => by
      obtain ⟨z, hz, rfl⟩ := List.mem_map.1 hy
      rw [hC z hz]; simp
    rw [List.map_append, List.filter_append, List.map_cons, List.filter_cons, hp, if_pos rfl, hD]
    simp
  have h' := key (l.take k) (l.drop (k + 1)) ha
  rw [← e] at h'
  exact h'
theorem getD {n : List UInt8} {g : Int} (hd : DOk ⟨fv, sv, L, LS, Pf, Lv, Lr, Ps, Lh⟩ M) (hw : Inv M) (h0 : getM M.V n g = none → E B (cel true a 88 [fv.1, sv.1, I M.now] :: spool fC Pf :: spool vC Lv :: spool rfC Lr :: spool shC Ps :: spool hC Lh :: H) (K (.tuple #[.agg #[I 0, I 0, nil, .bool false], I 9])))
    (h1 : ∀ v (c : Cv), getM M.V n g = some v → (c.1, v.refs) ∈ Lr → E B (cel true a 88 [fv.1, sv.1, I M.now] :: spool fC Pf :: spool vC Lv :: spool rfC Lr :: spool shC Ps :: spool hC Lh :: H) (K (.tuple #[.agg #[I v.gen, I v.time, c.1, .bool v.gone], I 0]))) : E B (cel true a 88 [fv.1, sv.1, I M.now] :: spool fC Pf :: spool vC Lv :: spool rfC Lr :: spool shC Ps :: spool hC Lh :: H) (CF Tryz.prog 12 [ptr a, str n, I g] K) := by
  have hns := nms_lt hw.v.n
  have hfl := hw.fl n
  rw [getM_last hw] at h0 h1
  refine E_mono (W := s12 _ _ _ K) ?_ fun _ => c12
  unfold s12
  refine E_box (vs := [I 0, I 0, nil, .bool false]) fun b6 => ?_
  refine sm (G := cel true a 88 [fv.1, sv.1, I M.now] :: spool fC Pf :: spool vC Lv :: spool rfC Lr :: spool shC Ps :: spool hC Lh :: cel true b6 31 [I 0, I 0, nil, .bool false] :: H) ?_
  refine fileD hd hw ?_
  by_cases hn : n ∈ nms M.V
  · rw [decide_eq_true hn]
    obtain ⟨c, l, hx, hl⟩ := hd.get (pos_mem hns hn)
    have rf : ∀ H, Rs B (spool fC Pf :: H) fv.1 fC L := rs_pool hd.f
    have rl := rs_pool (B := B) (enc := vC) hl.m
    have hll : l.length = (fof M.V n).length := by rw [← hl.e, List.length_map]
    rw [← hl.e] at h0 h1
    (repeat first | refine gS ?_ | refine gA fun _ => ?_ | refine gX fun _ _ => ?_ | refine gT ?_ | refine gF ?_ | refine gI ?_)
    refine E_loop (n := 5) (σ := Nat) (fun k => k ≤ l.length ∧ ∀ y ∈ l.drop k, getP g y.1 = false) (fun k => [ptr a, I g, ptr b6, I (posL (nms M.V) n), I ((k : Int) - 1)]) (fun _ => cel true a 88 [fv.1, sv.1, I M.now] :: spool fC Pf :: spool vC Lv :: spool rfC Lr :: spool shC Ps :: spool hC Lh :: cel true b6 31 [I 0, I 0, nil, .bool false] :: H) (fun k => k) l.length (fun _ => rfl) rfl ⟨Nat.le_refl _, by simp⟩ (fun W hW => sm hW) ?_
    rintro k K0 ⟨hk, ha⟩ hk0
    refine E_fa fun _ => ?_
    refine E_geq ?_
    refine E_if (fun hc => ?_) (fun hc => ?_)
    · obtain ⟨j, rfl⟩ : ∃ j, k = j + 1 := ⟨k - 1, by omega⟩
      rw [show ((j + 1 : Nat) : Int) - 1 = (j : Int) by omega]
      have hy : l[j]? = some l[j] := List.getElem?_eq_getElem (by omega)
      have hym := List.mem_of_getElem? hy
      generalize l[j] = x at hy hym
      (repeat first | refine gS ?_ | refine gA fun _ => ?_ | refine gX fun _ _ => ?_ | refine gT ?_ | refine gF ?_ | refine gI ?_)
      rename_i b11
      refine E_stW (vs := vC x) rfl rfl ?_
      refine E_join1 [ptr a, I g, ptr b6, I (posL (nms M.V) n), I j, ptr b11, .bool (getP g x.1)] (cel true b11 31 (vC x) :: cel true a 88 [fv.1, sv.1, I M.now] :: spool fC Pf :: spool vC Lv :: spool rfC Lr :: spool shC Ps :: spool hC Lh :: cel true b6 31 [I 0, I 0, nil, .bool false] :: H) (fun q hq => ?_) ?_
      · unfold getP at hq
        (repeat first | refine gS ?_ | refine gY ?_ | refine gA fun _ => ?_ | refine gX fun _ _ => ?_ | refine gI ?_)
        exact sm hq
      · refine E_fa fun _ => ?_
        cases hp : getP g x.1 with
        | true =>
          (repeat first | refine gS ?_ | refine gA fun _ => ?_ | refine gX fun _ _ => ?_ | refine gT ?_ | refine gF ?_ | refine gI ?_)
          refine E_stW (vs := vC x) rfl rfl ?_
          (repeat first | refine gS ?_ | refine gA fun _ => ?_ | refine gX fun _ _ => ?_ | refine gT ?_ | refine gF ?_ | refine gI ?_)
          exact sm (h1 x.1 x.2 (filt_last hy ha hp) (hl.r x hym))
        | false =>
          (repeat first | refine gS ?_ | refine gA fun _ => ?_ | refine gX fun _ _ => ?_ | refine gT ?_ | refine gF ?_ | refine gI ?_)
          refine sm (hk0 j ⟨by omega, fun y hy' => ?_⟩ (by omega))
          rw [List.drop_eq_getElem_cons (show j < l.length by omega)] at hy'
          rcases List.mem_cons.1 hy' with hy' | hy'
          · have : l[j] = x := (List.getElem?_eq_some_iff.1 hy).2
            rw [hy', this]; exact hp
          · exact ha y hy'
    · have hk0' : k = 0 := by omega
      subst hk0'
      refine E_build (l := [I 0, I 0, nil, .bool false]) str_ver ?_
      (repeat first | refine gS ?_ | refine gA fun _ => ?_ | refine gX fun _ _ => ?_ | refine gT ?_ | refine gF ?_ | refine gI ?_)
      refine sm (h0 ?_)
      rw [List.filter_eq_nil_iff.2 fun y hy => by
        obtain ⟨z, hz, rfl⟩ := List.mem_map.1 hy
        rw [ha z hz]; simp]
      rfl
  · rw [decide_eq_false hn]
    rw [fof_none hn] at h0
    (repeat first | refine gS ?_ | refine gA fun _ => ?_ | refine gX fun _ _ => ?_ | refine gT ?_ | refine gF ?_ | refine gI ?_)
    refine E_build (l := [I 0, I 0, nil, .bool false]) str_ver ?_
    (repeat first | refine gS ?_ | refine gA fun _ => ?_ | refine gX fun _ _ => ?_ | refine gT ?_ | refine gF ?_ | refine gI ?_)
    exact sm (h0 rfl)
theorem viaD {s n : List UInt8} (hd : DOk ⟨fv, sv, L, LS, Pf, Lv, Lr, Ps, Lh⟩ M) (hw : Inv M) (h0 : viaM M s n = none → E B (cel true a 88 [fv.1, sv.1, I M.now] :: spool fC Pf :: spool vC Lv :: spool rfC Lr :: spool shC Ps :: spool hC Lh :: H) (K (.tuple #[.agg #[I 0, I 0, nil, .bool false], I 9])))
    (h1 : ∀ v (c : Cv), viaM M s n = some v → (c.1, v.refs) ∈ Lr → E B (cel true a 88 [fv.1, sv.1, I M.now] :: spool fC Pf :: spool vC Lv :: spool rfC Lr :: spool shC Ps :: spool hC Lh :: H) (K (.tuple #[.agg #[I v.gen, I v.time, c.1, .bool v.gone], I 0]))) : E B (cel true a 88 [fv.1, sv.1, I M.now] :: spool fC Pf :: spool vC Lv :: spool rfC Lr :: spool shC Ps :: spool hC Lh :: H) (CF Tryz.prog 14 [ptr a, str s, str n] K) := by
  have hns := nms_lt hw.v.n
  have hss := List.pairwise_map.2 hw.ss
  refine E_mono (W := s14 _ _ _ K) ?_ fun _ => c14
  unfold s14
  refine E_box (vs := [I 0, I 0, nil, .bool false]) fun b6 => ?_
  refine sm (G := cel true a 88 [fv.1, sv.1, I M.now] :: spool fC Pf :: spool vC Lv :: spool rfC Lr :: spool shC Ps :: spool hC Lh :: cel true b6 31 [I 0, I 0, nil, .bool false] :: H) ?_
  refine shotD hd hw ?_
  by_cases hs : s ∈ M.S.map fun s : Sn => s.name
  · rw [decide_eq_true hs]
    have hp := pos_mem hss hs
    rw [snm] at hp
    obtain ⟨t, ht, hts⟩ := Option.map_eq_some_iff.1 hp
    obtain ⟨c, hx, hch⟩ := hd.getS ht
    have htm := List.mem_of_getElem? ht
    have hsof : sof M.S s = some t := by rw [← hts]; exact hw.su t htm
    have hhl := hw.hh t htm
    have rs : ∀ H, Rs B (spool shC Ps :: H) sv.1 shC LS := rs_pool hd.s
    have rh := rs_pool (B := B) (enc := hC) hch
    have rf : ∀ H, Rs B (spool fC Pf :: H) fv.1 fC L := rs_pool hd.f
    unfold viaM at h0 h1
    rw [hsof] at h0 h1
    simp only at h0 h1
    (repeat first | refine gS ?_ | refine gA fun _ => ?_ | refine gX fun _ _ => ?_ | refine gT ?_ | refine gF ?_ | refine gI ?_)
    generalize hpos : posL (M.S.map fun s : Sn => s.name) s = i at ht hx ⊢
    refine E_loop (n := 5) (σ := Nat) (fun k => k ≤ t.held.length ∧ ∀ y ∈ t.held.take k, y.1 ≠ n) (fun k => [ptr a, str n, ptr b6, I i, I k]) (fun _ => cel true a 88 [fv.1, sv.1, I M.now] :: spool fC Pf :: spool vC Lv :: spool rfC Lr :: spool shC Ps :: spool hC Lh :: cel true b6 31 [I 0, I 0, nil, .bool false] :: H) (fun k => t.held.length - k) 0 (fun _ => rfl) rfl ⟨Nat.zero_le _, by simp⟩ (fun W hW => sm hW) ?_
    rintro k K0 ⟨hk, ha⟩ hk0
    refine E_fa fun _ => ?_
    (repeat first | refine gS ?_ | refine gA fun _ => ?_ | refine gX fun _ _ => ?_ | refine gT ?_ | refine gF ?_ | refine gI ?_)
    refine E_if (fun hc => ?_) (fun hc => ?_)
    · have hy : t.held[k]? = some t.held[k] := List.getElem?_eq_getElem (by omega)
      have hdr : t.held = t.held.take k ++ t.held[k] :: t.held.drop (k + 1) := by rw [List.getElem_cons_drop, List.take_append_drop]
      generalize t.held[k] = x at hy hdr
      have hym := List.mem_of_getElem? hy
      (repeat first | refine gS ?_ | refine gA fun _ => ?_ | refine gX fun _ _ => ?_ | refine gT ?_ | refine gF ?_ | refine gI ?_)
      refine E_if (fun e => ?_) (fun e => ?_)
      · have hfind : t.held.find? (fun h => decide (h.1 = n)) = some x := by
          rw [hdr, List.find?_append, List.find?_eq_none.2 fun y hy => by simpa using ha y hy]
          simp [e]
        rw [hfind] at h0 h1
        simp only at h0 h1
        obtain ⟨v, hv1, hv2, hv3⟩ := hw.se t htm x hym
        have hgv : genV M.V x.1 x.2 = some v := by rw [← hv2, ← hv3]; exact hw.v.genV hv1
        (repeat first | refine gS ?_ | refine gA fun _ => ?_ | refine gX fun _ _ => ?_ | refine gT ?_ | refine gF ?_ | refine gI ?_)
        show E B _ (CF Tryz.prog 48 [ptr a, .agg #[str x.1, I x.2]] _)
        refine findD hd hw (fun e2 => ?_) (fun j e2 hn => ?_)
        · exfalso
          rcases fi (fof M.V x.1) (genP x.2) with ⟨_, e3⟩ | ⟨_, _, e3, _, _⟩
          · unfold genV at hgv
            rw [show (fun v : Ver => decide (v.gen = x.2)) = genP x.2 from rfl, e3] at hgv; cases hgv
          · rw [e2] at e3; cases e3
        · obtain ⟨c', l, hx', hl⟩ := hd.get (pos_mem hns hn)
          have rl := rs_pool (B := B) (enc := vC) hl.m
          rcases fi (fof M.V x.1) (genP x.2) with ⟨e3, _⟩ | ⟨j', y, e3, e4, e5⟩
          · rw [e2] at e3; cases e3
          rw [e2] at e3; cases e3
          have hyv : y = v := by
            unfold genV at hgv
            rw [show (fun v : Ver => decide (v.gen = x.2)) = genP x.2 from rfl, e5] at hgv; exact Option.some.inj hgv
          have hp : ∃ p, l[j]? = some p ∧ p.1 = v := by
            rw [← hl.e, List.getElem?_map] at e4
            cases hp : l[j]? with
            | none => rw [hp] at e4; cases e4
            | some p => rw [hp] at e4; exact ⟨p, rfl, (Option.some.inj e4).trans hyv⟩
          obtain ⟨p, hp, rfl⟩ := hp
          (repeat first | refine gS ?_ | refine gA fun _ => ?_ | refine gX fun _ _ => ?_ | refine gT ?_ | refine gF ?_ | refine gI ?_)
          refine E_stW (vs := vC p) rfl rfl ?_
          (repeat first | refine gS ?_ | refine gA fun _ => ?_ | refine gX fun _ _ => ?_ | refine gT ?_ | refine gF ?_ | refine gI ?_)
          exact sm (h1 p.1 p.2 hgv (hl.r p (List.mem_of_getElem? hp)))
      · refine E_addI (by omega) (by omega) ?_
        refine hk0 (k + 1) ⟨by omega, fun y hy' => ?_⟩ (by omega)
        rw [List.take_add_one, hy] at hy'
        rcases List.mem_append.1 hy' with hy' | hy'
        · exact ha y hy'
        · simp at hy'; subst hy'; exact e
    · have hke : k = t.held.length := by omega
      rw [hke, List.take_length] at ha
      rw [List.find?_eq_none.2 fun y hy => by simpa using ha y hy] at h0
      refine E_build (l := [I 0, I 0, nil, .bool false]) str_ver ?_
      (repeat first | refine gS ?_ | refine gA fun _ => ?_ | refine gX fun _ _ => ?_ | refine gT ?_ | refine gF ?_ | refine gI ?_)
      exact sm (h0 rfl)
  · rw [decide_eq_false hs]
    have hsof : sof M.S s = none := List.find?_eq_none.2 fun t ht => by
      simp only [decide_eq_true_eq]
      exact fun e => hs (List.mem_map.2 ⟨t, ht, e⟩)
    unfold viaM at h0
    rw [hsof] at h0
    (repeat first | refine gS ?_ | refine gA fun _ => ?_ | refine gX fun _ _ => ?_ | refine gT ?_ | refine gF ?_ | refine gI ?_)
    refine E_build (l := [I 0, I 0, nil, .bool false]) str_ver ?_
    (repeat first | refine gS ?_ | refine gA fun _ => ?_ | refine gX fun _ _ => ?_ | refine gT ?_ | refine gF ?_ | refine gI ?_)
    exact sm (h0 rfl)
theorem newG_get (hw : Inv M) (n : List UInt8) : (getM M.V n 0 = none ∧ ¬ 0 < newG M.V n) ∨ ∃ v, getM M.V n 0 = some v ∧ 0 < newG M.V n ∧ v.gen = newG M.V n := by
  rw [getM_last hw]
  have e : (fof M.V n).filter (getP 0) = liveL M.V n := List.filter_congr fun v _ => by simp [getP]
  rw [e]
  unfold newG topG
  cases hl : (liveL M.V n).getLast? with
  | none => exact .inl ⟨rfl, by simp⟩
  | some v =>
    have := (hw.g v (fof_mem.1 (List.mem_filter.1 (List.mem_of_getLast? hl)).1).1).1
    exact .inr ⟨v, rfl, by simp only; omega, rfl⟩
theorem newestD (hd : DOk ⟨fv, sv, L, LS, Pf, Lv, Lr, Ps, Lh⟩ M) (hw : Inv M) (h : ∀ v [CellI v], E B (sls hC 53 2 v (newestL M) :: cel true a 88 [fv.1, sv.1, I M.now] :: spool fC Pf :: spool vC Lv :: spool rfC Lr :: spool shC Ps :: spool hC Lh :: H) (K v)) : E B (cel true a 88 [fv.1, sv.1, I M.now] :: spool fC Pf :: spool vC Lv :: spool rfC Lr :: spool shC Ps :: spool hC Lh :: H) (CF Tryz.prog 57 [ptr a] K) := by
  have hns := nms_lt hw.v.n
  have hL := nms_len32 hd hw
  have hlen := hd.len
  unfold newestL at h
  have rf : ∀ H, Rs B (spool fC Pf :: H) fv.1 fC L := rs_pool hd.f
  refine E_mono (W := s57 _ K) ?_ fun _ => c57
  unfold s57
  refine E_bsl0 u_helds elt_held fun b0 => ?_
  refine E_slsC (enc := hC) [] 0 rfl rfl ?_
  refine E_loop (n := 3) (σ := Nat × Cv × List (List UInt8 × Int)) (fun s => s.1 ≤ L.length ∧ s.2.2 = ((nms M.V).take s.1).filterMap (fun k => if 0 < newG M.V k then some (k, newG M.V k) else none) ∧ s.2.2.length ≤ s.1)
    (fun s => [ptr a, s.2.1.1, I s.1]) (fun s => cel true a 88 [fv.1, sv.1, I M.now] :: spool fC Pf :: spool vC Lv :: spool rfC Lr :: spool shC Ps :: spool hC Lh :: sls hC 53 2 s.2.1.1 s.2.2 :: H) (fun s => L.length - s.1) (0, ⟨.slice (some ⟨b0, 0, none⟩) 0 0, rfl⟩, []) (fun _ => rfl) rfl ⟨Nat.zero_le _, rfl, Nat.le_refl _⟩ (fun W hW => sm hW) ?_
  rintro ⟨i, ov, zs⟩ K0 ⟨hi, hzs, hzl⟩ hk0
  simp only at hi hzs hzl hk0 ⊢
  refine E_fa fun _ => ?_
  (repeat first | refine gS ?_ | refine gA fun _ => ?_ | refine gX fun _ _ => ?_ | refine gT ?_ | refine gF ?_ | refine gI ?_)
  refine E_if (fun hc => ?_) (fun hc => ?_)
  · have hx : (nms M.V)[i]? = some (nms M.V)[i] := List.getElem?_eq_getElem (by omega)
    generalize (nms M.V)[i] = k at hx
    obtain ⟨c, l, hx', hl⟩ := hd.get hx
    refine E_joinC (σ := Cv × List (List UInt8 × Int)) (fun s => s.2 = ((nms M.V).take (i + 1)).filterMap (fun k => if 0 < newG M.V k then some (k, newG M.V k) else none) ∧ s.2.length ≤ i + 1)
      (fun s => [ptr a, s.1.1, I i]) (fun s => cel true a 88 [fv.1, sv.1, I M.now] :: spool fC Pf :: spool vC Lv :: spool rfC Lr :: spool shC Ps :: spool hC Lh :: sls hC 53 2 s.1.1 s.2 :: H) (fun q hq => ?_) (fun s hs => ?_)
    · (repeat first | refine gS ?_ | refine gA fun _ => ?_ | refine gX fun _ _ => ?_ | refine gT ?_ | refine gF ?_ | refine gI ?_)
      rw [List.take_add_one, hx, List.filterMap_append, ← hzs] at hq
      refine getD hd hw (fun e => ?_) (fun v cv e hcv => ?_)
      · rcases newG_get hw k with ⟨_, hg⟩ | ⟨v, e2, _⟩
        · simp only [Option.toList_some, List.filterMap_cons, hg, if_false, List.filterMap_nil, List.append_nil] at hq
          (repeat first | refine gS ?_ | refine gA fun _ => ?_ | refine gX fun _ _ => ?_ | refine gT ?_ | refine gF ?_ | refine gI ?_)
          have := hq (ov, zs) ⟨rfl, by simp only; omega⟩
          exact sm this
        · rw [e] at e2; cases e2
      · rcases newG_get hw k with ⟨e2, _⟩ | ⟨v', e2, hg, hgv⟩
        · rw [e] at e2; cases e2
        rw [e] at e2; cases e2
        simp only [Option.toList_some, List.filterMap_cons, hg, if_true, List.filterMap_nil] at hq
        (repeat first | refine gS ?_ | refine gA fun _ => ?_ | refine gX fun _ _ => ?_ | refine gT ?_ | refine gF ?_ | refine gI ?_)
        refine E_build (l := [str k, I v.gen]) str_held ?_
        refine fd (a := sls hC 53 2 ov.1 zs) ?_
        refine E_sapp1 (enc := hC) (k, v.gen) u_helds elt_held rfl (by decide) (by omega) (by omega) fun v' hv' => ?_
        rw [hgv]
        have := hq (⟨v', hv'.pf⟩, zs ++ [(k, newG M.V k)]) ⟨rfl, by simp; omega⟩
        exact sm this
    · obtain ⟨v', zs'⟩ := s
      obtain ⟨h2, h3⟩ := hs
      refine E_fa fun _ => ?_
      refine E_addI (by omega) (by omega) ?_
      exact hk0 (i + 1, v', zs') ⟨by simp only; omega, h2, by simpa using h3⟩ (by simp only; omega)
  · have hie : i = (nms M.V).length := by omega
    rw [hie, List.take_length] at hzs
    rw [hzs]
    have : CellI ov.1 := ⟨ov.2⟩
    exact sm (h ov.1)
theorem forkD (h : ∀ b, E B (dbk b M :: dbk a M :: H) (K (ptr b))) : E B (dbk a M :: H) (CF Tryz.prog 33 [ptr a] K) := by
  refine E_mono (W := s33 _ K) ?_ fun _ => c33
  unfold s33
  refine E_dbk fun fv sv L LS Pf Lv Lr Ps Lh hd => ?_
  (repeat first | refine gS ?_ | refine gA fun _ => ?_ | refine gX fun _ _ => ?_ | refine gT ?_ | refine gF ?_ | refine gI ?_)
  rename_i b
  refine fd (a := spool fC Pf) (pool_dup ?_)
  refine fd (a := spool vC Lv) (pool_dup ?_)
  refine fd (a := spool rfC Lr) (pool_dup ?_)
  refine fd (a := spool shC Ps) (pool_dup ?_)
  refine fd (a := spool hC Lh) (pool_dup ?_)
  refine sm (G := cel true b 88 [fv.1, sv.1, I M.now] :: spool fC Pf :: spool vC Lv :: spool rfC Lr :: spool shC Ps :: spool hC Lh :: cel true a 88 [fv.1, sv.1, I M.now] :: spool fC Pf :: spool vC Lv :: spool rfC Lr :: spool shC Ps :: spool hC Lh :: H) ?_
  refine E_dbkS hd rfl ?_
  refine sm (G := cel true a 88 [fv.1, sv.1, I M.now] :: spool fC Pf :: spool vC Lv :: spool rfC Lr :: spool shC Ps :: spool hC Lh :: dbk b M :: H) ?_
  refine E_dbkS hd rfl ?_
  exact sm (h b)
theorem newD (h : ∀ a, E B (dbk a ⟨[], [], 0⟩ :: H) (K (ptr a))) : E B H (CF Tryz.prog 38 [] K) := by
  refine E_mono (W := s38 K) ?_ fun _ => c38
  unfold s38
  refine E_build (l := [nil, nil, I 0]) (str_of (zv := .agg #[nil, nil, I 0]) (by kernel_rfl) (by kernel_rfl) rfl : Str Tryz.prog 88 [(0, 1), (1, 1), (2, 1)] [nil, nil, I 0]) ?_
  refine E_box (vs := [nil, nil, I 0]) fun a => ?_
  refine pool_new (slQ fC) ?_
  refine sls_nil fC 2 (T := 86) ?_
  refine E_give ?_
  refine pool_new (slQ shC) ?_
  refine sls_nil shC 3 (T := 90) ?_
  refine E_give ?_
  refine pool_new (slQ vC) ?_
  refine pool_new (slQ rfC) ?_
  refine pool_new (slQ hC) ?_
  refine sm (G := cel true a 88 [nil, nil, I 0] :: spool fC [(nil, [])] :: spool vC [] :: spool rfC [] :: spool shC [(nil, [])] :: spool hC [] :: H) ?_
  exact E_dbkS (M := ⟨[], [], 0⟩) (fv := ⟨nil, rfl⟩) (sv := ⟨nil, rfl⟩) (L := []) (LS := []) ⟨by simp, ⟨rfl, by simp⟩, by simp, ⟨rfl, by simp⟩⟩ rfl (h a)
end Go.Proofs.YtjafpncngmbcdaaGreat.Nam
