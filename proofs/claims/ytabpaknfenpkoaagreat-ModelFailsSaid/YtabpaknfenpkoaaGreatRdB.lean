/-
  Model: the document's size, count, shot, Names.
-/
import Derived.Test.YtabpaknfenpkoaaGreatRdA
set_option linter.unusedSimpArgs false
set_option linter.unusedVariables false
set_option linter.unusedSectionVars false
namespace Go.Proofs.YtabpaknfenpkoaaGreat.Mod
open Go Go.SL Go.Proofs Go.Proofs.YtabpaknfenpkoaaGreat.Sh
variable {B : World} {H : List Asrt} {K : Value → WT} {W : WT}
variable {a : Nat} {M : Mo} {o : Od} {bv kv : Value} {t u : Int}
/-! ### plain -/
theorem nms_snoc : ∀ (l : List Ver) (v : Ver), nms (l ++ [v]) = if l.getLast?.map (·.name) = some v.name then nms l else nms l ++ [v.name]
  | [], v => by simp [nms]
  | [c], v => by
    simp only [List.singleton_append, nms, List.head?_cons, Option.some.injEq, List.head?_nil, List.getLast?_singleton, Option.map_some]
    by_cases h : v.name = c.name
    · simp [h]
    · have : ¬ c.name = v.name := fun e => h e.symm
      simp [h, this]
  | c :: d :: t, v => by
    have ih := nms_snoc (d :: t) v
    have hh : (nms (d :: t ++ [v])).head? = (nms (d :: t)).head? := by rw [nms_head, nms_head]; rfl
    have e1 : nms (c :: (d :: t) ++ [v]) = if (nms (d :: t ++ [v])).head? = some c.name then nms (d :: t ++ [v]) else c.name :: nms (d :: t ++ [v]) := rfl
    have e2 : nms (c :: d :: t) = if (nms (d :: t)).head? = some c.name then nms (d :: t) else c.name :: nms (d :: t) := rfl
    rw [e1, hh, e2, ih, List.getLast?_cons_cons]
    by_cases h1 : (nms (d :: t)).head? = some c.name
    · rw [if_pos h1, if_pos h1]
    · rw [if_neg h1, if_neg h1]
      split <;> rfl
theorem topG_snoc (l : List Ver) (v : Ver) : topG (l ++ [v]) = v.gen := by unfold topG; simp
def shotI (S : List Sn) (n : List UInt8) : Nat := (S.takeWhile fun s => decide (s.name < n)).length
theorem shotI_is : ∀ {S : List Sn} {n : List UInt8}, S.Pairwise (fun a b => a.name < b.name) → (sof S n = none ∧ (∀ s, S[shotI S n]? = some s → s.name ≠ n)) ∨ ∃ s, S[shotI S n]? = some s ∧ s.name = n ∧ sof S n = some s
  | [], n, _ => .inl ⟨rfl, by simp⟩
  | c :: t, n, hp => by
    have ih := shotI_is (S := t) (n := n) (List.pairwise_cons.1 hp).2
    have hc := (List.pairwise_cons.1 hp).1
    unfold shotI at ih ⊢
    rw [List.takeWhile_cons]
    by_cases h : c.name < n
    · rw [if_pos (by simpa using h)]
      have hne : ¬ c.name = n := slt_ne h
      have e : sof (c :: t) n = sof t n := by unfold sof; rw [List.find?_cons]; simp [hne]
      rw [e]
      rcases ih with ⟨h1, h2⟩ | ⟨s, h1, h2, h3⟩
      · exact .inl ⟨h1, fun s hs => h2 s (by simpa using hs)⟩
      · exact .inr ⟨s, by simpa using h1, h2, h3⟩
    · rw [if_neg (by simpa using h)]
      by_cases he : c.name = n
      · exact .inr ⟨c, rfl, he, by unfold sof; rw [List.find?_cons]; simp [he]⟩
      · refine .inl ⟨?_, fun s hs => by simp at hs; subst hs; exact he⟩
        have hgt : n < c.name := slt_of h (fun e => he e.symm)
        unfold sof
        refine List.find?_eq_none.2 fun s hs => ?_
        simp only [decide_eq_true_eq]
        rcases List.mem_cons.1 hs with rfl | hs
        · exact he
        · exact fun e => slt_irr _ (e ▸ slt_trans hgt (hc s hs))
theorem shotI_split (S : List Sn) (n : List UInt8) : S.take (shotI S n) = S.takeWhile (fun s => decide (s.name < n)) ∧ S.drop (shotI S n) = S.dropWhile fun s => decide (s.name < n) := by
  unfold shotI
  have e := List.takeWhile_append_dropWhile (p := fun s : Sn => decide (s.name < n)) (l := S)
  constructor
  · conv => lhs; rw [← e]
    rw [List.take_left']; simp
  · conv => lhs; rw [← e]
    rw [List.drop_left']; simp
theorem shotI_le (S : List Sn) (n : List UInt8) : shotI S n ≤ S.length := (List.takeWhile_sublist _).length_le
theorem filterMap_congr' {α β : Type} {f g : α → Option β} {l : List α} (h : ∀ a ∈ l, f a = g a) : l.filterMap f = l.filterMap g := by
  induction l with
  | nil => rfl
  | cons a l ih => rw [List.filterMap_cons, List.filterMap_cons, h a (by simp), ih fun b hb => h b (List.mem_cons_of_mem _ hb)]
theorem shotI_lt {n : List UInt8} : ∀ {S : List Sn} {i : Nat} {s : Sn}, S[i]? = some s → i ≤ shotI S n → (s.name < n ↔ i < shotI S n)
  | [], i, s, h, _ => by simp at h
  | c :: t, i, s, h, hle => by
    have e : shotI (c :: t) n = if c.name < n then shotI t n + 1 else 0 := by
      unfold shotI
      rw [List.takeWhile_cons]
      by_cases h : c.name < n <;> simp [h]
    rw [e] at hle ⊢
    cases i with
    | zero =>
      have : c = s := by simpa using h
      subst this
      by_cases hc : c.name < n <;> simp [hc]
    | succ i =>
      by_cases hc : c.name < n
      · rw [if_pos hc] at hle ⊢
        have := shotI_lt (n := n) (S := t) (i := i) (s := s) (by simpa using h) (by omega)
        rw [this]; omega
      · rw [if_neg hc] at hle; omega
/-- The newest live ones, from the front. -/
def scan : List Ver → List (List UInt8 × Int)
  | [] => []
  | v :: t => (if liveP 0 v && (liveV t v.name 0).isNone then [(v.name, v.gen)] else []) ++ scan t
theorem liveV_cons (v : Ver) (t : List Ver) (k : List UInt8) : liveV (v :: t) k 0 = if v.name = k then (match liveV t k 0 with | some x => some x | none => if liveP 0 v then some v else none) else liveV t k 0 := by
  unfold liveV fof
  rw [List.filter_cons]
  by_cases hk : v.name = k
  · rw [if_pos (by simpa using hk), if_pos hk, List.filter_cons]
    by_cases hl : liveP 0 v = true
    · rw [if_pos hl, List.getLast?_cons, if_pos hl]
      cases ((t.filter fun v => decide (v.name = k)).filter (liveP 0)).getLast? <;> rfl
    · rw [if_neg hl, if_neg hl]
      cases ((t.filter fun v => decide (v.name = k)).filter (liveP 0)).getLast? <;> rfl
  · rw [if_neg (by simpa using hk), if_neg hk]
theorem scan_names : ∀ {V : List Ver}, SrtN V → scan V = namesV V
  | [], _ => rfl
  | v :: t, h => by
    have ht := (List.pairwise_cons.1 h).2
    have ih := scan_names ht
    have hlt := nms_lt h
    have hltt := nms_lt ht
    have hn : nms (v :: t) = if (nms t).head? = some v.name then nms t else v.name :: nms t := rfl
    have hrest : ∀ l : List (List UInt8), v.name ∉ l → l.filterMap (fun k => (liveV (v :: t) k 0).map fun v => (k, v.gen)) = l.filterMap fun k => (liveV t k 0).map fun v => (k, v.gen) := fun l hl => by
      refine filterMap_congr' fun k hk => ?_
      rw [liveV_cons, if_neg fun e => hl (by rw [e]; exact hk)]
    unfold scan
    rw [ih]
    unfold namesV
    by_cases hh : (nms t).head? = some v.name
    · rw [if_pos hh] at hn
      rw [hn]
      cases hl : nms t with
      | nil => rw [hl] at hh; cases hh
      | cons k ks =>
        rw [hl] at hh hltt
        have hk : k = v.name := by simpa using hh
        subst hk
        have hno : v.name ∉ ks := fun hm => slt_irr _ ((List.pairwise_cons.1 hltt).1 _ hm)
        rw [List.filterMap_cons, List.filterMap_cons, hrest ks hno, liveV_cons, if_pos rfl]
        cases hlv : liveV t v.name 0 with
        | some x => simp
        | none => by_cases hp : liveP 0 v = true <;> simp [hp]
    · rw [if_neg hh] at hn
      rw [hn] at hlt ⊢
      have hno : v.name ∉ nms t := fun hm => slt_irr _ ((List.pairwise_cons.1 hlt).1 _ hm)
      have hlv : liveV t v.name 0 = none := by unfold liveV; rw [fof_none hno]; rfl
      rw [List.filterMap_cons, hrest _ hno, liveV_cons, if_pos rfl, hlv]
      by_cases hp : liveP 0 v = true <;> simp [hp]
theorem scan_idx {V t : List Ver} {i : Nat} {x : Ver} (hd : V.drop i = x :: t) : (lastIdx (findP x.name 0) V = some i) ↔ (liveP 0 x && (liveV t x.name 0).isNone) = true := by
  have hx : V[i]? = some x := by
    have : (V.drop i)[0]? = some x := by rw [hd]; rfl
    simpa using this
  have hlater : ∀ j, V[i + 1 + j]? = t[j]? := fun j => by
    have : (V.drop i)[j + 1]? = t[j]? := by rw [hd]; rfl
    rw [← this, List.getElem?_drop]; congr 1; omega
  have hnone : liveV t x.name 0 = none ↔ ∀ y ∈ t, findP x.name 0 y = false := by
    unfold liveV
    rw [List.getLast?_eq_none_iff, List.filter_eq_nil_iff]
    constructor
    · intro h y hy
      by_cases hn : y.name = x.name
      · have := h y (fof_mem.2 ⟨hy, hn⟩)
        simp [findP, hn, this]
      · simp [findP, hn]
    · intro h y hy
      obtain ⟨h1, h2⟩ := fof_mem.1 hy
      have := h y h1
      simp only [findP, h2, decide_true, Bool.true_and] at this
      simp [this]
  rw [Bool.and_eq_true, Option.isNone_iff_eq_none, hnone]
  constructor
  · intro h
    obtain ⟨y, h1, h2, _⟩ := lastIdx_some h
    rw [hx] at h1; cases h1
    refine ⟨by simpa [findP] using h2, fun y hy => ?_⟩
    obtain ⟨j, hj, rfl⟩ := List.getElem_of_mem hy
    cases hf : findP x.name 0 t[j] with
    | false => rfl
    | true =>
      exfalso
      have hnl := lastIdx_none (p := findP x.name 0) (l := t)
      rcases lastIdx_getLast (p := findP x.name 0) (l := t) with ⟨e1, _⟩ | ⟨j', z, e1, e2, e3, _⟩
      · have := hnl e1 t[j] hy
        rw [hf] at this; cases this
      · obtain ⟨hj'l, hj'e⟩ := List.getElem?_eq_some_iff.1 e2
        have hlast : lastIdx (findP x.name 0) V = some (i + 1 + j') := by
          refine lastIdx_of (a := z) (by rw [hlater]; exact e2) e3 fun m b hm hb => ?_
          obtain ⟨m', rfl⟩ : ∃ m', m = i + 1 + m' := ⟨m - (i + 1), by omega⟩
          rw [hlater] at hb
          cases hfb : findP x.name 0 b with
          | false => rfl
          | true =>
            have hle : ∀ {l : List Ver} {i : Nat}, lastIdx (findP x.name 0) l = some i → ∀ m b, i < m → l[m]? = some b → findP x.name 0 b = false := by
              intro l
              induction l with
              | nil => intro i h; cases h
              | cons c l ih =>
                intro i h m b hm hb
                unfold lastIdx at h
                cases hl : lastIdx (findP x.name 0) l with
                | some i' =>
                  rw [hl] at h; cases h
                  obtain ⟨m'', rfl⟩ : ∃ m'', m = m'' + 1 := ⟨m - 1, by omega⟩
                  exact ih hl m'' b (by omega) (by simpa using hb)
                | none =>
                  obtain ⟨m'', rfl⟩ : ∃ m'', m = m'' + 1 := ⟨m - 1, by omega⟩
                  exact lastIdx_none hl b (List.mem_of_getElem? (by simpa using hb))
            have := hle e1 m' b (by omega) hb
            rw [hfb] at this; cases this
        rw [h] at hlast
        simp at hlast
        omega
  · rintro ⟨h1, h2⟩
    refine lastIdx_of hx (by simp [findP, h1]) fun j b hj hb => ?_
    obtain ⟨m', rfl⟩ : ∃ m', j = i + 1 + m' := ⟨j - (i + 1), by omega⟩
    rw [hlater] at hb
    exact h2 b (List.mem_of_getElem? hb)
theorem scan_len : ∀ V : List Ver, (scan V).length ≤ V.length
  | [] => Nat.le_refl _
  | v :: t => by
    have := scan_len t
    unfold scan
    rw [List.length_append]
    split <;> simp <;> omega
attribute [local irreducible] S.pick S.ld S.ldN S.st S.box S.nc S.fad S.ixS S.ixA S.chr S.prt S.ext S.bin S.sh S.sbin S.beq S.neg1 S.com1 S.not1 S.cvt S.str1 S.lenS S.len S.cap S.lenM S.mx S.mn S.mkM S.cond S.gd S.fa S.dr S.rck S.join S.loop S.cvv S.eqv S.slc S.slcS S.b2s S.lk V U CF Gives E cel mpb osl ros dct dit itr lpo dfo
set_option maxRecDepth 4000
attribute [local irreducible] mo ansH rmo
theorem rsize (hw : Wf M) (h : sizeM M ≤ 9000000000 → E B (rmo a M :: H) (K (I (sizeM M : Nat)))) : E B (rmo a M :: H) (CF Tryz.prog 65 [ptr a] K) := by
  have hV : sumL (M.V.map fun v => v.text.length) ≤ 8192000000 := by
    have := sumL_le (l := M.V.map fun v => v.text.length) (c := 8192) (fun x hx => by obtain ⟨v, hv, rfl⟩ := List.mem_map.1 hx; exact (hw.vt v hv).1)
    have h2 := hw.n
    rw [List.length_map] at this; omega
  have hO : sumL (M.O.map fun v => v.text.length) ≤ 32768 := by
    have := sumL_le (l := M.O.map fun v => v.text.length) (c := 8192) (fun x hx => by obtain ⟨v, hv, rfl⟩ := List.mem_map.1 hx; exact (hw.ob v hv).2)
    have h2 := hw.ol
    rw [List.length_map] at this; omega
  replace h := h (by unfold sizeM; omega)
  have hMn := hw.n
  have hOl := hw.ol
  refine E_rmo fun vs ss os Lv Ls Lo Lh SS iv is io iV iS iO hsl hsh => ?_
  have hend := E_rmoS vs ss os (SS := SS) iV iS iO hsl hsh rfl rfl rfl h
  have rV := rs_pool (B := B) (enc := rvC) iV
  have rO := rs_pool (B := B) (enc := roC) iO
  refine E_mono (W := s65 _ K) ?_ fun _ => c65
  unfold s65
  have htk : ∀ {α : Type} (f : α → Nat) (l : List α) (i : Nat), sumL ((l.take i).map f) ≤ sumL (l.map f) := fun f l i => by
    conv => rhs; rw [← List.take_append_drop i l]
    rw [List.map_append, sumL_append]; omega
  have hsn : ∀ {α : Type} (f : α → Nat) (l : List α) (i : Nat) (x : α), l[i]? = some x → sumL ((l.take (i + 1)).map f) = sumL ((l.take i).map f) + f x := fun f l i x hx => by
    rw [List.take_add_one, hx, List.map_append, sumL_append]; simp [sumL]
  refine E_loop (σ := Nat) (fun i => i ≤ M.V.length) (fun i => [ptr a, I (sumL ((M.V.take i).map fun v => v.text.length) : Nat), I i]) (fun _ => cel true a 70 [vs, ss, os, I M.began, I M.now, I M.quota] :: spool rvC Lv :: spool rsC Ls :: spool roC Lo :: spool hC Lh :: H) (fun i => M.V.length - i) 0 (fun _ => rfl) rfl (Nat.zero_le _) (fun W hW => hW) ?_
  intro i K0 hi hk
  refine E_fa fun _ => ?_
  (repeat first | refine gS ?_ | refine gA fun _ => ?_ | refine gX fun _ _ => ?_ | refine gT ?_ | refine gF ?_ | refine gI ?_)
  refine E_if (fun hc => ?_) (fun hc => ?_)
  · have hx : M.V[i]? = some M.V[i] := List.getElem?_eq_getElem (by omega)
    generalize M.V[i] = x at hx
    have h1 := hsn (fun v : Ver => v.text.length) M.V i x hx
    have h2 := htk (fun v : Ver => v.text.length) M.V (i + 1)
    have hk' := hk (i + 1) (by omega) (by omega)
    simp only [h1] at hk'
    have e : ((sumL ((M.V.take i).map fun v => v.text.length) + x.text.length : Nat) : Int) = (sumL ((M.V.take i).map fun v => v.text.length) : Int) + (x.text.length : Int) := by omega
    simp only [e] at hk'
    (repeat first | refine gS ?_ | refine gA fun _ => ?_ | refine gX fun _ _ => ?_ | refine gT ?_ | refine gF ?_ | refine gI ?_)
    exact hk'
  · have hie : i = M.V.length := by omega
    subst hie
    rw [List.take_length]
    refine E_loop (σ := Nat) (fun i => i ≤ M.O.length) (fun i => [ptr a, I (sumL (M.V.map fun v => v.text.length) + sumL ((M.O.take i).map fun v => v.text.length) : Nat), I i]) (fun _ => cel true a 70 [vs, ss, os, I M.began, I M.now, I M.quota] :: spool rvC Lv :: spool rsC Ls :: spool roC Lo :: spool hC Lh :: H) (fun i => M.O.length - i) 0 (fun _ => rfl) (by simp [sumL]) (Nat.zero_le _) (fun W hW => hW) ?_
    intro i K1 hi hk1
    refine E_fa fun _ => ?_
    (repeat first | refine gS ?_ | refine gA fun _ => ?_ | refine gX fun _ _ => ?_ | refine gT ?_ | refine gF ?_ | refine gI ?_)
    refine E_if (fun hc => ?_) (fun hc => ?_)
    · have hx : M.O[i]? = some M.O[i] := List.getElem?_eq_getElem (by omega)
      generalize M.O[i] = x at hx
      have h1 := hsn (fun v : Se => v.text.length) M.O i x hx
      have h2 := htk (fun v : Se => v.text.length) M.O (i + 1)
      have hk' := hk1 (i + 1) (by omega) (by omega)
      simp only [h1] at hk'
      have e : ((sumL (M.V.map fun v => v.text.length) + (sumL ((M.O.take i).map fun v => v.text.length) + x.text.length) : Nat) : Int) = ((sumL (M.V.map fun v => v.text.length) + sumL ((M.O.take i).map fun v => v.text.length) : Nat) : Int) + (x.text.length : Int) := by omega
      simp only [e] at hk'
      (repeat first | refine gS ?_ | refine gA fun _ => ?_ | refine gX fun _ _ => ?_ | refine gT ?_ | refine gF ?_ | refine gI ?_)
      exact hk'
    · have hie : i = M.O.length := by omega
      subst hie
      rw [List.take_length]
      exact hend
theorem rcount {n : List UInt8} (hn : M.V.length ≤ 1000000) (h : E B (rmo a M :: H) (K (.tuple #[I (nms M.V).length, I (fof M.V n).length, I (topG (fof M.V n))]))) : E B (rmo a M :: H) (CF Tryz.prog 66 [ptr a, str n] K) := by
  refine E_rmo fun vs ss os Lv Ls Lo Lh SS iv is io iV iS iO hsl hsh => ?_
  have hend := E_rmoS vs ss os (SS := SS) iV iS iO hsl hsh rfl rfl rfl h
  have rV := rs_pool (B := B) (enc := rvC) iV
  refine E_mono (W := s66 _ _ K) ?_ fun _ => c66
  unfold s66
  refine E_loop (σ := Nat) (fun i => i ≤ M.V.length) (fun i => [ptr a, str n, I (nms (M.V.take i)).length, I (fof (M.V.take i) n).length, I (topG (fof (M.V.take i) n)), I i]) (fun _ => cel true a 70 [vs, ss, os, I M.began, I M.now, I M.quota] :: spool rvC Lv :: spool rsC Ls :: spool roC Lo :: spool hC Lh :: H) (fun i => M.V.length - i) 0 (fun _ => rfl) (by simp [nms, fof, topG]) (Nat.zero_le _) (fun W hW => hW) ?_
  intro i K0 hi hk
  refine E_fa fun _ => ?_
  (repeat first | refine gS ?_ | refine gA fun _ => ?_ | refine gX fun _ _ => ?_ | refine gT ?_ | refine gF ?_ | refine gI ?_)
  refine E_if (fun hc => ?_) (fun hc => ?_)
  · have hx : M.V[i]? = some M.V[i] := List.getElem?_eq_getElem (by omega)
    generalize M.V[i] = x at hx
    have hl1 := nms_len (M.V.take i)
    have hl2 := fof_len (M.V.take i) n
    rw [List.length_take] at hl1 hl2
    have hs : M.V.take (i + 1) = M.V.take i ++ [x] := by rw [List.take_add_one, hx]; rfl
    have hns : nms (M.V.take (i + 1)) = if (M.V.take i).getLast?.map (·.name) = some x.name then nms (M.V.take i) else nms (M.V.take i) ++ [x.name] := by rw [hs, nms_snoc]
    have hfs : fof (M.V.take (i + 1)) n = fof (M.V.take i) n ++ if x.name = n then [x] else [] := by
      rw [hs]
      unfold fof
      rw [List.filter_append]
      by_cases h : x.name = n <;> simp [h]
    refine E_join1 [ptr a, str n, I (nms (M.V.take (i + 1))).length, I (fof (M.V.take (i + 1)) n).length, I (topG (fof (M.V.take (i + 1)) n)), I i] (cel true a 70 [vs, ss, os, I M.began, I M.now, I M.quota] :: spool rvC Lv :: spool rsC Ls :: spool roC Lo :: spool hC Lh :: H) (fun q hq => ?_) ?_
    · refine E_join1 [ptr a, str n, I (nms (M.V.take (i + 1))).length, I (fof (M.V.take i) n).length, I (topG (fof (M.V.take i) n)), I i] (cel true a 70 [vs, ss, os, I M.began, I M.now, I M.quota] :: spool rvC Lv :: spool rsC Ls :: spool roC Lo :: spool hC Lh :: H) (fun q' hq' => ?_) ?_
      · refine E_join1 [ptr a, str n, I (nms (M.V.take i)).length, I (fof (M.V.take i) n).length, I (topG (fof (M.V.take i) n)), I i, .bool (decide (¬ (M.V.take i).getLast?.map (·.name) = some x.name))] (cel true a 70 [vs, ss, os, I M.began, I M.now, I M.quota] :: spool rvC Lv :: spool rsC Ls :: spool roC Lo :: spool hC Lh :: H) (fun q2 hq2 => ?_) ?_
        · have fin : ∀ b : Bool, decide (¬ (M.V.take i).getLast?.map (·.name) = some x.name) = b → E B (cel true a 70 [vs, ss, os, I M.began, I M.now, I M.quota] :: spool rvC Lv :: spool rsC Ls :: spool roC Lo :: spool hC Lh :: H) (app 7 q2 [ptr a, str n, I (nms (M.V.take i)).length, I (fof (M.V.take i) n).length, I (topG (fof (M.V.take i) n)), I i, .bool b]) := fun b hb => hb ▸ hq2
          refine E_dr ?_
          refine E_eql ?_
          by_cases h0 : i = 0
          · subst h0
            have h0' : ((0 : Nat) : Int) = 0 := rfl
            (repeat first | refine gS ?_ | refine gA fun _ => ?_ | refine gX fun _ _ => ?_ | refine gT ?_ | refine gF ?_ | refine gI ?_)
            exact fin true (by simp)
          · obtain ⟨j, rfl⟩ : ∃ j, i = j + 1 := ⟨i - 1, by omega⟩
            have hy : M.V[j]? = some M.V[j] := List.getElem?_eq_getElem (by omega)
            generalize M.V[j] = y at hy
            have hlast : (M.V.take (j + 1)).getLast? = some y := by rw [List.take_add_one, hy]; simp
            rw [hlast] at fin
            have h0' : ¬ ((j + 1 : Nat) : Int) = 0 := by omega
            (repeat first | refine gS ?_ | refine gA fun _ => ?_ | refine gX fun _ _ => ?_ | refine gT ?_ | refine gF ?_ | refine gI ?_)
            rw [show ((j + 1 : Nat) : Int) - 1 = (j : Int) by omega]
            (repeat first | refine gS ?_ | refine gA fun _ => ?_ | refine gX fun _ _ => ?_ | refine gT ?_ | refine gF ?_ | refine gI ?_)
            refine fin _ ?_
            rw [decide_eq_decide]
            simp only [Option.map_some, Option.some.injEq]
            constructor
            · exact fun h e => h e.symm
            · exact fun h e => h e.symm
        · refine E_fa fun _ => ?_
          refine E_if (fun hc2 => ?_) (fun hc2 => ?_)
          · rw [hns, if_neg hc2, List.length_append] at hq'
            refine E_addI (by omega) (by omega) ?_
            exact hq'
          · rw [hns, if_pos (Decidable.not_not.1 hc2)] at hq'
            exact hq'
      · refine E_fa fun _ => ?_
        (repeat first | refine gS ?_ | refine gA fun _ => ?_ | refine gX fun _ _ => ?_ | refine gT ?_ | refine gF ?_ | refine gI ?_)
        by_cases h1 : x.name = n
        · rw [hfs, if_pos h1, topG_snoc, List.length_append] at hq
          (repeat first | refine gS ?_ | refine gA fun _ => ?_ | refine gX fun _ _ => ?_ | refine gT ?_ | refine gF ?_ | refine gI ?_)
          exact hq
        · rw [hfs, if_neg h1, List.append_nil] at hq
          (repeat first | refine gS ?_ | refine gA fun _ => ?_ | refine gX fun _ _ => ?_ | refine gT ?_ | refine gF ?_ | refine gI ?_)
          exact hq
    · refine E_fa fun _ => ?_
      refine E_addI (by omega) (by omega) ?_
      exact hk (i + 1) (by omega) (by omega)
  · have hie : i = M.V.length := by omega
    subst hie
    rw [List.take_length]
    exact hend
theorem rshot {n : List UInt8} (hw : Wf M) (hs16 : M.S.length ≤ 1000000) (h : E B (rmo a M :: H) (K (.tuple #[I (shotI M.S n), .bool (sof M.S n).isSome]))) : E B (rmo a M :: H) (CF Tryz.prog 67 [ptr a, str n] K) := by
  refine E_rmo fun vs ss os Lv Ls Lo Lh SS iv is io iV iS iO hsl hsh => ?_
  have hend := E_rmoS vs ss os (SS := SS) iV iS iO hsl hsh rfl rfl rfl h
  have rS := rs_pool (B := B) (enc := rsC) iS
  refine E_mono (W := s67 _ _ K) ?_ fun _ => c67
  unfold s67
  have hle := shotI_le M.S n
  refine E_loop (σ := Nat) (fun i => i ≤ shotI M.S n) (fun i => [ptr a, str n, I i]) (fun _ => cel true a 70 [vs, ss, os, I M.began, I M.now, I M.quota] :: spool rvC Lv :: spool rsC Ls :: spool roC Lo :: spool hC Lh :: H) (fun i => shotI M.S n - i) 0 (fun _ => rfl) rfl (Nat.zero_le _) (fun W hW => hW) ?_
  intro i K0 hi hk
  refine E_fa fun _ => ?_
  have hSx : ∀ p, SS[i]? = some p → ∃ s, M.S[i]? = some s ∧ p.1 = s.name := fun p hp => by
    have hi2 : i < M.S.length := by rw [← hsl]; exact (List.getElem?_eq_some_iff.1 hp).1
    exact ⟨M.S[i], List.getElem?_eq_getElem hi2, (hsh i p _ hp (List.getElem?_eq_getElem hi2)).1⟩
  refine E_join1 [ptr a, str n, I i, .bool (decide (i < shotI M.S n))] (cel true a 70 [vs, ss, os, I M.began, I M.now, I M.quota] :: spool rvC Lv :: spool rsC Ls :: spool roC Lo :: spool hC Lh :: H) (fun q hq => ?_) ?_
  · have fin : ∀ b : Bool, decide (i < shotI M.S n) = b → E B (cel true a 70 [vs, ss, os, I M.began, I M.now, I M.quota] :: spool rvC Lv :: spool rsC Ls :: spool roC Lo :: spool hC Lh :: H) (app 4 q [ptr a, str n, I i, .bool b]) := fun b hb => hb ▸ hq
    (repeat first | refine gS ?_ | refine gA fun _ => ?_ | refine gX fun _ _ => ?_ | refine gT ?_ | refine gF ?_ | refine gI ?_)
    by_cases h0 : (i : Int) < (SS.length : Int)
    · have hx : SS[i]? = some SS[i] := List.getElem?_eq_getElem (by omega)
      generalize SS[i] = p at hx
      obtain ⟨s, h1, h2⟩ := hSx p hx
      (repeat first | refine gS ?_ | refine gA fun _ => ?_ | refine gX fun _ _ => ?_ | refine gT ?_ | refine gF ?_ | refine gI ?_)
      refine fin _ ?_
      rw [h2, decide_eq_decide]
      exact (shotI_lt h1 hi).symm
    · (repeat first | refine gS ?_ | refine gA fun _ => ?_ | refine gX fun _ _ => ?_ | refine gT ?_ | refine gF ?_ | refine gI ?_)
      exact fin false (decide_eq_false (by omega))
  · refine E_fa fun _ => ?_
    by_cases hc : i < shotI M.S n
    · rw [decide_eq_true hc]
      (repeat first | refine gS ?_ | refine gA fun _ => ?_ | refine gX fun _ _ => ?_ | refine gT ?_ | refine gF ?_ | refine gI ?_)
      exact hk (i + 1) (by omega) (by omega)
    · rw [decide_eq_false hc]
      have hie : i = shotI M.S n := by omega
      (repeat first | refine gS ?_ | refine gA fun _ => ?_ | refine gX fun _ _ => ?_ | refine gT ?_ | refine gF ?_ | refine gI ?_)
      by_cases h0 : (i : Int) < (SS.length : Int)
      · have hx : SS[i]? = some SS[i] := List.getElem?_eq_getElem (by omega)
        generalize SS[i] = p at hx
        obtain ⟨s, h1, h2⟩ := hSx p hx
        (repeat first | refine gS ?_ | refine gA fun _ => ?_ | refine gX fun _ _ => ?_ | refine gT ?_ | refine gF ?_ | refine gI ?_)
        have e : decide (p.1 = n) = (sof M.S n).isSome := by
          rw [hie] at h1
          rcases shotI_is (n := n) hw.ss with ⟨g1, g2⟩ | ⟨s', g1, g2, g3⟩
          · rw [g1, h2]
            exact decide_eq_false (g2 s h1)
          · rw [g1] at h1; cases h1
            rw [g3, h2]
            exact decide_eq_true g2
        rw [e, hie]
        exact hend
      · (repeat first | refine gS ?_ | refine gA fun _ => ?_ | refine gX fun _ _ => ?_ | refine gT ?_ | refine gF ?_ | refine gI ?_)
        have e : (sof M.S n).isSome = false := by
          rcases shotI_is (n := n) hw.ss with ⟨g1, g2⟩ | ⟨s', g1, g2, g3⟩
          · rw [g1]; rfl
          · have := (List.getElem?_eq_some_iff.1 g1).1
            omega
        rw [e] at hend
        rw [hie]
        exact hend
theorem rnames (hw : Wf M) (h : ∀ v [CellI v], E B (sls hC 106 2 v (namesV M.V) :: rmo a M :: H) (K v)) : E B (rmo a M :: H) (CF Tryz.prog 23 [ptr a] K) := by
  have hMn := hw.n
  refine E_mono (W := s23 _ K) ?_ fun _ => c23
  unfold s23
  refine E_bsl0 u_helds elt_held fun bz => ?_
  refine E_slsC (enc := hC) [] 0 rfl rfl ?_
  rw [← scan_names hw.v.n] at h
  refine E_loop (σ := Nat × Value × List (List UInt8 × Int)) (fun s => s.1 ≤ M.V.length ∧ isCell s.2.1 = true ∧ s.2.2 ++ scan (M.V.drop s.1) = scan M.V) (fun s => [ptr a, s.2.1, I s.1]) (fun s => sls hC 106 2 s.2.1 s.2.2 :: rmo a M :: H) (fun s => M.V.length - s.1) (0, .slice (some ⟨bz, 0, none⟩) 0 0, []) (fun _ => rfl) rfl ⟨Nat.zero_le _, rfl, by simp⟩ (fun W hW => hW) ?_
  rintro ⟨i, ov, out⟩ K0 ⟨hi, hov, hsc⟩ hk
  simp only at hi hov hsc hk ⊢
  have : CellI ov := ⟨hov⟩
  have hol : out.length ≤ 1000000 := by
    have h1 := scan_len M.V
    rw [← hsc, List.length_append] at h1
    omega
  refine E_fa fun _ => ?_
  refine fd (a := rmo a M) ?_
  refine E_rmo fun vs ss os Lv Ls Lo Lh SS iv is io iV iS iO hsl hsh => ?_
  have rV := rs_pool (B := B) (enc := rvC) iV
  (repeat first | refine gS ?_ | refine gA fun _ => ?_ | refine gX fun _ _ => ?_ | refine gT ?_ | refine gF ?_ | refine gI ?_)
  refine E_if (fun hc => ?_) (fun hc => ?_)
  · have hx : M.V[i]? = some M.V[i] := List.getElem?_eq_getElem (by omega)
    have hdr : M.V.drop i = M.V[i] :: M.V.drop (i + 1) := by rw [List.drop_eq_getElem_cons (by omega)]
    generalize M.V[i] = x at hx hdr
    have hcond := scan_idx hdr
    have hss : scan (M.V.drop i) = (if liveP 0 x && (liveV (M.V.drop (i + 1)) x.name 0).isNone then [(x.name, x.gen)] else []) ++ scan (M.V.drop (i + 1)) := by rw [hdr]; rfl
    rw [hss] at hsc
    refine E_joinC (σ := Value × List (List UInt8 × Int)) (fun s => isCell s.1 = true ∧ s.2 ++ scan (M.V.drop (i + 1)) = scan M.V) (fun s => [ptr a, s.1, I i]) (fun s => sls hC 106 2 s.1 s.2 :: rmo a M :: H) (fun q hq => ?_) (fun s hs => ?_)
    · (repeat first | refine gS ?_ | refine gA fun _ => ?_ | refine gX fun _ _ => ?_ | refine gT ?_ | refine gF ?_ | refine gI ?_)
      refine E_rmoS vs ss os (SS := SS) iV iS iO hsl hsh rfl rfl rfl ?_
      refine rfind hw.n ?_
      refine E_rmo fun vs ss os Lv Ls Lo Lh SS iv is io iV iS iO hsl hsh => ?_
      have rV := rs_pool (B := B) (enc := rvC) iV
      by_cases hl : lastIdx (findP x.name 0) M.V = some i
      · rw [hl, show idxI (some i) = (i : Int) from rfl]
        rw [hcond.1 hl] at hsc
        simp only [if_true] at hsc
        (repeat first | refine gS ?_ | refine gA fun _ => ?_ | refine gX fun _ _ => ?_ | refine gT ?_ | refine gF ?_ | refine gI ?_)
        refine E_ifT rfl ?_
        (repeat first | refine gS ?_ | refine gA fun _ => ?_ | refine gX fun _ _ => ?_ | refine gT ?_ | refine gF ?_ | refine gI ?_)
        refine E_build (l := [str x.name, I x.gen]) str_held ?_
        refine E_use (sls hC 106 2 ov) (E_sapp1 (x.name, x.gen) u_helds elt_held rfl (by decide) (by omega) (by omega) fun u' _ => ?_)
        refine sm (G := cel true a 70 [vs, ss, os, I M.began, I M.now, I M.quota] :: spool rvC Lv :: spool rsC Ls :: spool roC Lo :: spool hC Lh :: sls hC 106 2 u' (out ++ [(x.name, x.gen)]) :: H) ?_
        refine E_rmoS vs ss os (SS := SS) iV iS iO hsl hsh rfl rfl rfl ?_
        exact sm (hq (u', out ++ [(x.name, x.gen)]) ⟨CellI.pf, by simp only; rw [List.append_assoc]; exact hsc⟩)
      · have hl2 : ¬ idxI (lastIdx (findP x.name 0) M.V) = (i : Int) := by
          cases hli : lastIdx (findP x.name 0) M.V with
          | none => show ¬ (-1 : Int) = _; omega
          | some j => show ¬ ((j : Nat) : Int) = _; intro e; exact hl (by rw [hli]; congr 1; omega)
        have hcf : (liveP 0 x && (liveV (M.V.drop (i + 1)) x.name 0).isNone) = false := by
          rw [← Bool.not_eq_true]; exact fun e => hl (hcond.2 e)
        rw [hcf] at hsc
        simp only [Bool.false_eq_true, if_false, List.nil_append] at hsc
        (repeat first | refine gS ?_ | refine gA fun _ => ?_ | refine gX fun _ _ => ?_ | refine gT ?_ | refine gF ?_ | refine gI ?_)
        refine E_rmoS vs ss os (SS := SS) iV iS iO hsl hsh rfl rfl rfl ?_
        exact sm (hq (ov, out) ⟨hov, hsc⟩)
    · refine E_fa fun _ => ?_
      refine E_addI (by omega) (by omega) ?_
      exact hk (i + 1, s) ⟨by simp only; omega, hs⟩ (by simp only; omega)
  · have hie : i = M.V.length := by omega
    subst hie
    rw [List.drop_length] at hsc
    simp only [scan, List.append_nil] at hsc
    rw [← hsc] at h
    refine E_rmoS vs ss os (SS := SS) iV iS iO hsl hsh rfl rfl rfl ?_
    exact sm (h ov)
end Go.Proofs.YtabpaknfenpkoaaGreat.Mod
