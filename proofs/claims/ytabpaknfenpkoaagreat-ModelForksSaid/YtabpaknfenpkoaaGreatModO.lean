/-
  Model: stays.
-/
import Derived.Test.YtabpaknfenpkoaaGreatModN
set_option linter.unusedSimpArgs false
set_option linter.unusedVariables false
set_option linter.unusedSectionVars false
namespace Go.Proofs.YtabpaknfenpkoaaGreat.Mod
open Go Go.SL Go.Proofs Go.Proofs.YtabpaknfenpkoaaGreat.Sh
variable {B : World} {H : List Asrt} {K : Value → WT} {W : WT}
variable {a : Nat} {M : Mo} {o : Od} {bv kv : Value} {t u : Int}
theorem liveL_srt {V : List Ver} (h : SrtG V) (k : List UInt8) : (liveL V k).Pairwise fun a b => a.gen < b.gen := (fof_srt h k).sublist List.filter_sublist
/-- How many are behind the i-th one. -/
theorem count_after : ∀ {L : List Ver} {i : Nat} {x : Ver}, L.Pairwise (fun a b => a.gen < b.gen) → L[i]? = some x → (L.countP fun w => decide (x.gen < w.gen)) = L.length - i - 1
  | [], i, x, _, h => by simp at h
  | c :: t, 0, x, hp, h => by
    have e : c = x := by simpa using h
    subst e
    rw [List.countP_cons_of_neg (by simp)]
    have : (t.countP fun w => decide (c.gen < w.gen)) = t.length := List.countP_eq_length.2 fun w hw => by simpa using (List.pairwise_cons.1 hp).1 w hw
    rw [this]; simp
  | c :: t, i + 1, x, hp, h => by
    have hx : t[i]? = some x := by simpa using h
    have hlt := (List.pairwise_cons.1 hp).1 x (List.mem_of_getElem? hx)
    rw [List.countP_cons_of_neg (by simp; omega), count_after (List.pairwise_cons.1 hp).2 hx]
    simp
theorem gen_lt_iff {L : List Ver} {i j : Nat} {x y : Ver} (hp : L.Pairwise (fun a b => a.gen < b.gen)) (hx : L[i]? = some x) (hy : L[j]? = some y) : x.gen < y.gen ↔ i < j := by
  obtain ⟨hi, hxe⟩ := List.getElem?_eq_some_iff.1 hx
  obtain ⟨hj, hye⟩ := List.getElem?_eq_some_iff.1 hy
  constructor
  · intro h
    rcases Nat.lt_trichotomy i j with hlt | heq | hgt
    · exact hlt
    · subst heq; rw [hx] at hy; cases hy; omega
    · have := List.pairwise_iff_getElem.1 hp j i hj hi hgt
      rw [hxe, hye] at this; omega
  · intro h
    have := List.pairwise_iff_getElem.1 hp i j hi hj h
    rw [hxe, hye] at this; exact this
abbrev spanF (o : Od) (x : Ver) (w : Ver) : Option Int := if x.time / o.step < w.time / o.step then some (w.time / o.step) else none
abbrev sameF (o : Od) (x : Ver) (w : Ver) : Bool := decide (x.gen < w.gen) && decide (w.time / o.step = x.time / o.step)
theorem u_mapIB : Tryz.prog.underlying 138 = some (.map 3 4) := by kernel_rfl
theorem key_mapIB : Key Tryz.prog 138 3 4 (.int .i64) := ⟨u_mapIB, u_int, rfl⟩
attribute [local irreducible] S.pick S.ld S.ldN S.st S.box S.nc S.fad S.ixS S.ixA S.chr S.prt S.ext S.bin S.sh S.sbin S.beq S.neg1 S.com1 S.not1 S.cvt S.str1 S.lenS S.len S.cap S.lenM S.mx S.mn S.mkM S.cond S.gd S.fa S.dr S.rck S.join S.loop S.cvv S.eqv S.slc S.slcS S.b2s S.lk V U CF Gives E cel mpb osl ros dct dit itr lpo dfo
set_option maxRecDepth 4000
attribute [local irreducible] mo ansH
theorem staysF {v : Value} {L : List Ver} {x : Ver} {i : Nat} (hw : Wf M) (hk : keepOk o = true) (hL : L = liveL M.V x.name) (hx : L[i]? = some x) [CellI v] [hrs : Rs B H v vC L]
    (h : E B (mo a M :: H) (K (.bool (staysM M o x)))) : E B (mo a M :: H) (CF Tryz.prog 82 [ptr a, v, I i, .agg #[I o.last, I o.young, I o.step, I o.count]] K) := by
  have hk1 : 0 ≤ o.last ∧ o.last ≤ 9007199254740991 ∧ 0 ≤ o.young ∧ o.young ≤ 9007199254740991 ∧ 1 ≤ o.step ∧ o.step ≤ 9007199254740991 ∧ 0 ≤ o.count ∧ o.count ≤ 9007199254740991 := by simpa [keepOk] using hk
  have hsrt : L.Pairwise fun a b => a.gen < b.gen := by rw [hL]; exact liveL_srt hw.v _
  have hLV : ∀ w ∈ L, w ∈ M.V := fun w hm => by
    rw [hL] at hm
    exact (fof_mem.1 (List.mem_filter.1 hm).1).1
  have hLl : L.length ≤ 1000000 := by
    have h1 : L.length ≤ (fof M.V x.name).length := by rw [hL]; exact List.length_filter_le _ _
    have h2 := fof_len M.V x.name
    have h3 := hw.n
    omega
  have hxt := (hw.vt x (hLV x (List.mem_of_getElem? hx))).2
  have hnow := hw.t
  have hcnt := count_after hsrt hx
  obtain ⟨hil, _⟩ := List.getElem?_eq_some_iff.1 hx
  have hst : staysM M o x = (decide (L.length - (i : Int) ≤ o.last) || decide (M.now - o.young < x.time) || (!(L.any (sameF o x)) && decide (((L.filterMap (spanF o x)).foldl addN []).length < o.count))) := by
    unfold staysM
    rw [← hL, hcnt]
    congr 2
    rw [decide_eq_decide]; omega
  refine E_mono (W := s82 _ _ _ _ K) ?_ fun _ => c82
  unfold s82
  (repeat first | refine gS ?_ | refine gA fun _ => ?_ | refine gX fun _ _ => ?_ | refine gT ?_ | refine gF ?_ | refine gI ?_)
  rename_i bk
  refine E_join1 [v, I i, ptr bk, .bool (decide (L.length - (i : Int) ≤ o.last ∨ M.now - o.young < x.time))] (cel true bk 37 [I o.last, I o.young, I o.step, I o.count] :: mo a M :: H) (fun q hq => ?_) ?_
  · have fin2 : ∀ b : Bool, decide (L.length - (i : Int) ≤ o.last ∨ M.now - o.young < x.time) = b → E B (cel true bk 37 [I o.last, I o.young, I o.step, I o.count] :: mo a M :: H) (app 4 q [v, I i, ptr bk, .bool b]) := fun b hb => hb ▸ hq
    by_cases h1 : L.length - (i : Int) ≤ o.last
    · (repeat first | refine gS ?_ | refine gA fun _ => ?_ | refine gX fun _ _ => ?_ | refine gT ?_ | refine gF ?_ | refine gI ?_)
      exact sm (fin2 true (decide_eq_true (.inl h1)))
    · (repeat first | refine gS ?_ | refine gA fun _ => ?_ | refine gX fun _ _ => ?_ | refine gT ?_ | refine gF ?_ | refine gI ?_)
      refine fd (a := mo a M) (E_mo fun r1 r2 r3 kf ks ko Lv Lh hf hs ho => ?_)
      (repeat first | refine gS ?_ | refine gA fun _ => ?_ | refine gX fun _ _ => ?_ | refine gT ?_ | refine gF ?_ | refine gI ?_)
      refine sm (G := cel true a 82 [.map (some r1), .map (some r2), .map (some r3), I M.began, I M.now, I M.quota] :: dct kL true r1 kf :: dct kL true r2 ks :: dct kI true r3 ko :: spool vC Lv :: dpool kL Lh :: cel true bk 37 [I o.last, I o.young, I o.step, I o.count] :: H) ?_
      refine E_moS (M := M) r1 r2 r3 hf hs ho rfl rfl rfl ?_
      refine sm (fin2 _ ?_)
      rw [decide_eq_decide]
      constructor
      · rintro (h | h)
        · exact (h1 h).elim
        · exact h
      · exact .inr
  · refine E_fa fun _ => ?_
    refine E_if (fun hc => ?_) (fun hc => ?_)
    · have e : staysM M o x = true := by
        rw [hst]
        rcases hc with hc | hc
        · rw [decide_eq_true hc]; rfl
        · rw [decide_eq_true hc, Bool.or_true]; rfl
      rw [e] at h
      exact sm h
    · have hst2 : staysM M o x = (!(L.any (sameF o x)) && decide (((L.filterMap (spanF o x)).foldl addN []).length < o.count)) := by
        rw [hst, decide_eq_false fun h => hc (.inl h), decide_eq_false fun h => hc (.inr h)]; rfl
      rw [hst2] at h
      clear hst hst2 hcnt
      refine E_mkM fun rm => ?_
      refine E_dnew (κ := Int) (enc := kI) ?_
      (repeat first | refine gS ?_ | refine gA fun _ => ?_ | refine gX fun _ _ => ?_ | refine gT ?_ | refine gF ?_ | refine gI ?_)
      refine E_loop (σ := Nat × List (Int × Value)) (fun s => s.1 ≤ L.length ∧ (L.take s.1).any (sameF o x) = false ∧ s.2.map (·.1) = ((L.take s.1).filterMap (spanF o x)).foldl addN [])
        (fun s => [v, I i, ptr bk, .map (some rm), v, I L.length, I s.1]) (fun s => dct kI true rm s.2 :: cel true bk 37 [I o.last, I o.young, I o.step, I o.count] :: mo a M :: H) (fun s => L.length - s.1) (0, []) (fun _ => rfl) rfl ⟨Nat.zero_le _, by simp, by simp⟩ (fun W hW => sm hW) ?_
      rintro ⟨j, km⟩ K0 ⟨hj, hno, hkm⟩ hk0
      simp only at hj hno hkm hk0 ⊢
      refine E_fa fun _ => ?_
      (repeat first | refine gS ?_ | refine gA fun _ => ?_ | refine gX fun _ _ => ?_ | refine gT ?_ | refine gF ?_ | refine gI ?_)
      refine E_if (fun hc2 => ?_) (fun hc2 => ?_)
      · have hy : L[j]? = some L[j] := List.getElem?_eq_getElem (by omega)
        generalize L[j] = y at hy
        have hyt := (hw.vt y (hLV y (List.mem_of_getElem? hy))).2
        have hstep : (L.take (j + 1)).any (sameF o x) = ((L.take j).any (sameF o x) || sameF o x y) := by
          rw [List.take_add_one, hy, List.any_append]; simp
        have hfm : (L.take (j + 1)).filterMap (spanF o x) = (L.take j).filterMap (spanF o x) ++ (match spanF o x y with | some z => [z] | none => []) := by
          rw [List.take_add_one, hy, List.filterMap_append]
          congr 1
          cases hsp : spanF o x y with
          | none => simp [hsp]
          | some z => simp [hsp]
        have hlt := gen_lt_iff hsrt hx hy
        refine E_joinC (σ := List (Int × Value)) (fun km => (L.take (j + 1)).any (sameF o x) = false ∧ km.map (·.1) = ((L.take (j + 1)).filterMap (spanF o x)).foldl addN [])
          (fun km => [v, I i, ptr bk, .map (some rm), v, I L.length, I j]) (fun km => dct kI true rm km :: cel true bk 37 [I o.last, I o.young, I o.step, I o.count] :: mo a M :: H) (fun q hq => ?_) (fun km hkm => ?_)
        · (repeat first | refine gS ?_ | refine gA fun _ => ?_ | refine gX fun _ _ => ?_ | refine gT ?_ | refine gF ?_ | refine gI ?_)
          unfold vC
          (repeat first | refine gS ?_ | refine gA fun _ => ?_ | refine gX fun _ _ => ?_ | refine gT ?_ | refine gF ?_ | refine gI ?_)
          refine E_quoI (by omega) (by omega) (by omega) ?_
          refine E_join1 [v, I i, ptr bk, .map (some rm), I (y.time / o.step), v, I L.length, I j, .bool (sameF o x y)] (dct kI true rm km :: cel true bk 37 [I o.last, I o.young, I o.step, I o.count] :: mo a M :: H) (fun q' hq' => ?_) ?_
          · have fin3 : ∀ b : Bool, sameF o x y = b → E B (dct kI true rm km :: cel true bk 37 [I o.last, I o.young, I o.step, I o.count] :: mo a M :: H) (app 9 q' [v, I i, ptr bk, .map (some rm), I (y.time / o.step), v, I L.length, I j, .bool b]) := fun b hb => hb ▸ hq'
            (repeat first | refine gS ?_ | refine gA fun _ => ?_ | refine gX fun _ _ => ?_ | refine gT ?_ | refine gF ?_ | refine gI ?_)
            refine E_quoI (by omega) (by omega) (by omega) ?_
            by_cases h1 : y.time / o.step = x.time / o.step
            · (repeat first | refine gS ?_ | refine gA fun _ => ?_ | refine gX fun _ _ => ?_ | refine gT ?_ | refine gF ?_ | refine gI ?_)
              refine sm (fin3 _ ?_)
              show (decide (x.gen < y.gen) && decide (y.time / o.step = x.time / o.step)) = _
              rw [decide_eq_true h1, Bool.and_true, decide_eq_decide]
              constructor
              · intro h; have := hlt.1 h; omega
              · intro h; exact hlt.2 (by omega)
            · (repeat first | refine gS ?_ | refine gA fun _ => ?_ | refine gX fun _ _ => ?_ | refine gT ?_ | refine gF ?_ | refine gI ?_)
              refine sm (fin3 false ?_)
              show (decide (x.gen < y.gen) && decide (y.time / o.step = x.time / o.step)) = _
              rw [decide_eq_false h1, Bool.and_false]
          · refine E_fa fun _ => ?_
            cases hs : sameF o x y with
            | true =>
              refine E_tt ?_
              have : L.any (sameF o x) = true := List.any_eq_true.2 ⟨y, List.mem_of_getElem? hy, hs⟩
              rw [this] at h
              exact sm h
            | false =>
              refine E_ff ?_
              rw [hs, hno] at hstep
              (repeat first | refine gS ?_ | refine gA fun _ => ?_ | refine gX fun _ _ => ?_ | refine gT ?_ | refine gF ?_ | refine gI ?_)
              refine E_quoI (by omega) (by omega) (by omega) ?_
              refine E_gtr ?_
              refine E_if (fun hc3 => ?_) (fun hc3 => ?_)
              · refine E_dmu (κ := Int) key_mapIB ?_
                have hsp : spanF o x y = some (y.time / o.step) := if_pos hc3
                rw [hsp] at hfm
                refine hq _ ⟨hstep, ?_⟩
                rw [dput_keys, hfm, List.foldl_append, ← hkm]
                simp only [List.foldl_cons, List.foldl_nil]
                unfold addN
                have hiff : (km.lookup (y.time / o.step)).isSome = true ↔ y.time / o.step ∈ km.map (·.1) := by
                  have := lookup_none (kv := km) (k := y.time / o.step)
                  cases hl : km.lookup (y.time / o.step) with
                  | none => simp only [Option.isSome_none, Bool.false_eq_true, false_iff]; exact this.1 hl
                  | some z =>
                    simp only [Option.isSome_some, true_iff]
                    exact Classical.byContradiction fun hn => by rw [this.2 hn] at hl; cases hl
                by_cases hm : y.time / o.step ∈ km.map (·.1)
                · rw [if_pos hm, if_pos (hiff.2 hm)]
                · rw [if_neg hm, if_neg fun h => hm (hiff.1 h)]
              · have hsp : spanF o x y = none := if_neg hc3
                rw [hsp, List.append_nil] at hfm
                exact hq _ ⟨hstep, by rw [hfm]; exact hkm⟩
        · refine E_fa fun _ => ?_
          refine E_addI (by omega) (by omega) ?_
          exact hk0 (j + 1, km) ⟨by simp only; omega, hkm⟩ (by simp only; omega)
      · have hje : j = L.length := by omega
        subst hje
        rw [List.take_length] at hno hkm
        refine E_dlen (κ := Int) ?_
        have hl : km.length = ((L.filterMap (spanF o x)).foldl addN []).length := by rw [← hkm, List.length_map]
        rw [hno, ← hl] at h
        (repeat first | refine gS ?_ | refine gA fun _ => ?_ | refine gX fun _ _ => ?_ | refine gT ?_ | refine gF ?_ | refine gI ?_)
        exact sm h
end Go.Proofs.YtabpaknfenpkoaaGreat.Mod
