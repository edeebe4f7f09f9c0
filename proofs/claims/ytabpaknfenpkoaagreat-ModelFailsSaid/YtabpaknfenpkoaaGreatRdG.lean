/-
  Model: the document's told.
-/
import Derived.Test.YtabpaknfenpkoaaGreatRdF
set_option linter.unusedSimpArgs false
set_option linter.unusedVariables false
set_option linter.unusedSectionVars false
namespace Go.Proofs.YtabpaknfenpkoaaGreat.Mod
open Go Go.SL Go.Proofs Go.Proofs.YtabpaknfenpkoaaGreat.Sh
variable {B : World} {H : List Asrt} {K : Value → WT} {W : WT}
variable {a : Nat} {M : Mo} {o : Od} {bv kv : Value} {t u : Int}
theorem find_live {V : List Ver} (n : List UInt8) (g : Int) : (lastIdx (findP n g) V = none ∧ liveV V n g = none) ∨ ∃ i x, lastIdx (findP n g) V = some i ∧ V[i]? = some x ∧ liveV V n g = some x := by
  have e : liveV V n g = (V.filter (findP n g)).getLast? := by
    unfold liveV fof
    rw [List.filter_filter]
    congr 1
    refine List.filter_congr fun v _ => ?_
    unfold findP
    exact Bool.and_comm _ _
  rw [e]
  rcases lastIdx_getLast (p := findP n g) (l := V) with ⟨e1, e2⟩ | ⟨i, x, e1, e2, _, e4⟩
  · exact .inl ⟨e1, e2⟩
  · exact .inr ⟨i, x, e1, e2, e4⟩
/-- What a place says of a shown generation. -/
def Shows (M : Mo) (held : List (List UInt8 × Int)) (name : List UInt8) (r : Option Nat) : Prop := ∀ n, r = some n → ∃ x, M.V[n]? = some x ∧ x.name = name ∧ (name, x.gen) ∈ held
def hit (held : List UInt8 × Int) (name : List UInt8) (w : Ver) : Prop := held.1 = name ∧ w.name = name ∧ w.gen = held.2
attribute [local irreducible] S.pick S.ld S.ldN S.st S.box S.nc S.fad S.ixS S.ixA S.chr S.prt S.ext S.bin S.sh S.sbin S.beq S.neg1 S.com1 S.not1 S.cvt S.str1 S.lenS S.len S.cap S.lenM S.mx S.mn S.mkM S.cond S.gd S.fa S.dr S.rck S.join S.loop S.cvv S.eqv S.slc S.slcS S.b2s S.lk V U CF Gives E cel mpb osl ros dct dit itr lpo dfo
set_option maxRecDepth 4000
attribute [local irreducible] mo ansH rmo
theorem rtold [CellI bv] [CellI kv] (hw : Wf M) (hs16 : M.S.length ≤ 1000000) (hh : ∀ s ∈ M.S, s.held.length ≤ 1000000) (hd : o.d = 5 ∨ o.d = 6 ∨ o.d = 7 ∨ o.d = 8 ∨ o.d = 9) (h : ∀ rv, E B (ansH (toldA M o) rv :: rmo a M :: H) (K rv)) : E B (rmo a M :: H) (CF Tryz.prog 33 [ptr a, opV o bv kv t u] K) := by
  have hMn := hw.n
  refine E_mono (W := s33 _ _ K) ?_ fun _ => c33
  unfold s33
  unfold toldA at h
  (repeat first | refine gS ?_ | refine gA fun _ => ?_ | refine gX fun _ _ => ?_ | refine gT ?_ | refine gF ?_ | refine gI ?_)
  rename_i bo br
  refine E_if (fun hc => ?_) (fun hc => ?_)
  · rw [if_neg (by omega), if_neg (by omega), if_neg (by omega), if_neg (by omega)] at h
    (repeat first | refine gS ?_ | refine gA fun _ => ?_ | refine gX fun _ _ => ?_ | refine gT ?_ | refine gF ?_ | refine gI ?_)
    refine fd (a := rmo a M) (rnames hw fun v _ => ?_)
    refine E_build (l := [I 0, I 0, nil, v]) str_ans ?_
    (repeat first | refine gS ?_ | refine gA fun _ => ?_ | refine gX fun _ _ => ?_ | refine gT ?_ | refine gF ?_ | refine gI ?_)
    exact sm (ansN (A := ⟨0, 0, [], namesV M.V⟩) rfl h)
  · refine sm (G := rmo a M :: cel true br 33 [I 0, I 0, nil, nil] :: cel true bo 42 (opL o bv kv t u) :: H) ?_
    refine E_joinC (σ := Option Nat) (fun r => (o.d = 7 → (∀ n, r = some n → ∃ x g, M.V[n]? = some x ∧ heldG M o.shot o.name = some g ∧ x.name = o.name ∧ x.gen = g) ∧ (r = none → heldG M o.shot o.name = none)) ∧ (o.d ≠ 7 → r = lastIdx (findP o.name o.gen) M.V))
      (fun r => [ptr a, ptr bo, ptr br, I (idxI r)]) (fun _ => rmo a M :: cel true br 33 [I 0, I 0, nil, nil] :: cel true bo 42 (opL o bv kv t u) :: H) (fun q hq => ?_) (fun r hr => ?_)
    · (repeat first | refine gS ?_ | refine gA fun _ => ?_ | refine gX fun _ _ => ?_ | refine gT ?_ | refine gF ?_ | refine gI ?_)
      refine E_if (fun hc7 => ?_) (fun hc7 => ?_)
      · (repeat first | refine gS ?_ | refine gA fun _ => ?_ | refine gX fun _ _ => ?_ | refine gT ?_ | refine gF ?_ | refine gI ?_)
        refine fd (a := rmo a M) (rshot hw hs16 ?_)
        (repeat first | refine gS ?_ | refine gA fun _ => ?_ | refine gX fun _ _ => ?_ | refine gT ?_ | refine gF ?_ | refine gI ?_)
        rcases shotI_is (n := o.shot) hw.ss with ⟨g1, g2⟩ | ⟨s, g1, g2, g3⟩
        · rw [g1]
          refine E_loop (n := 7) (σ := Unit) (fun _ => True) (fun _ => [ptr a, ptr bo, ptr br, I (-1), I (shotI M.S o.shot), .bool false, I 0]) (fun _ => rmo a M :: cel true br 33 [I 0, I 0, nil, nil] :: cel true bo 42 (opL o bv kv t u) :: H) (fun _ => 0) () (fun _ => rfl) rfl trivial (fun W hW => sm hW) ?_
          intro _ K0 _ hk0
          refine E_fa fun _ => ?_
          refine E_join1 [ptr a, ptr bo, ptr br, I (-1), I (shotI M.S o.shot), .bool false, I 0, .bool false] (rmo a M :: cel true br 33 [I 0, I 0, nil, nil] :: cel true bo 42 (opL o bv kv t u) :: H) (fun q2 hq2 => ?_) ?_
          · (repeat first | refine gS ?_ | refine gA fun _ => ?_ | refine gX fun _ _ => ?_ | refine gT ?_ | refine gF ?_ | refine gI ?_)
            exact hq2
          · refine E_fa fun _ => ?_
            refine E_ff ?_
            exact hq none ⟨fun _ => ⟨fun n hn => (by cases hn), fun _ => by unfold heldG; rw [g1]⟩, fun hh => (hh hc7).elim⟩
        · rw [g3]
          have hhl := hh s (List.mem_of_getElem? g1)
          have hnd := hw.sh s (List.mem_of_getElem? g1)
          have hG : heldG M o.shot o.name = lk s.held o.name := by unfold heldG; rw [g3]
          refine E_loop (n := 7) (σ := Nat × Option Nat) (fun st => st.1 ≤ s.held.length ∧ Shows M s.held o.name st.2 ∧ (st.2 = none → ∀ p ∈ s.held.take st.1, ∀ w ∈ M.V, ¬ hit p o.name w)) (fun st => [ptr a, ptr bo, ptr br, I (idxI st.2), I (shotI M.S o.shot), .bool true, I st.1])
            (fun _ => rmo a M :: cel true br 33 [I 0, I 0, nil, nil] :: cel true bo 42 (opL o bv kv t u) :: H) (fun st => s.held.length - st.1) (0, none) (fun _ => rfl) rfl ⟨Nat.zero_le _, fun n hn => (by cases hn), by simp⟩ (fun W hW => sm hW) ?_
          rintro ⟨j, r⟩ K0 ⟨hj, hsh1, hsh2⟩ hk0
          simp only at hj hsh1 hsh2 hk0 ⊢
          refine E_fa fun _ => ?_
          refine E_rmo fun vs ss os Lv Ls Lo Lh SS iv is io iV iS iO hsl hsh => ?_
          have rV := rs_pool (B := B) (enc := rvC) iV
          have rS := rs_pool (B := B) (enc := rsC) iS
          have hSi := (List.getElem?_eq_some_iff.1 g1).1
          have hy : SS[shotI M.S o.shot]? = some SS[shotI M.S o.shot] := List.getElem?_eq_getElem (by omega)
          generalize SS[shotI M.S o.shot] = y at hy
          obtain ⟨_, hyp⟩ := hsh _ y s hy g1
          have rH := rs_pool (B := B) (enc := hC) hyp
          refine E_join1 [ptr a, ptr bo, ptr br, I (idxI r), I (shotI M.S o.shot), .bool true, I j, .bool (decide ((j : Int) < (s.held.length : Int)))] (cel true a 70 [vs, ss, os, I M.began, I M.now, I M.quota] :: spool rvC Lv :: spool rsC Ls :: spool roC Lo :: spool hC Lh :: cel true br 33 [I 0, I 0, nil, nil] :: cel true bo 42 (opL o bv kv t u) :: H) (fun q2 hq2 => ?_) ?_
          · (repeat first | refine gS ?_ | refine gA fun _ => ?_ | refine gX fun _ _ => ?_ | refine gT ?_ | refine gF ?_ | refine gI ?_)
            exact hq2
          · refine E_fa fun _ => ?_
            refine E_if (fun hc3 => ?_) (fun hc3 => ?_)
            · have hp : s.held[j]? = some s.held[j] := List.getElem?_eq_getElem (by omega)
              generalize s.held[j] = p at hp
              refine E_loop (n := 8) (σ := Nat × Option Nat) (fun st => st.1 ≤ M.V.length ∧ Shows M s.held o.name st.2 ∧ (st.2 = none → (∀ p ∈ s.held.take j, ∀ w ∈ M.V, ¬ hit p o.name w) ∧ ∀ w ∈ M.V.take st.1, ¬ hit p o.name w)) (fun st => [ptr a, ptr bo, ptr br, I (idxI st.2), I (shotI M.S o.shot), .bool true, I j, I st.1])
                (fun _ => cel true a 70 [vs, ss, os, I M.began, I M.now, I M.quota] :: spool rvC Lv :: spool rsC Ls :: spool roC Lo :: spool hC Lh :: cel true br 33 [I 0, I 0, nil, nil] :: cel true bo 42 (opL o bv kv t u) :: H) (fun st => M.V.length - st.1) (0, r) (fun _ => rfl) rfl ⟨Nat.zero_le _, hsh1, fun hr => ⟨hsh2 hr, by simp⟩⟩ (fun W hW => hW) ?_
              rintro ⟨m, r2⟩ K1 ⟨hm, hs1, hs2⟩ hk1
              simp only at hm hs1 hs2 hk1 ⊢
              refine E_fa fun _ => ?_
              (repeat first | refine gS ?_ | refine gA fun _ => ?_ | refine gX fun _ _ => ?_ | refine gT ?_ | refine gF ?_ | refine gI ?_)
              refine E_if (fun hc4 => ?_) (fun hc4 => ?_)
              · have hz : M.V[m]? = some M.V[m] := List.getElem?_eq_getElem (by omega)
                generalize M.V[m] = w at hz
                refine E_joinC (σ := Option Nat) (fun r3 => (hit p o.name w ∧ r3 = some m) ∨ (¬ hit p o.name w ∧ r3 = r2)) (fun r3 => [ptr a, ptr bo, ptr br, I (idxI r3), I (shotI M.S o.shot), .bool true, I j, I m]) (fun _ => cel true a 70 [vs, ss, os, I M.began, I M.now, I M.quota] :: spool rvC Lv :: spool rsC Ls :: spool roC Lo :: spool hC Lh :: cel true br 33 [I 0, I 0, nil, nil] :: cel true bo 42 (opL o bv kv t u) :: H) (fun q3 hq3 => ?_) (fun r3 hr3 => ?_)
                · have hdec : Decidable (hit p o.name w) := by unfold hit; infer_instance
                  refine E_join1 [ptr a, ptr bo, ptr br, I (idxI r2), I (shotI M.S o.shot), .bool true, I j, I m, .bool (decide (hit p o.name w))] (cel true a 70 [vs, ss, os, I M.began, I M.now, I M.quota] :: spool rvC Lv :: spool rsC Ls :: spool roC Lo :: spool hC Lh :: cel true br 33 [I 0, I 0, nil, nil] :: cel true bo 42 (opL o bv kv t u) :: H) (fun q4 hq4 => ?_) ?_
                  · have fin : ∀ b : Bool, decide (hit p o.name w) = b → E B (cel true a 70 [vs, ss, os, I M.began, I M.now, I M.quota] :: spool rvC Lv :: spool rsC Ls :: spool roC Lo :: spool hC Lh :: cel true br 33 [I 0, I 0, nil, nil] :: cel true bo 42 (opL o bv kv t u) :: H) (app 9 q4 [ptr a, ptr bo, ptr br, I (idxI r2), I (shotI M.S o.shot), .bool true, I j, I m, .bool b]) := fun b hb => hb ▸ hq4
                    by_cases k1 : p.1 = o.name
                    · by_cases k2 : w.name = o.name
                      · (repeat first | refine gS ?_ | refine gA fun _ => ?_ | refine gX fun _ _ => ?_ | refine gT ?_ | refine gF ?_ | refine gI ?_)
                        refine fin _ ?_
                        rw [decide_eq_decide]
                        exact ⟨fun h => h.2.2, fun h => ⟨k1, k2, h⟩⟩
                      · (repeat first | refine gS ?_ | refine gA fun _ => ?_ | refine gX fun _ _ => ?_ | refine gT ?_ | refine gF ?_ | refine gI ?_)
                        exact fin false (decide_eq_false fun h => k2 h.2.1)
                    · (repeat first | refine gS ?_ | refine gA fun _ => ?_ | refine gX fun _ _ => ?_ | refine gT ?_ | refine gF ?_ | refine gI ?_)
                      exact fin false (decide_eq_false fun h => k1 h.1)
                  · refine E_fa fun _ => ?_
                    refine E_if (fun hh => ?_) (fun hh => ?_)
                    · exact hq3 (some m) (.inl ⟨hh, rfl⟩)
                    · exact hq3 r2 (.inr ⟨hh, rfl⟩)
                · refine E_fa fun _ => ?_
                  refine E_addI (by omega) (by omega) ?_
                  refine hk1 (m + 1, r3) ⟨by simp only; omega, ?_, ?_⟩ (by simp only; omega)
                  · simp only
                    rcases hr3 with ⟨hh, rfl⟩ | ⟨_, rfl⟩
                    · intro n hn
                      cases hn
                      refine ⟨w, hz, hh.2.1, ?_⟩
                      have : p ∈ s.held := List.mem_of_getElem? hp
                      rw [hh.2.2, ← hh.1]; exact this
                    · exact hs1
                  · simp only
                    rcases hr3 with ⟨hh, rfl⟩ | ⟨hnh, rfl⟩
                    · intro hn; cases hn
                    · intro hn
                      obtain ⟨w1, w2⟩ := hs2 hn
                      refine ⟨w1, fun v hv => ?_⟩
                      rw [List.take_add_one, hz] at hv
                      rcases List.mem_append.1 hv with hv | hv
                      · exact w2 v hv
                      · simp at hv; subst hv; exact hnh
              · have hme : m = M.V.length := by omega
                subst hme
                rw [List.take_length] at hs2
                refine E_addI (by omega) (by omega) ?_
                refine E_rmoS vs ss os (SS := SS) iV iS iO hsl hsh rfl rfl rfl ?_
                refine hk0 (j + 1, r2) ⟨by simp only; omega, hs1, fun hn p' hp' => ?_⟩ (by simp only; omega)
                rw [List.take_add_one, hp] at hp'
                rcases List.mem_append.1 hp' with hp' | hp'
                · exact (hs2 hn).1 p' hp'
                · simp at hp'; subst hp'; exact (hs2 hn).2
            · have hje : j = s.held.length := by omega
              subst hje
              rw [List.take_length] at hsh2
              refine E_rmoS vs ss os (SS := SS) iV iS iO hsl hsh rfl rfl rfl ?_
              refine hq r ⟨fun _ => ⟨fun n hn => ?_, fun hn => ?_⟩, fun hh => (hh hc7).elim⟩
              · obtain ⟨x, x1, x2, x3⟩ := hsh1 n hn
                exact ⟨x, x.gen, x1, by rw [hG]; exact lk_of hnd x3, x2, rfl⟩
              · rw [hG]
                cases hl : lk s.held o.name with
                | none => rfl
                | some g =>
                  exfalso
                  have hm := lk_in hl
                  obtain ⟨w, hw1, hw2, hw3⟩ := hw.se s (List.mem_of_getElem? g1) _ hm
                  exact hsh2 hn _ hm w hw1 ⟨rfl, hw2, hw3⟩
      · (repeat first | refine gS ?_ | refine gA fun _ => ?_ | refine gX fun _ _ => ?_ | refine gT ?_ | refine gF ?_ | refine gI ?_)
        refine fd (a := rmo a M) (rfind hw.n ?_)
        exact sm (hq _ ⟨fun h7 => (hc7 h7).elim, fun _ => rfl⟩)
    · refine E_fa fun _ => ?_
      obtain ⟨hr7, hrn⟩ := hr
      have hres : (r = none ∧ toldA M o = errA 9) ∨ ∃ n x, r = some n ∧ M.V[n]? = some x ∧ toldA M o = (if o.d = 8 then ⟨0, x.text.length, [], []⟩ else if o.d ≠ 6 then ⟨0, 0, x.text, []⟩ else if o.from_ < 0 ∨ (x.text.length : Int) < o.from_ ∨ o.size < 0 then errA 2 else ⟨0, 0, (x.text.drop o.from_.toNat).take o.size.toNat, []⟩) := by
        by_cases h7 : o.d = 7
        · obtain ⟨r1, r2⟩ := hr7 h7
          have et : toldA M o = shownA M o := by unfold toldA; rw [if_neg (by omega), if_neg (by omega), if_pos h7]
          cases r with
          | none => exact .inl ⟨rfl, by rw [et]; unfold shownA; rw [r2 rfl]⟩
          | some n =>
            obtain ⟨x, g, x1, x2, x3, x4⟩ := r1 n rfl
            refine .inr ⟨n, x, rfl, x1, ?_⟩
            have hfd : (fof M.V o.name).find? (fun v => decide (v.gen = g)) = some x := by
              have hxf : x ∈ fof M.V o.name := fof_mem.2 ⟨List.mem_of_getElem? x1, x3⟩
              cases hf : (fof M.V o.name).find? (fun v => decide (v.gen = g)) with
              | none => have := List.find?_eq_none.1 hf x hxf; simp [x4] at this
              | some y =>
                have hy1 := List.mem_of_find?_eq_some hf
                have hy2 := List.find?_some hf
                simp only [decide_eq_true_eq] at hy2
                obtain ⟨hyV, hyn⟩ := fof_mem.1 hy1
                rw [hw.v.uniq hyV (List.mem_of_getElem? x1) (hyn.trans x3.symm) (hy2.trans x4.symm)]
            rw [et, if_neg (by omega), if_pos (by omega)]
            unfold shownA; rw [x2]; simp only; rw [hfd]
        · have hrv := hrn h7
          rcases find_live (V := M.V) o.name o.gen with ⟨e1, e2⟩ | ⟨i, x, e1, e2, e3⟩
          · refine .inl ⟨hrv.trans e1, ?_⟩
            unfold toldA readA cutA statA
            rw [e2]
            rcases hd with hd | hd | hd | hd | hd
            · rw [if_pos hd]
            · rw [if_neg (by omega), if_pos hd]
            · exact (h7 hd).elim
            · rw [if_neg (by omega), if_neg (by omega), if_neg (by omega), if_pos hd]
            · exact (hc hd).elim
          · refine .inr ⟨i, x, hrv.trans e1, e2, ?_⟩
            unfold toldA readA cutA statA
            rw [e3]
            rcases hd with hd | hd | hd | hd | hd
            · rw [if_pos hd, if_neg (by omega), if_pos (by omega)]
            · rw [if_neg (by omega), if_pos hd, if_neg (by omega), if_neg (by omega)]
            · exact (h7 hd).elim
            · rw [if_neg (by omega), if_neg (by omega), if_neg (by omega), if_pos hd, if_pos hd]
            · exact (hc hd).elim
      replace h : ∀ rv, E B (ansH (toldA M o) rv :: rmo a M :: H) (K rv) := by unfold toldA; exact h
      rcases hres with ⟨rfl, ht⟩ | ⟨n, x, rfl, hx, ht⟩
      · rw [ht] at h
        rw [show idxI none = (-1 : Int) from rfl]
        (repeat first | refine gS ?_ | refine gA fun _ => ?_ | refine gX fun _ _ => ?_ | refine gT ?_ | refine gF ?_ | refine gI ?_)
        refine rwrong ?_
        (repeat first | refine gS ?_ | refine gA fun _ => ?_ | refine gX fun _ _ => ?_ | refine gT ?_ | refine gF ?_ | refine gI ?_)
        exact sm (ansE (A := errA 9) rfl rfl h)
      · rw [ht] at h
        rw [show idxI (some n) = (n : Int) from rfl]
        refine goS ?_
        refine E_ifF (by omega) ?_
        refine E_rmo fun vs ss os Lv Ls Lo Lh SS iv is io iV iS iO hsl hsh => ?_
        have rV := rs_pool (B := B) (enc := rvC) iV
        (repeat first | refine gS ?_ | refine gA fun _ => ?_ | refine gX fun _ _ => ?_ | refine gT ?_ | refine gF ?_ | refine gI ?_)
        refine sm (G := cel true a 70 [vs, ss, os, I M.began, I M.now, I M.quota] :: spool rvC Lv :: spool rsC Ls :: spool roC Lo :: spool hC Lh :: cel true br 33 [I 0, I 0, nil, nil] :: cel true bo 42 (opL o bv kv t u) :: H) ?_
        refine E_rmoS vs ss os (SS := SS) iV iS iO hsl hsh rfl rfl rfl ?_
        refine E_if (fun h8 => ?_) (fun h8 => ?_)
        · rw [if_pos h8] at h
          (repeat first | refine gS ?_ | refine gA fun _ => ?_ | refine gX fun _ _ => ?_ | refine gT ?_ | refine gF ?_ | refine gI ?_)
          refine E_build (l := [I 0, I x.text.length, nil, nil]) str_ans ?_
          (repeat first | refine gS ?_ | refine gA fun _ => ?_ | refine gX fun _ _ => ?_ | refine gT ?_ | refine gF ?_ | refine gI ?_)
          exact sm (ansE (A := ⟨0, x.text.length, [], []⟩) rfl rfl h)
        · rw [if_neg h8] at h
          (repeat first | refine gS ?_ | refine gA fun _ => ?_ | refine gX fun _ _ => ?_ | refine gT ?_ | refine gF ?_ | refine gI ?_)
          refine E_if (fun h6 => ?_) (fun h6 => ?_)
          · rw [if_pos h6] at h
            refine E_s2bL fun rv _ => ?_
            refine E_build (l := [I 0, I 0, rv, nil]) str_ans ?_
            (repeat first | refine gS ?_ | refine gA fun _ => ?_ | refine gX fun _ _ => ?_ | refine gT ?_ | refine gF ?_ | refine gI ?_)
            exact sm (ansB (A := ⟨0, 0, x.text, []⟩) rfl h)
          · rw [if_neg h6] at h
            have hxl := (hw.vt x (List.mem_of_getElem? hx)).1
            refine E_join1 [ptr bo, ptr br, str x.text, .bool (decide (o.from_ < 0 ∨ (x.text.length : Int) < o.from_ ∨ o.size < 0))] (rmo a M :: cel true br 33 [I 0, I 0, nil, nil] :: cel true bo 42 (opL o bv kv t u) :: H) (fun q hq => ?_) ?_
            · have fin2 : ∀ b : Bool, decide (o.from_ < 0 ∨ (x.text.length : Int) < o.from_ ∨ o.size < 0) = b → E B (rmo a M :: cel true br 33 [I 0, I 0, nil, nil] :: cel true bo 42 (opL o bv kv t u) :: H) (app 4 q [ptr bo, ptr br, str x.text, .bool b]) := fun b hb => hb ▸ hq
              by_cases h0 : o.from_ < 0
              · (repeat first | refine gS ?_ | refine gA fun _ => ?_ | refine gX fun _ _ => ?_ | refine gT ?_ | refine gF ?_ | refine gI ?_)
                exact sm (fin2 true (decide_eq_true (.inl h0)))
              · by_cases h1 : (x.text.length : Int) < o.from_
                · (repeat first | refine gS ?_ | refine gA fun _ => ?_ | refine gX fun _ _ => ?_ | refine gT ?_ | refine gF ?_ | refine gI ?_)
                  exact sm (fin2 true (decide_eq_true (.inr (.inl h1))))
                · (repeat first | refine gS ?_ | refine gA fun _ => ?_ | refine gX fun _ _ => ?_ | refine gT ?_ | refine gF ?_ | refine gI ?_)
                  refine sm (fin2 _ ?_)
                  rw [decide_eq_decide]; omega
            · refine E_fa fun _ => ?_
              refine E_if (fun hc5 => ?_) (fun hc5 => ?_)
              · rw [if_pos hc5] at h
                refine rwrong ?_
                (repeat first | refine gS ?_ | refine gA fun _ => ?_ | refine gX fun _ _ => ?_ | refine gT ?_ | refine gF ?_ | refine gI ?_)
                exact sm (ansE (A := errA 2) rfl rfl h)
              · rw [if_neg hc5] at h
                obtain ⟨i, hi⟩ : ∃ i : Nat, o.from_ = i := ⟨o.from_.toNat, by omega⟩
                obtain ⟨z, hz⟩ : ∃ z : Nat, o.size = z := ⟨o.size.toNat, by omega⟩
                have hi' : o.from_.toNat = i := by omega
                have hz' : o.size.toNat = z := by omega
                rw [hi', hz'] at h
                have hil : i ≤ x.text.length := by omega
                refine E_lenstr ?_
                refine E_join1 [ptr bo, ptr br, str x.text, I (min (i + z) x.text.length : Nat)] (rmo a M :: cel true br 33 [I 0, I 0, nil, nil] :: cel true bo 42 (opL o bv kv t u) :: H) (fun q hq => ?_) ?_
                · (repeat first | refine gS ?_ | refine gA fun _ => ?_ | refine gX fun _ _ => ?_ | refine gT ?_ | refine gF ?_ | refine gI ?_)
                  refine E_if (fun hlt => ?_) (fun hlt => ?_)
                  · have em : ((min (i + z) x.text.length : Nat) : Int) = o.from_ + o.size := by omega
                    rw [em] at hq
                    (repeat first | refine gS ?_ | refine gA fun _ => ?_ | refine gX fun _ _ => ?_ | refine gT ?_ | refine gF ?_ | refine gI ?_)
                    exact sm hq
                  · have em : ((min (i + z) x.text.length : Nat) : Int) = (x.text.length : Int) := by omega
                    rw [em] at hq
                    exact sm hq
                · refine E_fa fun _ => ?_
                  (repeat first | refine gS ?_ | refine gA fun _ => ?_ | refine gX fun _ _ => ?_ | refine gT ?_ | refine gF ?_ | refine gI ?_)
                  rw [hi]
                  refine E_slcL (i := i) (j := min (i + z) x.text.length) (bound_nat _ _) (bound_nat i 0) (by omega) (by omega) ?_
                  have htk : (x.text.drop i).take (min (i + z) x.text.length - i) = (x.text.drop i).take z := by
                    rw [List.take_eq_take_iff, List.length_drop]; omega
                  rw [htk]
                  refine E_s2bL fun rv _ => ?_
                  refine E_build (l := [I 0, I 0, rv, nil]) str_ans ?_
                  (repeat first | refine gS ?_ | refine gA fun _ => ?_ | refine gX fun _ _ => ?_ | refine gT ?_ | refine gF ?_ | refine gI ?_)
                  exact sm (ansB (A := ⟨0, 0, (x.text.drop i).take z, []⟩) rfl h)
end Go.Proofs.YtabpaknfenpkoaaGreat.Mod
