/-
  Model: the document's write, commit.
-/
import Derived.Test.YtabpaknfenpkoaaGreatRdC
set_option linter.unusedSimpArgs false
set_option linter.unusedVariables false
set_option linter.unusedSectionVars false
namespace Go.Proofs.YtabpaknfenpkoaaGreat.Mod
open Go Go.SL Go.Proofs Go.Proofs.YtabpaknfenpkoaaGreat.Sh
variable {B : World} {H : List Asrt} {K : Value → WT} {W : WT}
variable {a : Nat} {M : Mo} {o : Od} {bv kv : Value} {t u : Int}
theorem set_putT {O : List Se} (h : O.Pairwise fun a b => a.n < b.n) {i : Nat} {s : Se} (hx : O[i]? = some s) (hn : s.n = o.n) : O.set i { s with text := s.text ++ o.bytes } = O.map (putT o) := by
  apply List.ext_getElem?
  intro j
  rw [List.getElem?_map, List.getElem?_set]
  obtain ⟨hi, hxe⟩ := List.getElem?_eq_some_iff.1 hx
  by_cases hij : i = j
  · subst hij
    rw [if_pos rfl, if_pos hi, hx]
    simp [putT, hn]
  · rw [if_neg hij]
    cases hj : O[j]? with
    | none => rfl
    | some y =>
      obtain ⟨hjl, hje⟩ := List.getElem?_eq_some_iff.1 hj
      have hne : y.n ≠ o.n := by
        rcases Nat.lt_or_gt_of_ne hij with hlt | hlt
        · have := List.pairwise_iff_getElem.1 h i j hi hjl hlt
          rw [hxe, hje] at this; omega
        · have := List.pairwise_iff_getElem.1 h j i hjl hi hlt
          rw [hxe, hje] at this; omega
      simp [putT, hne]
theorem tw_lt {α : Type} {p : α → Bool} : ∀ {l : List α} {i : Nat} {x : α}, l[i]? = some x → i ≤ (l.takeWhile p).length → (p x = true ↔ i < (l.takeWhile p).length)
  | [], i, x, h, _ => by simp at h
  | c :: t, i, x, h, hle => by
    have e : ((c :: t).takeWhile p).length = if p c then (t.takeWhile p).length + 1 else 0 := by
      rw [List.takeWhile_cons]
      cases p c <;> simp
    rw [e] at hle ⊢
    cases i with
    | zero =>
      have : c = x := by simpa using h
      subst this
      cases p c <;> simp
    | succ i =>
      cases hc : p c with
      | true =>
        rw [hc] at hle
        simp only [if_true] at hle ⊢
        have := tw_lt (p := p) (l := t) (i := i) (x := x) (by simpa using h) (by omega)
        rw [this]; omega
      | false => rw [hc] at hle; simp at hle
theorem tw_split {α : Type} (p : α → Bool) (l : List α) : l.take (l.takeWhile p).length = l.takeWhile p ∧ l.drop (l.takeWhile p).length = l.dropWhile p := by
  have e := List.takeWhile_append_dropWhile (p := p) (l := l)
  constructor
  · conv => lhs; rw [← e]
    rw [List.take_left']; simp
  · conv => lhs; rw [← e]
    rw [List.drop_left']; simp
attribute [local irreducible] S.pick S.ld S.ldN S.st S.box S.nc S.fad S.ixS S.ixA S.chr S.prt S.ext S.bin S.sh S.sbin S.beq S.neg1 S.com1 S.not1 S.cvt S.str1 S.lenS S.len S.cap S.lenM S.mx S.mn S.mkM S.cond S.gd S.fa S.dr S.rck S.join S.loop S.cvv S.eqv S.slc S.slcS S.b2s S.lk V U CF Gives E cel mpb osl ros dct dit itr lpo dfo
set_option maxRecDepth 4000
attribute [local irreducible] mo ansH rmo
def errW (M : Mo) (o : Od) (s : Se) (sp : Bool) : Int :=
  if 8192 < s.text.length + o.bytes.length then 6 else if 0 < M.quota ∧ M.quota < (sizeM M + o.bytes.length : Nat) then 11 else if sp then 8 else 0
theorem rwrite [CellI bv] [CellI kv] {sp : Bool} (hw : Wf M) [hb : Rb B H bv o.bytes] (hbl : o.bytes.length ≤ 140737488355328) (h : ∀ rv, E B (ansH (writeM M o sp).1 rv :: rmo a (writeM M o sp).2 :: H) (K rv)) : E B (rmo a M :: H) (CF Tryz.prog 29 [ptr a, opV o bv kv t u, .bool sp] K) := by
  refine E_mono (W := s29 _ _ _ K) ?_ fun _ => c29
  unfold s29
  unfold writeM at h
  have hq := hw.q
  have hol := hw.ol
  (repeat first | refine gS ?_ | refine gA fun _ => ?_ | refine gX fun _ _ => ?_ | refine gT ?_ | refine gF ?_ | refine gI ?_)
  rename_i bo br
  refine fd (a := rmo a M) (rsession (by omega) ?_)
  rcases fstIdx_oof (O := M.O) (n := o.n) with ⟨e1, e2⟩ | ⟨i, s, e1, e2, e3⟩
  · rw [e2] at h
    rw [e1, show idxI none = (-1 : Int) from rfl]
    (repeat first | refine gS ?_ | refine gA fun _ => ?_ | refine gX fun _ _ => ?_ | refine gT ?_ | refine gF ?_ | refine gI ?_)
    refine rwrong ?_
    (repeat first | refine gS ?_ | refine gA fun _ => ?_ | refine gX fun _ _ => ?_ | refine gT ?_ | refine gF ?_ | refine gI ?_)
    exact sm (ansE (A := errA 9) rfl rfl h)
  · rw [e3] at h
    simp only at h
    rw [e1, show idxI (some i) = (i : Int) from rfl]
    obtain ⟨hsO, hsn⟩ := oof_some e3
    have hsl := (hw.ob s hsO).2
    refine goS ?_
    refine E_ifF (by omega) ?_
    refine E_rmo fun vs ss os Lv Ls Lo Lh SS iv is io iV iS iO hsl hsh => ?_
    have rO := rs_pool (B := B) (enc := roC) iO
    (repeat first | refine gS ?_ | refine gA fun _ => ?_ | refine gX fun _ _ => ?_ | refine gT ?_ | refine gF ?_ | refine gI ?_)
    unfold roC
    (repeat first | refine gS ?_ | refine gA fun _ => ?_ | refine gX fun _ _ => ?_ | refine gT ?_ | refine gF ?_ | refine gI ?_)
    rename_i b8
    refine E_same (G := cel true a 70 [vs, ss, os, I M.began, I M.now, I M.quota] :: spool rvC Lv :: spool rsC Ls :: spool roC Lo :: spool hC Lh :: cel true b8 72 [I s.n, str s.name, str s.text] :: cel true br 33 [I 0, I 0, nil, nil] :: cel true bo 42 (opL o bv kv t u) :: H) (by repeat (first | exact Same.refl | (refine Same.cons (by repeat (first | exact Find.here | apply Find.there)) ?_) | (refine Same.drop ?_))) ?_
    refine E_rmoS vs ss os (SS := SS) iV iS iO hsl hsh rfl rfl rfl ?_
    refine E_join1 [ptr a, ptr bo, ptr br, I i, ptr b8, I (errW M o s sp)] (rmo a M :: cel true b8 72 [I s.n, str s.name, str s.text] :: cel true br 33 [I 0, I 0, nil, nil] :: cel true bo 42 (opL o bv kv t u) :: H) (fun q hq0 => ?_) ?_
    · have finE : ∀ e : Int, errW M o s sp = e → E B (rmo a M :: cel true b8 72 [I s.n, str s.name, str s.text] :: cel true br 33 [I 0, I 0, nil, nil] :: cel true bo 42 (opL o bv kv t u) :: H) (app 6 q [ptr a, ptr bo, ptr br, I i, ptr b8, I e]) := fun e he => he ▸ hq0
      unfold errW at finE
      (repeat first | refine gS ?_ | refine gA fun _ => ?_ | refine gX fun _ _ => ?_ | refine gT ?_ | refine gF ?_ | refine gI ?_)
      refine E_if (fun hc => ?_) (fun hc => ?_)
      · exact sm (finE 6 (if_pos (by omega)))
      · rw [if_neg (by omega)] at finE
        refine E_join1 [ptr a, .bool sp, ptr bo, ptr br, I i, ptr b8, I 0, .bool (decide (0 < M.quota ∧ M.quota < (sizeM M + o.bytes.length : Nat)))] (rmo a M :: cel true b8 72 [I s.n, str s.name, str s.text] :: cel true br 33 [I 0, I 0, nil, nil] :: cel true bo 42 (opL o bv kv t u) :: H) (fun q2 hq2 => ?_) ?_
        · have fin2 : ∀ b : Bool, decide (0 < M.quota ∧ M.quota < (sizeM M + o.bytes.length : Nat)) = b → E B (rmo a M :: cel true b8 72 [I s.n, str s.name, str s.text] :: cel true br 33 [I 0, I 0, nil, nil] :: cel true bo 42 (opL o bv kv t u) :: H) (app 8 q2 [ptr a, .bool sp, ptr bo, ptr br, I i, ptr b8, I 0, .bool b]) := fun b hb => hb ▸ hq2
          refine E_rmo fun vs ss os Lv Ls Lo Lh SS iv is io iV iS iO hsl hsh => ?_
          refine E_dr ?_
          refine E_nc ?_
          refine E_fad0 ?_
          refine E_ld ?_
          refine E_gtr ?_
          by_cases h0 : 0 < M.quota
          · rw [decide_eq_true h0]
            (repeat first | refine gS ?_ | refine gA fun _ => ?_ | refine gX fun _ _ => ?_ | refine gT ?_ | refine gF ?_ | refine gI ?_)
            refine E_rmoS vs ss os (SS := SS) iV iS iO hsl hsh rfl rfl rfl ?_
            refine rsize hw fun hsz => ?_
            refine E_rmo fun vs ss os Lv Ls Lo Lh SS iv is io iV iS iO hsl hsh => ?_
            (repeat (refine E_rck1 (by first | exact E_ld (E_fact rfl) | exact E_ld' (by assumption) (E_fact rfl) | exact E_b2sR (E_fact rfl) | exact E_gdnF (by assumption) (E_ld (E_fact rfl)) | exact E_gdT (by assumption) (E_ld (E_fact rfl)) | exact E_gtf (E_ld (E_fact rfl)) | exact E_gft (E_ld (E_fact rfl)) | exact E_ldNA (E_fact rfl) | exact E_ptld (E_fact rfl) | exact E_gtf (E_ldNA (E_fact rfl))) ?_)); (first | (refine E_rck0 ?_) | skip)
            refine E_gtf ?_
            refine E_addI (by omega) (by omega) ?_
            (repeat first | refine gS ?_ | refine gA fun _ => ?_ | refine gX fun _ _ => ?_ | refine gT ?_ | refine gF ?_ | refine gI ?_)
            refine E_rmoS vs ss os (SS := SS) iV iS iO hsl hsh rfl rfl rfl ?_
            refine fin2 _ ?_
            rw [decide_eq_decide]; omega
          · rw [decide_eq_false h0]
            (repeat first | refine gS ?_ | refine gA fun _ => ?_ | refine gX fun _ _ => ?_ | refine gT ?_ | refine gF ?_ | refine gI ?_)
            refine E_rck1 (E_gff (E_fact rfl)) ?_
            refine E_rck1 (E_gff (E_fact rfl)) ?_
            (repeat first | refine gS ?_ | refine gA fun _ => ?_ | refine gX fun _ _ => ?_ | refine gT ?_ | refine gF ?_ | refine gI ?_)
            refine E_rmoS vs ss os (SS := SS) iV iS iO hsl hsh rfl rfl rfl ?_
            exact fin2 false (decide_eq_false fun hh => h0 hh.1)
        · refine E_fa fun _ => ?_
          refine E_if (fun hc2 => ?_) (fun hc2 => ?_)
          · exact finE 11 (if_pos hc2)
          · rw [if_neg hc2] at finE
            cases sp with
            | true => exact E_tt (finE 8 rfl)
            | false => exact E_ff (finE 0 rfl)
    · refine E_fa fun _ => ?_
      have hlost : ∀ (A : Ans) (e : Int), A = errA e → (∀ rv, E B (ansH A rv :: rmo a (lostM M o.n) :: H) (K rv)) → E B (rmo a M :: cel true b8 72 [I s.n, str s.name, str s.text] :: cel true br 33 [I 0, I 0, nil, nil] :: cel true bo 42 (opL o bv kv t u) :: H)
          (CF Tryz.prog 32 [ptr a, I i] fun v56 => CF Tryz.prog 28 [I e] fun v58 => S.st 4 (ptr br) v58 fun _ => S.ldN 4 (ptr br) fun v => K v) := fun A e hA hh => by
        subst hA
        refine rlost hw e1 ?_
        refine rwrong ?_
        (repeat first | refine gS ?_ | refine gA fun _ => ?_ | refine gX fun _ _ => ?_ | refine gT ?_ | refine gF ?_ | refine gI ?_)
        exact sm (ansE (A := errA e) rfl rfl hh)
      unfold errW
      by_cases g1 : 8192 < s.text.length + o.bytes.length
      · rw [if_pos g1] at h ⊢
        (repeat first | refine gS ?_ | refine gA fun _ => ?_ | refine gX fun _ _ => ?_ | refine gT ?_ | refine gF ?_ | refine gI ?_)
        exact hlost _ 6 rfl h
      · rw [if_neg g1] at h ⊢
        by_cases g2 : 0 < M.quota ∧ M.quota < (sizeM M + o.bytes.length : Nat)
        · rw [if_pos g2] at h ⊢
          (repeat first | refine gS ?_ | refine gA fun _ => ?_ | refine gX fun _ _ => ?_ | refine gT ?_ | refine gF ?_ | refine gI ?_)
          exact hlost _ 11 rfl h
        · rw [if_neg g2] at h ⊢
          cases sp with
          | true =>
            rw [if_pos rfl] at h ⊢
            (repeat first | refine gS ?_ | refine gA fun _ => ?_ | refine gX fun _ _ => ?_ | refine gT ?_ | refine gF ?_ | refine gI ?_)
            exact hlost _ 8 rfl h
          | false =>
            rw [if_neg (by decide)] at h ⊢
            (repeat first | refine gS ?_ | refine gA fun _ => ?_ | refine gX fun _ _ => ?_ | refine gT ?_ | refine gF ?_ | refine gI ?_)
            refine E_b2sR (bs := o.bytes) ?_
            refine E_stradd (by omega) ?_
            (repeat first | refine gS ?_ | refine gA fun _ => ?_ | refine gX fun _ _ => ?_ | refine gT ?_ | refine gF ?_ | refine gI ?_)
            refine E_bsl0 u_rsess elt_rses fun bz => ?_
            refine E_slsC (enc := roC) [] 0 rfl rfl ?_
            refine fd (a := rmo a M) ?_
            refine E_rmo fun vs ss os Lv Ls Lo Lh SS iv is io iV iS iO hsl hsh => ?_
            have rO := rs_pool (B := B) (enc := roC) iO
            (repeat first | refine gS ?_ | refine gA fun _ => ?_ | refine gX fun _ _ => ?_ | refine gT ?_ | refine gF ?_ | refine gI ?_)
            refine E_use (sls roC 72 3 (.slice (some ⟨bz, 0, none⟩) 0 0)) (E_sapps (enc := roC) (l := []) (m := M.O) u_rsess elt_rses (by simp; omega) (by simp; omega) fun v _ => ?_)
            rw [List.nil_append]
            refine goS ?_
            obtain ⟨hil, _⟩ := List.getElem?_eq_some_iff.1 e2
            refine fd (a := sls roC 72 3 v M.O) (E_sset (enc := roC) { s with text := s.text ++ o.bytes } hil rfl ?_)
            rw [set_putT hw.o e2 hsn]
            (repeat first | refine gS ?_ | refine gA fun _ => ?_ | refine gX fun _ _ => ?_ | refine gT ?_ | refine gF ?_ | refine gI ?_)
            refine E_build (l := [I 0, I 0, nil, nil]) str_ans ?_
            (repeat first | refine gS ?_ | refine gA fun _ => ?_ | refine gX fun _ _ => ?_ | refine gT ?_ | refine gF ?_ | refine gI ?_)
            refine sm (G := sls roC 72 3 v (M.O.map (putT o)) :: spool roC Lo :: cel true a 70 [vs, ss, v, I M.began, I M.now, I M.quota] :: spool rvC Lv :: spool rsC Ls :: spool hC Lh :: H) ?_
            refine E_give ?_
            refine sm (G := cel true a 70 [vs, ss, v, I M.began, I M.now, I M.quota] :: spool rvC Lv :: spool rsC Ls :: spool roC ((v, M.O.map (putT o)) :: Lo) :: spool hC Lh :: H) ?_
            refine E_rmoS (M := { M with O := M.O.map (putT o) }) vs ss v (SS := SS) iV iS (by simp) hsl hsh rfl rfl rfl ?_
            exact ansE (A := okA) rfl rfl h
theorem rcommit [CellI bv] [CellI kv] {sp : Bool} (hw : Wf M) (hnl : (nms M.V).length ≤ 64) (hfl : ∀ k, (fof M.V k).length ≤ 32) (h : ∀ rv, E B (ansH (commitM M o sp).1 rv :: rmo a (commitM M o sp).2 :: H) (K rv)) : E B (rmo a M :: H) (CF Tryz.prog 30 [ptr a, opV o bv kv t u, .bool sp] K) := by
  refine E_mono (W := s30 _ _ _ K) ?_ fun _ => c30
  unfold s30
  unfold commitM at h
  have hol := hw.ol
  have hMn := hw.n
  (repeat first | refine gS ?_ | refine gA fun _ => ?_ | refine gX fun _ _ => ?_ | refine gT ?_ | refine gF ?_ | refine gI ?_)
  rename_i bo br
  refine fd (a := rmo a M) (rsession (by omega) ?_)
  rcases fstIdx_oof (O := M.O) (n := o.n) with ⟨e1, e2⟩ | ⟨i, s, e1, e2, e3⟩
  · rw [e2] at h
    rw [e1, show idxI none = (-1 : Int) from rfl]
    (repeat first | refine gS ?_ | refine gA fun _ => ?_ | refine gX fun _ _ => ?_ | refine gT ?_ | refine gF ?_ | refine gI ?_)
    refine rwrong ?_
    (repeat first | refine gS ?_ | refine gA fun _ => ?_ | refine gX fun _ _ => ?_ | refine gT ?_ | refine gF ?_ | refine gI ?_)
    exact sm (ansE (A := errA 9) rfl rfl h)
  · rw [e3] at h
    simp only at h
    rw [e1, show idxI (some i) = (i : Int) from rfl]
    obtain ⟨hsO, hsn⟩ := oof_some e3
    have hfs := hfl s.name
    refine goS ?_
    refine E_ifF (by omega) ?_
    refine E_rmo fun vs ss os Lv Ls Lo Lh SS iv is io iV iS iO hsl hsh => ?_
    have rO := rs_pool (B := B) (enc := roC) iO
    (repeat first | refine gS ?_ | refine gA fun _ => ?_ | refine gX fun _ _ => ?_ | refine gT ?_ | refine gF ?_ | refine gI ?_)
    unfold roC
    (repeat first | refine gS ?_ | refine gA fun _ => ?_ | refine gX fun _ _ => ?_ | refine gT ?_ | refine gF ?_ | refine gI ?_)
    rename_i b8
    refine E_same (G := cel true a 70 [vs, ss, os, I M.began, I M.now, I M.quota] :: spool rvC Lv :: spool rsC Ls :: spool roC Lo :: spool hC Lh :: cel true b8 72 [I s.n, str s.name, str s.text] :: cel true br 33 [I 0, I 0, nil, nil] :: H) (by repeat (first | exact Same.refl | (refine Same.cons (by repeat (first | exact Find.here | apply Find.there)) ?_) | (refine Same.drop ?_))) ?_
    refine E_rmoS vs ss os (SS := SS) iV iS iO hsl hsh rfl rfl rfl ?_
    refine rlost hw e1 ?_
    (repeat first | refine gS ?_ | refine gA fun _ => ?_ | refine gX fun _ _ => ?_ | refine gT ?_ | refine gF ?_ | refine gI ?_)
    refine fd (a := rmo a (lostM M o.n)) (rcount hw.n ?_)
    (repeat first | refine gS ?_ | refine gA fun _ => ?_ | refine gX fun _ _ => ?_ | refine gT ?_ | refine gF ?_ | refine gI ?_)
    have eV : (lostM M o.n).V = M.V := rfl
    rw [eV]
    refine E_join1 [ptr a, .bool sp, ptr br, ptr b8, I (topG (fof M.V s.name)), .bool (decide ((fof M.V s.name = [] ∧ (nms M.V).length = 64) ∨ (fof M.V s.name).length = 32))] (rmo a (lostM M o.n) :: cel true b8 72 [I s.n, str s.name, str s.text] :: cel true br 33 [I 0, I 0, nil, nil] :: H) (fun q hq => ?_) ?_
    · have fin : ∀ b : Bool, decide ((fof M.V s.name = [] ∧ (nms M.V).length = 64) ∨ (fof M.V s.name).length = 32) = b → E B (rmo a (lostM M o.n) :: cel true b8 72 [I s.n, str s.name, str s.text] :: cel true br 33 [I 0, I 0, nil, nil] :: H) (app 6 q [ptr a, .bool sp, ptr br, ptr b8, I (topG (fof M.V s.name)), .bool b]) := fun b hb => hb ▸ hq
      have hz : fof M.V s.name = [] ↔ ((fof M.V s.name).length : Int) = 0 := by
        rw [← List.length_eq_zero_iff]; omega
      by_cases h1 : ((fof M.V s.name).length : Int) = 0
      · by_cases h2 : (64 : Int) ≤ ((nms M.V).length : Int)
        · (repeat first | refine gS ?_ | refine gA fun _ => ?_ | refine gX fun _ _ => ?_ | refine gT ?_ | refine gF ?_ | refine gI ?_)
          exact sm (fin true (decide_eq_true (.inl ⟨hz.2 h1, by omega⟩)))
        · (repeat first | refine gS ?_ | refine gA fun _ => ?_ | refine gX fun _ _ => ?_ | refine gT ?_ | refine gF ?_ | refine gI ?_)
          refine sm (fin _ ?_)
          rw [decide_eq_decide]; omega
      · (repeat first | refine gS ?_ | refine gA fun _ => ?_ | refine gX fun _ _ => ?_ | refine gT ?_ | refine gF ?_ | refine gI ?_)
        refine sm (fin _ ?_)
        rw [decide_eq_decide, hz]; omega
    · refine E_fa fun _ => ?_
      refine E_if (fun hc => ?_) (fun hc => ?_)
      · rw [if_pos hc] at h
        refine rwrong ?_
        (repeat first | refine gS ?_ | refine gA fun _ => ?_ | refine gX fun _ _ => ?_ | refine gT ?_ | refine gF ?_ | refine gI ?_)
        exact sm (ansE (A := errA 6) rfl rfl h)
      · rw [if_neg hc] at h
        cases sp with
        | true =>
          rw [if_pos rfl] at h
          refine E_tt ?_
          refine rwrong ?_
          (repeat first | refine gS ?_ | refine gA fun _ => ?_ | refine gX fun _ _ => ?_ | refine gT ?_ | refine gF ?_ | refine gI ?_)
          exact sm (ansE (A := errA 8) rfl rfl h)
        | false =>
          rw [if_neg (by decide)] at h
          refine E_ff ?_
          have hgb : topG (fof M.V s.name) ≤ 1000000 ∧ 0 ≤ topG (fof M.V s.name) := by
            by_cases hn : fof M.V s.name = []
            · rw [hn]; unfold topG; simp
            · obtain ⟨x, hx, hxg⟩ := topG_some hn
              have := hw.g x (fof_mem.1 (List.mem_of_getElem? hx)).1
              rw [hxg]; omega
          have hsp := tw_split (fun u : Ver => decide (u.name ≤ s.name)) M.V
          have hkl : (M.V.takeWhile fun u => decide (u.name ≤ s.name)).length ≤ M.V.length := (List.takeWhile_sublist _).length_le
          generalize hkk : (M.V.takeWhile fun u => decide (u.name ≤ s.name)).length = kk at hsp hkl
          refine E_loop (σ := Nat) (fun k => k ≤ kk) (fun k => [ptr a, ptr br, ptr b8, I (topG (fof M.V s.name)), I k]) (fun _ => rmo a (lostM M o.n) :: cel true b8 72 [I s.n, str s.name, str s.text] :: cel true br 33 [I 0, I 0, nil, nil] :: H) (fun k => kk - k) 0 (fun _ => rfl) rfl (Nat.zero_le _) (fun W hW => hW) ?_
          intro k K0 hk hkn
          refine E_fa fun _ => ?_
          refine E_join1 [ptr a, ptr br, ptr b8, I (topG (fof M.V s.name)), I k, .bool (decide (k < kk))] (rmo a (lostM M o.n) :: cel true b8 72 [I s.n, str s.name, str s.text] :: cel true br 33 [I 0, I 0, nil, nil] :: H) (fun q hq => ?_) ?_
          · have fin : ∀ b : Bool, decide (k < kk) = b → E B (rmo a (lostM M o.n) :: cel true b8 72 [I s.n, str s.name, str s.text] :: cel true br 33 [I 0, I 0, nil, nil] :: H) (app 6 q [ptr a, ptr br, ptr b8, I (topG (fof M.V s.name)), I k, .bool b]) := fun b hb => hb ▸ hq
            refine E_rmo fun vs ss os Lv Ls Lo Lh SS iv is io iV iS iO hsl hsh => ?_
            have rV := rs_pool (B := B) (enc := rvC) iV
            rw [eV] at rV
            (repeat first | refine gS ?_ | refine gA fun _ => ?_ | refine gX fun _ _ => ?_ | refine gT ?_ | refine gF ?_ | refine gI ?_)
            by_cases h0 : (k : Int) < (M.V.length : Int)
            · have hx : M.V[k]? = some M.V[k] := List.getElem?_eq_getElem (by omega)
              generalize M.V[k] = x at hx
              have hlt := tw_lt (p := fun u : Ver => decide (u.name ≤ s.name)) hx (by omega)
              rw [hkk] at hlt
              (repeat first | refine gS ?_ | refine gA fun _ => ?_ | refine gX fun _ _ => ?_ | refine gT ?_ | refine gF ?_ | refine gI ?_)
              refine E_rmoS (M := lostM M o.n) vs ss os (SS := SS) iV iS iO hsl hsh rfl rfl rfl ?_
              refine fin _ ?_
              rw [decide_eq_decide, ← hlt]; simp
            · (repeat first | refine gS ?_ | refine gA fun _ => ?_ | refine gX fun _ _ => ?_ | refine gT ?_ | refine gF ?_ | refine gI ?_)
              refine E_rmoS (M := lostM M o.n) vs ss os (SS := SS) iV iS iO hsl hsh rfl rfl rfl ?_
              exact fin false (decide_eq_false (by omega))
          · refine E_fa fun _ => ?_
            by_cases hc2 : k < kk
            · rw [decide_eq_true hc2]
              (repeat first | refine gS ?_ | refine gA fun _ => ?_ | refine gX fun _ _ => ?_ | refine gT ?_ | refine gF ?_ | refine gI ?_)
              exact hkn (k + 1) (by omega) (by omega)
            · have hke : k = kk := by omega
              subst hke
              rw [decide_eq_false hc2]
              refine E_ff ?_
              refine E_bsl0 u_rvers elt_rver fun bz => ?_
              refine E_slsC (enc := rvC) [] 0 rfl rfl ?_
              refine fd (a := rmo a (lostM M o.n)) ?_
              refine E_rmo fun vs ss os Lv Ls Lo Lh SS iv is io iV iS iO hsl hsh => ?_
              have rV := rs_pool (B := B) (enc := rvC) iV
              rw [eV] at rV
              (repeat first | refine gS ?_ | refine gA fun _ => ?_ | refine gX fun _ _ => ?_ | refine gT ?_ | refine gF ?_ | refine gI ?_)
              refine E_slcS2 (enc := rvC) (l := M.V) (i := 0) (j := k) (bound_nat k _) (by simp [S.bound]) (Nat.zero_le _) (by omega) fun v1 hv1 _ => ?_
              refine E_use (sls rvC 102 5 (.slice (some ⟨bz, 0, none⟩) 0 0)) (E_sapps (enc := rvC) (l := []) (m := (M.V.drop 0).take (k - 0)) u_rvers elt_rver (by simp; omega) (by simp; omega) fun v3 _ => ?_)
              rw [List.nil_append, List.drop_zero, Nat.sub_zero, hsp.1]
              have htl : (M.V.takeWhile fun u => decide (u.name ≤ s.name)).length ≤ 1000000 := by omega
              (repeat first | refine gS ?_ | refine gA fun _ => ?_ | refine gX fun _ _ => ?_ | refine gT ?_ | refine gF ?_ | refine gI ?_)
              refine E_build (l := [str s.name, I (topG (fof M.V s.name) + 1), I M.now, str s.text, .bool false]) str_rver ?_
              refine E_use (sls rvC 102 5 v3) (E_sapp1 (enc := rvC) (newV M s) u_rvers elt_rver rfl (by decide) (by omega) (by omega) fun v4 _ => ?_)
              (repeat first | refine gS ?_ | refine gA fun _ => ?_ | refine gX fun _ _ => ?_ | refine gT ?_ | refine gF ?_ | refine gI ?_)
              refine E_slcS2 (enc := rvC) (l := M.V) (i := k) (j := M.V.length) (by simp [S.bound]) (bound_nat k 0) (by omega) (by omega) fun v2 hv2 _ => ?_
              refine E_use (sls rvC 102 5 v4) (E_sapps (enc := rvC) (m := (M.V.drop k).take (M.V.length - k)) u_rvers elt_rver (by simp; omega) (by simp; omega) fun v5 _ => ?_)
              have e : M.V.takeWhile (fun u => decide (u.name ≤ s.name)) ++ [newV M s] ++ (M.V.drop k).take (M.V.length - k) = insV M.V (newV M s) := by
                rw [List.take_of_length_le (l := M.V.drop k) (by rw [List.length_drop]; exact Nat.le_refl _), hsp.2, List.append_assoc]; rfl
              rw [e]
              (repeat first | refine gS ?_ | refine gA fun _ => ?_ | refine gX fun _ _ => ?_ | refine gT ?_ | refine gF ?_ | refine gI ?_)
              refine E_build (l := [I 0, I (topG (fof M.V s.name) + 1), nil, nil]) str_ans ?_
              (repeat first | refine gS ?_ | refine gA fun _ => ?_ | refine gX fun _ _ => ?_ | refine gT ?_ | refine gF ?_ | refine gI ?_)
              refine E_same (G := sls rvC 102 5 v5 (insV M.V (newV M s)) :: spool rvC Lv :: cel true a 70 [v5, ss, os, I M.began, I M.now, I M.quota] :: spool rsC Ls :: spool roC Lo :: spool hC Lh :: H) (by repeat (first | exact Same.refl | (refine Same.cons (by repeat (first | exact Find.here | apply Find.there)) ?_) | (refine Same.drop ?_))) ?_
              refine E_give ?_
              refine sm (G := cel true a 70 [v5, ss, os, I M.began, I M.now, I M.quota] :: spool rvC ((v5, insV M.V (newV M s)) :: Lv) :: spool rsC Ls :: spool roC Lo :: spool hC Lh :: H) ?_
              refine E_rmoS (M := { lostM M o.n with V := insV M.V (newV M s) }) v5 ss os (SS := SS) (by simp) iS iO hsl hsh rfl rfl rfl ?_
              exact ansE (A := ⟨0, topG (fof M.V s.name) + 1, [], []⟩) rfl rfl h
end Go.Proofs.YtabpaknfenpkoaaGreat.Mod
