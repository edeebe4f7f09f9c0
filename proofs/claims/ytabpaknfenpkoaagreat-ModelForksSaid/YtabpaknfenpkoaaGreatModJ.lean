/-
  Model: what only tells; Delete.
-/
import Derived.Test.YtabpaknfenpkoaaGreatModI
set_option linter.unusedSimpArgs false
set_option linter.unusedVariables false
set_option linter.unusedSectionVars false
namespace Go.Proofs.YtabpaknfenpkoaaGreat.Mod
open Go Go.SL Go.Proofs Go.Proofs.YtabpaknfenpkoaaGreat.Sh
variable {B : World} {H : List Asrt} {K : Value → WT} {W : WT}
variable {a : Nat} {M : Mo} {o : Od} {bv kv : Value} {t u : Int}
theorem E_lkN {kd : TypeDesc} {z k : Value} {ok : Bool} (h : E B H (K (match ok with | true => .tuple #[z, .bool false] | false => z))) : E B H (S.lk kd z ok (.map none) k K) := h
theorem u_bytes : Tryz.prog.underlying 27 = some (.slice 5) := by kernel_rfl
theorem u_byte : Tryz.prog.underlying 5 = some (.int .u8) := by kernel_rfl
attribute [local irreducible] S.pick S.ld S.ldN S.st S.box S.nc S.fad S.ixS S.ixA S.chr S.prt S.ext S.bin S.sh S.sbin S.beq S.neg1 S.com1 S.not1 S.cvt S.str1 S.lenS S.len S.cap S.lenM S.mx S.mn S.mkM S.cond S.gd S.fa S.dr S.rck S.join S.loop S.cvv S.eqv S.slc S.slcS S.b2s S.lk V U CF Gives E cel mpb osl ros dct dit itr lpo dfo
set_option maxRecDepth 4000
attribute [local irreducible] mo ansH
theorem E_s2bL {s : List UInt8} (h : ∀ v [CellI v], E B (sls cB 5 1 v s :: H) (K v)) : E B H (V Tryz.prog (convert 9 27 (str s)) K) := by
  refine E_s2b (e := 5) u_string u_bytes u_byte fun v _ => ?_
  exact E_bytes (h v)
theorem live_at (V : List Ver) (n : List UInt8) (g : Int) : (lastIdx (liveP g) (fof V n) = none ∧ liveV V n g = none) ∨ ∃ i x, lastIdx (liveP g) (fof V n) = some i ∧ (fof V n)[i]? = some x ∧ liveV V n g = some x := by
  rcases lastIdx_getLast (p := liveP g) (l := fof V n) with ⟨e1, e2⟩ | ⟨i, x, e1, e2, _, e4⟩
  · exact .inl ⟨e1, e2⟩
  · exact .inr ⟨i, x, e1, e2, e4⟩
theorem textF [CellI bv] [CellI kv] (hw : Wf M) (h : E B (mo a M :: H) (K (match liveV M.V o.name o.gen with | none => .tuple #[.string ⟨#[]⟩, .bool false] | some v => .tuple #[str v.text, .bool true]))) :
    E B (mo a M :: H) (CF Tryz.prog 91 [ptr a, opV o bv kv t u] K) := by
  refine E_mono (W := s91 _ _ K) ?_ fun _ => c91
  unfold s91
  (repeat first | refine gS ?_ | refine gA fun _ => ?_ | refine gX fun _ _ => ?_ | refine gT ?_ | refine gF ?_ | refine gI ?_)
  rename_i bo
  refine fd (a := mo a M) (at_ (by have := fof_len M.V o.name; have := hw.n; omega) ?_)
  rcases live_at M.V o.name o.gen with ⟨e1, e2⟩ | ⟨i, x, e1, e2, e3⟩
  · rw [e2] at h
    rw [e1, show idxI none = (-1 : Int) from rfl]
    (repeat first | refine gS ?_ | refine gA fun _ => ?_ | refine gX fun _ _ => ?_ | refine gT ?_ | refine gF ?_ | refine gI ?_)
    exact sm h
  · rw [e3] at h
    rw [e1, show idxI (some i) = (i : Int) from rfl]
    (repeat first | refine gS ?_ | refine gA fun _ => ?_ | refine gX fun _ _ => ?_ | refine gT ?_ | refine gF ?_ | refine gI ?_)
    refine E_ifF (by omega) ?_
    refine E_mo fun r1 r2 r3 kf ks ko Lv Lh hf hs ho => ?_
    rcases hf o.name with ⟨_, h2⟩ | ⟨v, h1, h2, h3⟩
    · rw [h2] at e2; cases e2
    have hrs := rs_pool (B := B) (enc := vC) h2
    (repeat first | refine gS ?_ | refine gA fun _ => ?_ | refine gX fun _ _ => ?_ | refine gT ?_ | refine gF ?_ | refine gI ?_)
    refine E_dlk1 (κ := List UInt8) h1 ?_
    (repeat first | refine gS ?_ | refine gA fun _ => ?_ | refine gX fun _ _ => ?_ | refine gT ?_ | refine gF ?_ | refine gI ?_)
    refine sm (G := cel true a 82 [.map (some r1), .map (some r2), .map (some r3), I M.began, I M.now, I M.quota] :: dct kL true r1 kf :: dct kL true r2 ks :: dct kI true r3 ko :: spool vC Lv :: dpool kL Lh :: H) ?_
    exact E_moS (M := M) r1 r2 r3 hf hs ho rfl rfl rfl h
theorem readF [CellI bv] [CellI kv] (hw : Wf M) (h : ∀ rv, E B (ansH (readA M o) rv :: mo a M :: H) (K rv)) : E B (mo a M :: H) (CF Tryz.prog 73 [ptr a, opV o bv kv t u] K) := by
  refine E_mono (W := s73 _ _ K) ?_ fun _ => c73
  unfold s73
  unfold readA at h
  (repeat first | refine gS ?_ | refine gA fun _ => ?_ | refine gX fun _ _ => ?_ | refine gT ?_ | refine gF ?_ | refine gI ?_)
  refine fd (a := mo a M) (textF hw ?_)
  cases hl : liveV M.V o.name o.gen with
  | none =>
    rw [hl] at h
    simp only at h ⊢
    (repeat first | refine gS ?_ | refine gA fun _ => ?_ | refine gX fun _ _ => ?_ | refine gT ?_ | refine gF ?_ | refine gI ?_)
    refine wrong ?_
    (repeat first | refine gS ?_ | refine gA fun _ => ?_ | refine gX fun _ _ => ?_ | refine gT ?_ | refine gF ?_ | refine gI ?_)
    exact sm (ansE (A := errA 9) rfl rfl h)
  | some v =>
    rw [hl] at h
    simp only at h ⊢
    (repeat first | refine gS ?_ | refine gA fun _ => ?_ | refine gX fun _ _ => ?_ | refine gT ?_ | refine gF ?_ | refine gI ?_)
    refine E_s2bL fun rv _ => ?_
    refine E_build (l := [I 0, I 0, rv, nil]) str_ans ?_
    (repeat first | refine gS ?_ | refine gA fun _ => ?_ | refine gX fun _ _ => ?_ | refine gT ?_ | refine gF ?_ | refine gI ?_)
    exact sm (ansB (A := ⟨0, 0, v.text, []⟩) rfl h)
theorem statF [CellI bv] [CellI kv] (hw : Wf M) (h : ∀ rv, E B (ansH (statA M o) rv :: mo a M :: H) (K rv)) : E B (mo a M :: H) (CF Tryz.prog 76 [ptr a, opV o bv kv t u] K) := by
  refine E_mono (W := s76 _ _ K) ?_ fun _ => c76
  unfold s76
  unfold statA at h
  (repeat first | refine gS ?_ | refine gA fun _ => ?_ | refine gX fun _ _ => ?_ | refine gT ?_ | refine gF ?_ | refine gI ?_)
  refine fd (a := mo a M) (textF hw ?_)
  cases hl : liveV M.V o.name o.gen with
  | none =>
    rw [hl] at h
    simp only at h ⊢
    (repeat first | refine gS ?_ | refine gA fun _ => ?_ | refine gX fun _ _ => ?_ | refine gT ?_ | refine gF ?_ | refine gI ?_)
    refine wrong ?_
    (repeat first | refine gS ?_ | refine gA fun _ => ?_ | refine gX fun _ _ => ?_ | refine gT ?_ | refine gF ?_ | refine gI ?_)
    exact sm (ansE (A := errA 9) rfl rfl h)
  | some v =>
    rw [hl] at h
    simp only at h ⊢
    (repeat first | refine gS ?_ | refine gA fun _ => ?_ | refine gX fun _ _ => ?_ | refine gT ?_ | refine gF ?_ | refine gI ?_)
    refine E_build (l := [I 0, I v.text.length, nil, nil]) str_ans ?_
    (repeat first | refine gS ?_ | refine gA fun _ => ?_ | refine gX fun _ _ => ?_ | refine gT ?_ | refine gF ?_ | refine gI ?_)
    exact sm (ansE (A := ⟨0, v.text.length, [], []⟩) rfl rfl h)
theorem cutF [CellI bv] [CellI kv] (hw : Wf M) (h : ∀ rv, E B (ansH (cutA M o) rv :: mo a M :: H) (K rv)) : E B (mo a M :: H) (CF Tryz.prog 74 [ptr a, opV o bv kv t u] K) := by
  refine E_mono (W := s74 _ _ K) ?_ fun _ => c74
  unfold s74
  unfold cutA at h
  (repeat first | refine gS ?_ | refine gA fun _ => ?_ | refine gX fun _ _ => ?_ | refine gT ?_ | refine gF ?_ | refine gI ?_)
  rename_i bo br
  refine fd (a := mo a M) (textF hw ?_)
  cases hl : liveV M.V o.name o.gen with
  | none =>
    rw [hl] at h
    simp only at h ⊢
    (repeat first | refine gS ?_ | refine gA fun _ => ?_ | refine gX fun _ _ => ?_ | refine gT ?_ | refine gF ?_ | refine gI ?_)
    refine wrong ?_
    (repeat first | refine gS ?_ | refine gA fun _ => ?_ | refine gX fun _ _ => ?_ | refine gT ?_ | refine gF ?_ | refine gI ?_)
    exact sm (ansE (A := errA 9) rfl rfl h)
  | some v =>
    rw [hl] at h
    simp only at h ⊢
    (repeat first | refine gS ?_ | refine gA fun _ => ?_ | refine gX fun _ _ => ?_ | refine gT ?_ | refine gF ?_ | refine gI ?_)
    refine E_join1 [ptr bo, ptr br, str v.text, .bool (decide (o.from_ < 0 ∨ (v.text.length : Int) < o.from_ ∨ o.size < 0))] (cel true br 33 [I 0, I 0, nil, nil] :: cel true bo 42 (opL o bv kv t u) :: mo a M :: H) (fun q hq => ?_) ?_
    · have fin2 : ∀ b : Bool, decide (o.from_ < 0 ∨ (v.text.length : Int) < o.from_ ∨ o.size < 0) = b → E B (cel true br 33 [I 0, I 0, nil, nil] :: cel true bo 42 (opL o bv kv t u) :: mo a M :: H) (app 4 q [ptr bo, ptr br, str v.text, .bool b]) := fun b hb => hb ▸ hq
      by_cases h0 : o.from_ < 0
      · (repeat first | refine gS ?_ | refine gA fun _ => ?_ | refine gX fun _ _ => ?_ | refine gT ?_ | refine gF ?_ | refine gI ?_)
        exact sm (fin2 true (decide_eq_true (.inl h0)))
      · by_cases h1 : (v.text.length : Int) < o.from_
        · (repeat first | refine gS ?_ | refine gA fun _ => ?_ | refine gX fun _ _ => ?_ | refine gT ?_ | refine gF ?_ | refine gI ?_)
          exact sm (fin2 true (decide_eq_true (.inr (.inl h1))))
        · (repeat first | refine gS ?_ | refine gA fun _ => ?_ | refine gX fun _ _ => ?_ | refine gT ?_ | refine gF ?_ | refine gI ?_)
          refine sm (fin2 _ ?_)
          rw [decide_eq_decide]; omega
    · refine E_fa fun _ => ?_
      refine E_if (fun hc => ?_) (fun hc => ?_)
      · rw [if_pos hc] at h
        refine wrong ?_
        (repeat first | refine gS ?_ | refine gA fun _ => ?_ | refine gX fun _ _ => ?_ | refine gT ?_ | refine gF ?_ | refine gI ?_)
        exact sm (ansE (A := errA 2) rfl rfl h)
      · rw [if_neg hc] at h
        (repeat first | refine gS ?_ | refine gA fun _ => ?_ | refine gX fun _ _ => ?_ | refine gT ?_ | refine gF ?_ | refine gI ?_)
        obtain ⟨i, hi⟩ : ∃ i : Nat, o.from_ = i := ⟨o.from_.toNat, by omega⟩
        have hi' : o.from_.toNat = i := by omega
        rw [hi'] at h
        rw [hi]
        have hil : i ≤ v.text.length := by omega
        refine E_slcL (i := i) (j := v.text.length) (by simp [S.bound]) (by simp [S.bound]) hil (Nat.le_refl _) ?_
        (repeat first | refine gS ?_ | refine gA fun _ => ?_ | refine gX fun _ _ => ?_ | refine gT ?_ | refine gF ?_ | refine gI ?_)
        have hdl : ((v.text.drop i).take (v.text.length - i)) = v.text.drop i := List.take_of_length_le (by rw [List.length_drop]; omega)
        rw [hdl]
        obtain ⟨j, hj⟩ : ∃ j : Nat, min o.size ((v.text.drop i).length : Int) = j := ⟨(min o.size ((v.text.drop i).length : Int)).toNat, by omega⟩
        rw [hj]
        refine E_slcL (i := 0) (j := j) (by simp [S.bound]) (by simp [S.bound]) (Nat.zero_le _) (by omega) ?_
        have htk : (((v.text.drop i).drop 0).take (j - 0)) = (v.text.drop i).take o.size.toNat := by
          rw [List.drop_zero, Nat.sub_zero]
          by_cases hlt : o.size ≤ ((v.text.drop i).length : Int)
          · congr 1; omega
          · rw [List.take_of_length_le (by omega), List.take_of_length_le (by omega)]
        rw [htk]
        refine E_s2bL fun rv _ => ?_
        refine E_build (l := [I 0, I 0, rv, nil]) str_ans ?_
        (repeat first | refine gS ?_ | refine gA fun _ => ?_ | refine gX fun _ _ => ?_ | refine gT ?_ | refine gF ?_ | refine gI ?_)
        exact sm (ansB (A := ⟨0, 0, (v.text.drop i).take o.size.toNat, []⟩) rfl h)
theorem removeF [CellI bv] [CellI kv] (hw : Wf M) (h : ∀ rv, E B (ansH (removeM M o).1 rv :: mo a (removeM M o).2 :: H) (K rv)) : E B (mo a M :: H) (CF Tryz.prog 45 [ptr a, opV o bv kv t u] K) := by
  refine E_mono (W := s45 _ _ K) ?_ fun _ => c45
  unfold s45
  unfold removeM at h
  (repeat first | refine gS ?_ | refine gA fun _ => ?_ | refine gX fun _ _ => ?_ | refine gT ?_ | refine gF ?_ | refine gI ?_)
  refine fd (a := mo a M) (at_ (by have := fof_len M.V o.name; have := hw.n; omega) ?_)
  rcases live_at M.V o.name o.gen with ⟨e1, e2⟩ | ⟨i, x, e1, e2, e3⟩
  · rw [e2] at h
    rw [e1, show idxI none = (-1 : Int) from rfl]
    simp only at h
    (repeat first | refine gS ?_ | refine gA fun _ => ?_ | refine gX fun _ _ => ?_ | refine gT ?_ | refine gF ?_ | refine gI ?_)
    refine wrong ?_
    (repeat first | refine gS ?_ | refine gA fun _ => ?_ | refine gX fun _ _ => ?_ | refine gT ?_ | refine gF ?_ | refine gI ?_)
    exact sm (ansE (A := errA 9) rfl rfl h)
  · rw [e3] at h
    rw [e1, show idxI (some i) = (i : Int) from rfl]
    simp only at h
    (repeat first | refine gS ?_ | refine gA fun _ => ?_ | refine gX fun _ _ => ?_ | refine gT ?_ | refine gF ?_ | refine gI ?_)
    refine E_ifF (by omega) ?_
    (repeat first | refine gS ?_ | refine gA fun _ => ?_ | refine gX fun _ _ => ?_ | refine gT ?_ | refine gF ?_ | refine gI ?_)
    refine drop hw e2 ?_
    refine E_build (l := [I 0, I 0, nil, nil]) str_ans ?_
    (repeat first | refine gS ?_ | refine gA fun _ => ?_ | refine gX fun _ _ => ?_ | refine gT ?_ | refine gF ?_ | refine gI ?_)
    exact sm (ansE (A := okA) rfl rfl h)
theorem shownF [CellI bv] [CellI kv] (hw : Wf M) (h : ∀ rv, E B (ansH (shownA M o) rv :: mo a M :: H) (K rv)) : E B (mo a M :: H) (CF Tryz.prog 75 [ptr a, opV o bv kv t u] K) := by
  refine E_mono (W := s75 _ _ K) ?_ fun _ => c75
  unfold s75
  unfold shownA heldG at h
  (repeat first | refine gS ?_ | refine gA fun _ => ?_ | refine gX fun _ _ => ?_ | refine gT ?_ | refine gF ?_ | refine gI ?_)
  rename_i bo br
  refine fd (a := mo a M) (E_mo fun r1 r2 r3 kf ks ko Lv Lh hf hs ho => ?_)
  (repeat first | refine gS ?_ | refine gA fun _ => ?_ | refine gX fun _ _ => ?_ | refine gT ?_ | refine gF ?_ | refine gI ?_)
  rcases hs o.shot with ⟨h1, h2⟩ | ⟨r, kvs, s, h1, h2, h3, h4⟩
  · rw [h2] at h
    simp only at h
    refine E_dlk0 (κ := List UInt8) h1 ?_
    (repeat first | refine gS ?_ | refine gA fun _ => ?_ | refine gX fun _ _ => ?_ | refine gT ?_ | refine gF ?_ | refine gI ?_)
    refine E_lkN ?_
    (repeat first | refine gS ?_ | refine gA fun _ => ?_ | refine gX fun _ _ => ?_ | refine gT ?_ | refine gF ?_ | refine gI ?_)
    refine E_rck1 (E_lkN (E_fact rfl)) ?_
    refine E_rck1 (E_ld (E_fact rfl)) ?_
    refine E_rck1 (E_dlk0 (κ := List UInt8) h1 (E_fact rfl)) ?_
    (repeat (refine E_rck1 (by first | exact E_ld (E_fact rfl) | exact E_ld' (by assumption) (E_fact rfl) | exact E_b2sR (E_fact rfl) | exact E_gdnF (by assumption) (E_ld (E_fact rfl)) | exact E_gdT (by assumption) (E_ld (E_fact rfl)) | exact E_gtf (E_ld (E_fact rfl)) | exact E_gft (E_ld (E_fact rfl)) | exact E_ldNA (E_fact rfl) | exact E_ptld (E_fact rfl) | exact E_gtf (E_ldNA (E_fact rfl))) ?_)); (first | (refine E_rck0 ?_) | skip)
    (repeat first | refine gS ?_ | refine gA fun _ => ?_ | refine gX fun _ _ => ?_ | refine gT ?_ | refine gF ?_ | refine gI ?_)
    refine wrong ?_
    (repeat first | refine gS ?_ | refine gA fun _ => ?_ | refine gX fun _ _ => ?_ | refine gT ?_ | refine gF ?_ | refine gI ?_)
    refine sm (G := cel true a 82 [.map (some r1), .map (some r2), .map (some r3), I M.began, I M.now, I M.quota] :: dct kL true r1 kf :: dct kL true r2 ks :: dct kI true r3 ko :: spool vC Lv :: dpool kL Lh :: H) ?_
    refine E_moS (M := M) r1 r2 r3 hf hs ho rfl rfl rfl ?_
    exact ansE (A := errA 9) rfl rfl h
  · rw [h3] at h
    simp only at h
    refine E_dlk1 (κ := List UInt8) h1 ?_
    (repeat first | refine gS ?_ | refine gA fun _ => ?_ | refine gX fun _ _ => ?_ | refine gT ?_ | refine gF ?_ | refine gI ?_)
    refine fd (a := dpool kL Lh) (E_pget h2 ?_)
    show E B (dct kL false r kvs :: _) _
    cases hl : lk s.held o.name with
    | none =>
      rw [hl] at h
      simp only at h
      have hn : lk kvs o.name = none := by rw [h4, hl]; rfl
      refine E_dlk0 (κ := List UInt8) hn ?_
      (repeat first | refine gS ?_ | refine gA fun _ => ?_ | refine gX fun _ _ => ?_ | refine gT ?_ | refine gF ?_ | refine gI ?_)
      refine E_rck1 (E_dlk0 (κ := List UInt8) hn (E_fact rfl)) ?_
      refine E_rck1 (E_ld (E_fact rfl)) ?_
      refine E_rck1 (E_dlk1 (κ := List UInt8) h1 (E_fact rfl)) ?_
      (repeat (refine E_rck1 (by first | exact E_ld (E_fact rfl) | exact E_ld' (by assumption) (E_fact rfl) | exact E_b2sR (E_fact rfl) | exact E_gdnF (by assumption) (E_ld (E_fact rfl)) | exact E_gdT (by assumption) (E_ld (E_fact rfl)) | exact E_gtf (E_ld (E_fact rfl)) | exact E_gft (E_ld (E_fact rfl)) | exact E_ldNA (E_fact rfl) | exact E_ptld (E_fact rfl) | exact E_gtf (E_ldNA (E_fact rfl))) ?_)); (first | (refine E_rck0 ?_) | skip)
      (repeat first | refine gS ?_ | refine gA fun _ => ?_ | refine gX fun _ _ => ?_ | refine gT ?_ | refine gF ?_ | refine gI ?_)
      refine wrong ?_
      (repeat first | refine gS ?_ | refine gA fun _ => ?_ | refine gX fun _ _ => ?_ | refine gT ?_ | refine gF ?_ | refine gI ?_)
      refine sm (G := cel true a 82 [.map (some r1), .map (some r2), .map (some r3), I M.began, I M.now, I M.quota] :: dct kL true r1 kf :: dct kL true r2 ks :: dct kI true r3 ko :: spool vC Lv :: dpool kL Lh :: H) ?_
      refine E_moS (M := M) r1 r2 r3 hf hs ho rfl rfl rfl ?_
      exact ansE (A := errA 9) rfl rfl h
    | some g =>
      rw [hl] at h
      simp only at h
      have hn : lk kvs o.name = some (kI g) := by rw [h4, hl]; rfl
      refine E_dlk1 (κ := List UInt8) hn ?_
      (repeat first | refine gS ?_ | refine gA fun _ => ?_ | refine gX fun _ _ => ?_ | refine gT ?_ | refine gF ?_ | refine gI ?_)
      rename_i bg
      refine E_rck1 (E_dlk1 (κ := List UInt8) hn (E_fact rfl)) ?_
      refine E_rck1 (E_ld (E_fact rfl)) ?_
      refine E_rck1 (E_dlk1 (κ := List UInt8) h1 (E_fact rfl)) ?_
      (repeat (refine E_rck1 (by first | exact E_ld (E_fact rfl) | exact E_ld' (by assumption) (E_fact rfl) | exact E_b2sR (E_fact rfl) | exact E_gdnF (by assumption) (E_ld (E_fact rfl)) | exact E_gdT (by assumption) (E_ld (E_fact rfl)) | exact E_gtf (E_ld (E_fact rfl)) | exact E_gft (E_ld (E_fact rfl)) | exact E_ldNA (E_fact rfl) | exact E_ptld (E_fact rfl) | exact E_gtf (E_ldNA (E_fact rfl))) ?_)); (first | (refine E_rck0 ?_) | skip)
      (repeat first | refine gS ?_ | refine gA fun _ => ?_ | refine gX fun _ _ => ?_ | refine gT ?_ | refine gF ?_ | refine gI ?_)
      obtain ⟨w, hwV, hwn, hwg⟩ := hw.se s (sof_some h3).1 (o.name, g) (lk_in hl)
      simp only at hwn hwg
      have hwf : w ∈ fof M.V o.name := fof_mem.2 ⟨hwV, hwn⟩
      rcases hf o.name with ⟨_, g2⟩ | ⟨v, g1, g2, g3⟩
      · rw [g2] at hwf; cases hwf
      have hrs := rs_pool (B := B) (enc := vC) g2
      refine E_dlk1 (κ := List UInt8) g1 ?_
      refine fd (a := cel true bg 3 [I g]) ?_
      refine indexFunc (p := fun v => decide (v.gen = g)) (v := v) (l := fof M.V o.name) (by have := fof_len M.V o.name; have := hw.n; omega) (fun x hx H' K' hK => ?_) ?_
      · refine E_cvv (by kernel_rfl) ?_
        show E B _ (CF Tryz.prog 93 [.agg (vC x).toArray, ptr bg] K')
        refine E_mono (W := s93 _ _ K') ?_ fun _ => c93
        unfold s93
        unfold vC
        (repeat first | refine gS ?_ | refine gA fun _ => ?_ | refine gX fun _ _ => ?_ | refine gT ?_ | refine gF ?_ | refine gI ?_)
        exact sm hK
      · cases hfi : (fof M.V o.name).findIdx? fun v => decide (v.gen = g) with
        | none =>
          have := List.findIdx?_eq_none_iff.1 hfi w hwf
          simp [hwg] at this
        | some i =>
          obtain ⟨hil, hip, hno⟩ := List.findIdx?_eq_some_iff_getElem.1 hfi
          have hx : (fof M.V o.name)[i]? = some (fof M.V o.name)[i] := List.getElem?_eq_getElem hil
          have hfd : (fof M.V o.name).find? (fun v => decide (v.gen = g)) = some (fof M.V o.name)[i] := by
            rw [List.find?_eq_some_iff_getElem]
            exact ⟨hip, i, hil, rfl, fun j hj => by simpa using hno j hj⟩
          rw [hfd] at h
          generalize (fof M.V o.name)[i] = x at hx h
          simp only at h
          rw [show idxI (some i) = (i : Int) from rfl]
          (repeat first | refine gS ?_ | refine gA fun _ => ?_ | refine gX fun _ _ => ?_ | refine gT ?_ | refine gF ?_ | refine gI ?_)
          refine E_dlk1 (κ := List UInt8) g1 ?_
          (repeat first | refine gS ?_ | refine gA fun _ => ?_ | refine gX fun _ _ => ?_ | refine gT ?_ | refine gF ?_ | refine gI ?_)
          refine E_s2bL fun rv _ => ?_
          refine E_build (l := [I 0, I 0, rv, nil]) str_ans ?_
          (repeat first | refine gS ?_ | refine gA fun _ => ?_ | refine gX fun _ _ => ?_ | refine gT ?_ | refine gF ?_ | refine gI ?_)
          refine sm (G := cel true a 82 [.map (some r1), .map (some r2), .map (some r3), I M.began, I M.now, I M.quota] :: dct kL true r1 kf :: dct kL true r2 ks :: dct kI true r3 ko :: spool vC Lv :: dpool kL Lh :: sls cB 5 1 rv x.text :: H) ?_
          refine E_moS (M := M) r1 r2 r3 hf hs ho rfl rfl rfl ?_
          exact sm (ansB (A := ⟨0, 0, x.text, []⟩) rfl h)
theorem toldF [CellI bv] [CellI kv] (hw : Wf M) (h : ∀ rv, E B (ansH (toldA M o) rv :: mo a M :: H) (K rv)) : E B (mo a M :: H) (CF Tryz.prog 44 [ptr a, opV o bv kv t u] K) := by
  refine E_mono (W := s44 _ _ K) ?_ fun _ => c44
  unfold s44
  unfold toldA at h
  (repeat first | refine gS ?_ | refine gA fun _ => ?_ | refine gX fun _ _ => ?_ | refine gT ?_ | refine gF ?_ | refine gI ?_)
  rename_i bo br
  have fin : ∀ (A : Ans), (∀ rv, E B (ansH A rv :: mo a M :: H) (K rv)) → ∀ rv, E B (ansH A rv :: mo a M :: cel true br 33 [I 0, I 0, nil, nil] :: cel true bo 42 (opL o bv kv t u) :: H) (S.st 4 (ptr br) rv fun _ => S.ldN 4 (ptr br) K) := fun A hA rv => by
    refine ans_open fun b' h' _ _ e => ?_
    subst e
    (repeat first | refine gS ?_ | refine gA fun _ => ?_ | refine gX fun _ _ => ?_ | refine gT ?_ | refine gF ?_ | refine gI ?_)
    refine sm (G := sls cB 5 1 b' A.bytes :: sls hC 106 2 h' A.names :: mo a M :: H) ?_
    exact ans_shut (hA _)
  refine E_if (fun hc => ?_) (fun hc => ?_)
  · rw [if_pos hc] at h
    (repeat first | refine gS ?_ | refine gA fun _ => ?_ | refine gX fun _ _ => ?_ | refine gT ?_ | refine gF ?_ | refine gI ?_)
    exact sm (readF hw (H := cel true br 33 [I 0, I 0, nil, nil] :: cel true bo 42 (opL o bv kv t u) :: H) (fin _ h))
  · rw [if_neg hc] at h
    (repeat first | refine gS ?_ | refine gA fun _ => ?_ | refine gX fun _ _ => ?_ | refine gT ?_ | refine gF ?_ | refine gI ?_)
    refine E_if (fun hc => ?_) (fun hc => ?_)
    · rw [if_pos hc] at h
      (repeat first | refine gS ?_ | refine gA fun _ => ?_ | refine gX fun _ _ => ?_ | refine gT ?_ | refine gF ?_ | refine gI ?_)
      exact sm (cutF hw (H := cel true br 33 [I 0, I 0, nil, nil] :: cel true bo 42 (opL o bv kv t u) :: H) (fin _ h))
    · rw [if_neg hc] at h
      (repeat first | refine gS ?_ | refine gA fun _ => ?_ | refine gX fun _ _ => ?_ | refine gT ?_ | refine gF ?_ | refine gI ?_)
      refine E_if (fun hc => ?_) (fun hc => ?_)
      · rw [if_pos hc] at h
        (repeat first | refine gS ?_ | refine gA fun _ => ?_ | refine gX fun _ _ => ?_ | refine gT ?_ | refine gF ?_ | refine gI ?_)
        exact sm (shownF hw (H := cel true br 33 [I 0, I 0, nil, nil] :: cel true bo 42 (opL o bv kv t u) :: H) (fin _ h))
      · rw [if_neg hc] at h
        (repeat first | refine gS ?_ | refine gA fun _ => ?_ | refine gX fun _ _ => ?_ | refine gT ?_ | refine gF ?_ | refine gI ?_)
        refine E_if (fun hc => ?_) (fun hc => ?_)
        · rw [if_pos hc] at h
          (repeat first | refine gS ?_ | refine gA fun _ => ?_ | refine gX fun _ _ => ?_ | refine gT ?_ | refine gF ?_ | refine gI ?_)
          exact sm (statF hw (H := cel true br 33 [I 0, I 0, nil, nil] :: cel true bo 42 (opL o bv kv t u) :: H) (fin _ h))
        · rw [if_neg hc] at h
          (repeat first | refine gS ?_ | refine gA fun _ => ?_ | refine gX fun _ _ => ?_ | refine gT ?_ | refine gF ?_ | refine gI ?_)
          refine fd (a := mo a M) (names hw fun v _ => ?_)
          refine E_build (l := [I 0, I 0, nil, v]) str_ans ?_
          (repeat first | refine gS ?_ | refine gA fun _ => ?_ | refine gX fun _ _ => ?_ | refine gT ?_ | refine gF ?_ | refine gI ?_)
          exact sm (ansN (A := ⟨0, 0, [], namesV M.V⟩) rfl h)
end Go.Proofs.YtabpaknfenpkoaaGreat.Mod
