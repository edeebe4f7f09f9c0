/-
  Names: the program's Check.
-/
import Derived.Test.YtjafpncngmbcdaaGreatNmJ
set_option linter.unusedSimpArgs false
set_option linter.unusedVariables false
set_option linter.unusedSectionVars false
namespace Go.Proofs.YtjafpncngmbcdaaGreat.Nam
open Go Go.SL Go.Proofs Go.Proofs.YtjafpncngmbcdaaGreat.Sh
variable {B : World} {H : List Asrt} {K : Value → WT} {W : WT} {a : Nat} {M : Bk} {f : Fa} {rv hv mv : Value}
/-- What a book keeps. -/
structure Inv (M : Bk) : Prop where
  ss : M.S.Pairwise fun a b => a.name < b.name
  v : SrtG M.V
  g : ∀ v ∈ M.V, 1 ≤ v.gen ∧ v.gen ≤ 9007199254740991
  t : ∀ v ∈ M.V, 0 ≤ v.time ∧ v.time ≤ 9007199254740991
  r : ∀ v ∈ M.V, v.refs.length ≤ 256
  rr : ∀ v ∈ M.V, ∀ r ∈ v.refs, rightB r = true
  nm : ∀ v ∈ M.V, nameOk v.name = true
  nl : (nms M.V).length ≤ 64
  fl : ∀ k, (fof M.V k).length ≤ 32
  s16 : M.S.length ≤ 16
  sn : ∀ s ∈ M.S, nameOk s.name = true
  hh : ∀ s ∈ M.S, s.held.length ≤ 64
  hs : ∀ s ∈ M.S, (s.held.map (·.1)).Pairwise (· < ·)
  se : ∀ s ∈ M.S, ∀ h ∈ s.held, ∃ v ∈ M.V, v.name = h.1 ∧ v.gen = h.2
  st : ∀ s ∈ M.S, 0 ≤ s.time ∧ s.time ≤ M.now
  vt : ∀ v ∈ M.V, v.time ≤ M.now
  sw : sweepV M.S M.V = M.V
  now : 0 ≤ M.now ∧ M.now ≤ 9007199254740991
theorem Inv.su (h : Inv M) : SU M.S := fun _ hs => sof_of h.ss hs
def sumL (l : List Nat) : Nat := l.foldr (· + ·) 0
theorem sumL_le {l : List Nat} {c : Nat} (h : ∀ x ∈ l, x ≤ c) : sumL l ≤ c * l.length := by
  induction l with
  | nil => simp [sumL]
  | cons x l ih =>
    have h1 := h x (by simp)
    have h2 := ih fun y hy => h y (List.mem_cons_of_mem _ hy)
    show x + sumL l ≤ c * (l.length + 1)
    rw [Nat.mul_add, Nat.mul_one]; omega
theorem V_len {V : List Ver} (h : SrtN V) (hn : (nms V).length ≤ 64) (hf : ∀ k, (fof V k).length ≤ 32) : V.length ≤ 2048 := by
  have e : V.length = sumL ((nms V).map fun k => (fof V k).length) := by
    conv => lhs; rw [V_flat h]
    generalize nms V = l
    induction l with
    | nil => rfl
    | cons k l ih => rw [List.flatMap_cons, List.length_append, ih]; rfl
  rw [e]
  have := sumL_le (l := (nms V).map fun k => (fof V k).length) (c := 32) (fun x hx => by obtain ⟨k, _, rfl⟩ := List.mem_map.1 hx; exact hf k)
  rw [List.length_map] at this
  omega
theorem Inv.n (h : Inv M) : M.V.length ≤ 2048 := V_len h.v.n h.nl h.fl
theorem sok_keys {Lh : List (Value × List (List UInt8 × Int))} {ks : List (List UInt8 × Value)} {S : List Sn} (h : SOk Lh ks S) (hd : (ks.map (·.1)).Nodup) (hs : S.Pairwise fun a b => a.name < b.name) : (ks.map (·.1)).Perm (S.map (·.name)) := by
  have hsn : (S.map (·.name)).Nodup := List.pairwise_map.2 (hs.imp fun h => slt_ne h)
  refine (List.perm_ext_iff_of_nodup hd hsn).2 fun k => ?_
  rw [lk_mem]
  rcases h k with ⟨h1, h2⟩ | ⟨hv, s, h1, h2, _⟩
  · rw [h1]
    constructor
    · exact fun h => (h rfl).elim
    · intro hk
      obtain ⟨s, hs', rfl⟩ := List.mem_map.1 hk
      rw [sof_of hs hs'] at h2; cases h2
  · rw [h1]
    constructor
    · intro _
      obtain ⟨h3, h4⟩ := sof_some h2
      exact List.mem_map.2 ⟨s, h3, h4⟩
    · intro _ he; cases he
theorem bif_if (c : Bool) (p : Prop) [Decidable p] (h : c = decide p) (e : Int) : (bif c then e else 0) = if p then e else 0 := by
  rw [h]; by_cases hp : p <;> simp [hp]
attribute [local irreducible] S.pick S.ld S.ldN S.st S.box S.nc S.fad S.ixS S.ixA S.chr S.prt S.ext S.bin S.sh S.sbin S.beq S.neg1 S.com1 S.not1 S.cvt S.str1 S.lenS S.len S.cap S.lenM S.mx S.mn S.mkM S.cond S.gd S.fa S.dr S.rck S.join S.loop S.cvv S.eqv S.slc S.slcS S.b2s S.lk V U CF Gives E cel mpb osl ros dct dit itr lpo dfo
set_option maxRecDepth 8000
attribute [local irreducible] bk
theorem check [CellI rv] [CellI hv] [CellI mv] [hr1 : Rs B H rv rfC f.refs] [hr2 : Rs B H hv hC f.held] [hr3 : Rs B H mv mvC f.moves] (ho : FaOk f) (hw : Inv M) (h : E B (bk a M :: H) (K (I (checkB M f)))) : E B (bk a M :: H) (CF Tryz.prog 35 [ptr a, .agg (faL f rv hv mv).toArray] K) := by
  have hfl : ∀ k, (fof M.V k).length ≤ 140737488355328 := fun k => Nat.le_trans (hw.fl k) (by decide)
  have fin : ∀ e : Int, checkB M f = e → E B (bk a M :: H) (K (I e)) := fun e he => he ▸ h
  unfold checkB at fin
  refine E_mono (W := s35 _ _ K) ?_ fun _ => c35
  unfold s35
  refine E_box (vs := [ptr a]) fun b2 => ?_
  refine E_box (vs := faL f rv hv mv) fun b3 => ?_
  (repeat first | refine gS ?_ | refine gA fun _ => ?_ | refine gX fun _ _ => ?_ | refine gT ?_ | refine gF ?_ | refine gI ?_)
  refine E_peq u_pBook ?_
  (repeat first | refine gS ?_ | refine gA fun _ => ?_ | refine gX fun _ _ => ?_ | refine gT ?_ | refine gF ?_ | refine gI ?_)
  refine recCheck ho ?_
  (repeat first | refine gS ?_ | refine gA fun _ => ?_ | refine gX fun _ _ => ?_ | refine gT ?_ | refine gF ?_ | refine gI ?_)
  refine E_if (fun hc => ?_) (fun hc => ?_)
  · exact sm (fin _ (if_pos hc))
  rw [if_neg (by simpa using hc)] at fin
  refine fd (a := bk a M) (E_bk fun r1 r2 kf ks Lv Lr Lh hf hs => ?_)
  obtain ⟨s0, hv0, hrh, hlk, hsi, _, _⟩ := sok_get hs f.name
  (repeat first | refine gS ?_ | refine gA fun _ => ?_ | refine gX fun _ _ => ?_ | refine gT ?_ | refine gF ?_ | refine gI ?_)
  refine E_dlkg2 hlk ?_
  (repeat first | refine gS ?_ | refine gA fun _ => ?_ | refine gX fun _ _ => ?_ | refine gT ?_ | refine gF ?_ | refine gI ?_)
  rename_i b6
  refine E_rck1 (E_dlkg2 hlk (E_fact rfl)) ?_
  (repeat (refine E_rck1 (by first | exact E_ld (E_fact rfl) | exact E_ld' (by assumption) (E_fact rfl) | exact E_b2sR (E_fact rfl) | exact E_gdnF (by assumption) (E_ld (E_fact rfl)) | exact E_gdT (by assumption) (E_ld (E_fact rfl)) | exact E_gtf (E_ld (E_fact rfl)) | exact E_gft (E_ld (E_fact rfl)) | exact E_ldNA (E_fact rfl) | exact E_ptld (E_fact rfl) | exact E_gtf (E_ldNA (E_fact rfl))) ?_)); (first | (refine E_rck0 ?_) | skip)
  refine E_stW (vs := [str s0.name, I s0.time, hv0.1]) rfl rfl ?_
  (repeat first | refine gS ?_ | refine gA fun _ => ?_ | refine gX fun _ _ => ?_ | refine gT ?_ | refine gF ?_ | refine gI ?_)
  rw [hsi]
  refine sm (G := cel true a 81 [.map (some r1), .map (some r2), I M.now] :: dct kL true r1 kf :: dct kL true r2 ks :: spool vC Lv :: spool rfC Lr :: spool hC Lh :: cel true b2 23 [ptr a] :: cel true b3 60 (faL f rv hv mv) :: H) ?_
  by_cases h8 : f.k = 8
  · rw [if_pos h8] at fin
    (repeat first | refine gS ?_ | refine gA fun _ => ?_ | refine gX fun _ _ => ?_ | refine gT ?_ | refine gF ?_ | refine gI ?_)
    refine when ?_
    refine E_bsl [(0, 1)] u_errs elt_err (by simp) (by decide) (l0 := [I 0]) rfl fun bx => ?_
    refine E_slsC (enc := cI) [bif decide (f.time < M.now) then 2 else 0] 1 rfl rfl ?_
    refine first (l := [bif decide (f.time < M.now) then 2 else 0]) (by simp) ?_
    refine sm (G := cel true a 81 [.map (some r1), .map (some r2), I M.now] :: dct kL true r1 kf :: dct kL true r2 ks :: spool vC Lv :: spool rfC Lr :: spool hC Lh :: H) ?_
    refine E_bkS r1 r2 hf hs rfl (fin _ ?_)
    by_cases g : f.time < M.now <;> simp [firstE, g]
  rw [if_neg h8] at fin
  by_cases h3 : f.k = 3
  · rw [if_pos h3] at fin
    obtain ⟨v, l, hrv, hle, hlr, hlkf⟩ := fok_get hf f.name
    have hll : l.length = (fof M.V f.name).length := by rw [← hle, List.length_map]
    have hsome : (lk kf f.name).isSome = decide (fof M.V f.name ≠ []) := by
      rcases hf f.name with ⟨e1, e2⟩ | ⟨u, l', e1, _, e2⟩
      · rw [e1, e2]; rfl
      · rw [e1, decide_eq_true e2]; rfl
    (repeat first | refine gS ?_ | refine gA fun _ => ?_ | refine gX fun _ _ => ?_ | refine gT ?_ | refine gF ?_ | refine gI ?_)
    refine E_dlkg2 hlkf ?_
    (repeat first | refine gS ?_ | refine gA fun _ => ?_ | refine gX fun _ _ => ?_ | refine gT ?_ | refine gF ?_ | refine gI ?_)
    rw [hsome]
    refine gY ?_
    refine when ?_
    (repeat (refine E_rck1 (by first | exact E_ld (E_fact rfl) | exact E_ld' (by assumption) (E_fact rfl) | exact E_b2sR (E_fact rfl) | exact E_gdnF (by assumption) (E_ld (E_fact rfl)) | exact E_gdT (by assumption) (E_ld (E_fact rfl)) | exact E_gtf (E_ld (E_fact rfl)) | exact E_gft (E_ld (E_fact rfl)) | exact E_ldNA (E_fact rfl) | exact E_ptld (E_fact rfl) | exact E_gtf (E_ldNA (E_fact rfl))) ?_)); (first | (refine E_rck0 ?_) | skip)
    refine fd (a := spool vC Lv) (pool_dup ?_)
    refine sm (G := cel true a 81 [.map (some r1), .map (some r2), I M.now] :: dct kL true r1 kf :: dct kL true r2 ks :: spool vC Lv :: spool rfC Lr :: spool hC Lh :: spool vC Lv :: cel true b2 23 [ptr a] :: cel true b3 60 (faL f rv hv mv) :: H) ?_
    refine E_bkS r1 r2 hf hs rfl ?_
    refine next (hfl _) (fun v hv => ⟨(hw.g v hv).2, (hw.g v hv).1⟩) ?_
    (repeat (refine E_rck1 (by first | exact E_ld (E_fact rfl) | exact E_ld' (by assumption) (E_fact rfl) | exact E_b2sR (E_fact rfl) | exact E_gdnF (by assumption) (E_ld (E_fact rfl)) | exact E_gdT (by assumption) (E_ld (E_fact rfl)) | exact E_gtf (E_ld (E_fact rfl)) | exact E_gft (E_ld (E_fact rfl)) | exact E_ldNA (E_fact rfl) | exact E_ptld (E_fact rfl) | exact E_gtf (E_ldNA (E_fact rfl))) ?_)); (first | (refine E_rck0 ?_) | skip)
    (repeat first | refine gS ?_ | refine gA fun _ => ?_ | refine gX fun _ _ => ?_ | refine gT ?_ | refine gF ?_ | refine gI ?_)
    refine when ?_
    have iv : ∀ H', Rs B (spool vC Lv :: H') v vC l := hrv B
    have last : ∀ {G : List Asrt} (c : Bool), c = decide ((fof M.V f.name = [] ∧ (nms M.V).length = 64) ∨ (fof M.V f.name).length = 32) → [Sam (bk a M :: H) G] → E B G (CF Tryz.prog 80 [.bool c, I 6] fun v85 => V Tryz.prog (Instr.buildSlice 160 3 #[(0, I (bif decide (M.now < f.time) then 2 else 0)), (1, I (bif decide (f.gen < nextG M.V f.name) then 10 else 0)), (2, v85)]) fun v86 => CF Tryz.prog 79 [v86] fun v87 => K v87) := fun c hc _ => by
      refine sm (G := bk a M :: H) ?_
      refine when ?_
      refine E_bsl [(0, 1), (1, 1), (2, 1)] u_errs elt_err (by simp) (by decide) (l0 := [I 0, I 0, I 0]) rfl fun bx => ?_
      refine E_slsC (enc := cI) [bif decide (M.now < f.time) then 2 else 0, bif decide (f.gen < nextG M.V f.name) then 10 else 0, bif c then 6 else 0] 3 rfl rfl ?_
      refine first (l := [bif decide (M.now < f.time) then 2 else 0, bif decide (f.gen < nextG M.V f.name) then 10 else 0, bif c then 6 else 0]) (by simp) ?_
      refine sm (fin _ ?_)
      rw [bif_if _ _ hc]
      by_cases g1 : M.now < f.time
      · simp [firstE, g1]
      · by_cases g2 : f.gen < nextG M.V f.name
        · simp [firstE, g1, g2]
        · by_cases g3 : (fof M.V f.name = [] ∧ (nms M.V).length = 64) ∨ (fof M.V f.name).length = 32
          · rw [if_pos g3]; simp [firstE, g1, g2, g3]
          · rw [if_neg g3]; simp [firstE, g1, g2, g3]
    by_cases he : fof M.V f.name = []
    · rw [decide_eq_false (by simpa using he), Bool.not_false]
      have hl0 : l = [] := List.length_eq_zero_iff.1 (by rw [hll, he]; rfl)
      (repeat first | refine gS ?_ | refine gA fun _ => ?_ | refine gX fun _ _ => ?_ | refine gT ?_ | refine gF ?_ | refine gI ?_)
      refine fd (a := bk a M) (E_bk fun r1 r2 kf ks Lv' Lr Lh hf hs => ?_)
      refine fd (a := dct kL true r1 kf) (E_dnod fun hnod => ?_)
      have hkl : kf.length = (nms M.V).length := by have := (fok_keys hf hnod hw.v.n).length_eq; simpa using this
      (repeat first | refine gS ?_ | refine gA fun _ => ?_ | refine gX fun _ _ => ?_ | refine gT ?_ | refine gF ?_ | refine gI ?_)
      refine E_dlen (κ := List UInt8) ?_
      (repeat first | refine gS ?_ | refine gA fun _ => ?_ | refine gX fun _ _ => ?_ | refine gT ?_ | refine gF ?_ | refine gI ?_)
      rw [hkl]
      refine sm (G := cel true a 81 [.map (some r1), .map (some r2), I M.now] :: dct kL true r1 kf :: dct kL true r2 ks :: spool vC Lv' :: spool rfC Lr :: spool hC Lh :: spool vC Lv :: cel true b2 23 [ptr a] :: cel true b3 60 (faL f rv hv mv) :: H) ?_
      refine E_bkS r1 r2 hf hs rfl ?_
      by_cases h64 : ((nms M.V).length : Int) = 64
      · (repeat first | refine gS ?_ | refine gA fun _ => ?_ | refine gX fun _ _ => ?_ | refine gT ?_ | refine gF ?_ | refine gI ?_)
        exact last true (decide_eq_true (.inl ⟨he, by omega⟩)).symm
      · (repeat first | refine gS ?_ | refine gA fun _ => ?_ | refine gX fun _ _ => ?_ | refine gT ?_ | refine gF ?_ | refine gI ?_)
        exact last _ (by rw [hl0, he, decide_eq_decide]; simp; omega)
    · rw [decide_eq_true he, Bool.not_true]
      (repeat first | refine gS ?_ | refine gA fun _ => ?_ | refine gX fun _ _ => ?_ | refine gT ?_ | refine gF ?_ | refine gI ?_)
      exact last _ (by rw [hll, decide_eq_decide]; constructor; intro h; exact .inr (by omega); intro h; rcases h with h | h; exact (he h.1).elim; omega)
  rw [if_neg h3] at fin
  by_cases h4 : f.k = 4
  · rw [if_pos h4] at fin
    (repeat first | refine gS ?_ | refine gA fun _ => ?_ | refine gX fun _ _ => ?_ | refine gT ?_ | refine gF ?_ | refine gI ?_)
    refine E_build (l := [str f.name, I f.gen]) str_held ?_
    refine E_bkS r1 r2 hf hs rfl ?_
    refine live (hfl _) ?_
    refine gY ?_
    refine when ?_
    refine E_bsl [(0, 1)] u_errs elt_err (by simp) (by decide) (l0 := [I 0]) rfl fun bx => ?_
    refine E_slsC (enc := cI) [bif !liveB M.V f.name f.gen then 9 else 0] 1 rfl rfl ?_
    refine first (l := [bif !liveB M.V f.name f.gen then 9 else 0]) (by simp) ?_
    refine sm (fin _ ?_)
    cases liveB M.V f.name f.gen <;> simp [firstE]
  rw [if_neg h4] at fin
  by_cases h5 : f.k = 5
  · rw [if_pos h5] at fin
    refine fd (a := dct kL true r2 ks) (E_dnod fun hnod => ?_)
    have hkl : ks.length = M.S.length := by have := (sok_keys hs hnod hw.ss).length_eq; simpa using this
    (repeat first | refine gS ?_ | refine gA fun _ => ?_ | refine gX fun _ _ => ?_ | refine gT ?_ | refine gF ?_ | refine gI ?_)
    refine rises (l := f.held) ho.hd ?_
    (repeat first | refine gS ?_ | refine gA fun _ => ?_ | refine gX fun _ _ => ?_ | refine gT ?_ | refine gF ?_ | refine gI ?_)
    refine gY ?_
    refine when ?_
    (repeat (refine E_rck1 (by first | exact E_ld (E_fact rfl) | exact E_ld' (by assumption) (E_fact rfl) | exact E_b2sR (E_fact rfl) | exact E_gdnF (by assumption) (E_ld (E_fact rfl)) | exact E_gdT (by assumption) (E_ld (E_fact rfl)) | exact E_gtf (E_ld (E_fact rfl)) | exact E_gft (E_ld (E_fact rfl)) | exact E_ldNA (E_fact rfl) | exact E_ptld (E_fact rfl) | exact E_gtf (E_ldNA (E_fact rfl))) ?_)); (first | (refine E_rck0 ?_) | skip)
    refine when ?_
    (repeat (refine E_rck1 (by first | exact E_ld (E_fact rfl) | exact E_ld' (by assumption) (E_fact rfl) | exact E_b2sR (E_fact rfl) | exact E_gdnF (by assumption) (E_ld (E_fact rfl)) | exact E_gdT (by assumption) (E_ld (E_fact rfl)) | exact E_gtf (E_ld (E_fact rfl)) | exact E_gft (E_ld (E_fact rfl)) | exact E_ldNA (E_fact rfl) | exact E_ptld (E_fact rfl) | exact E_gtf (E_ldNA (E_fact rfl))) ?_)); (first | (refine E_rck0 ?_) | skip)
    refine E_dlen (κ := List UInt8) ?_
    (repeat first | refine gS ?_ | refine gA fun _ => ?_ | refine gX fun _ _ => ?_ | refine gT ?_ | refine gF ?_ | refine gI ?_)
    rw [hkl]
    refine when ?_
    (repeat (refine E_rck1 (by first | exact E_ld (E_fact rfl) | exact E_ld' (by assumption) (E_fact rfl) | exact E_b2sR (E_fact rfl) | exact E_gdnF (by assumption) (E_ld (E_fact rfl)) | exact E_gdT (by assumption) (E_ld (E_fact rfl)) | exact E_gtf (E_ld (E_fact rfl)) | exact E_gft (E_ld (E_fact rfl)) | exact E_ldNA (E_fact rfl) | exact E_ptld (E_fact rfl) | exact E_gtf (E_ldNA (E_fact rfl))) ?_)); (first | (refine E_rck0 ?_) | skip)
    refine sm (G := cel true a 81 [.map (some r1), .map (some r2), I M.now] :: dct kL true r1 kf :: dct kL true r2 ks :: spool vC Lv :: spool rfC Lr :: spool hC Lh :: cel true b2 23 [ptr a] :: cel true b3 60 (faL f rv hv mv) :: H) ?_
    refine E_bkS r1 r2 hf hs rfl ?_
    refine notLive (l := f.held) ho.hd hfl ?_
    refine when ?_
    refine when ?_
    refine E_bsl [(0, 1), (1, 1), (2, 1), (3, 1), (4, 1)] u_errs elt_err (by simp) (by decide) (l0 := [I 0, I 0, I 0, I 0, I 0]) rfl fun bx => ?_
    refine E_slsC (enc := cI) [bif decide (M.now < f.time) then 2 else 0, bif (sof M.S f.name).isSome then 10 else 0, bif decide ((M.S.length : Int) = 16) then 6 else 0, bif f.held.any (fun h => !liveB M.V h.1 h.2) then 9 else 0, bif !risesB f.held then 4 else 0] 5 rfl rfl ?_
    refine first (l := [bif decide (M.now < f.time) then 2 else 0, bif (sof M.S f.name).isSome then 10 else 0, bif decide ((M.S.length : Int) = 16) then 6 else 0, bif f.held.any (fun h => !liveB M.V h.1 h.2) then 9 else 0, bif !risesB f.held then 4 else 0]) (by simp) ?_
    refine sm (fin _ ?_)
    by_cases g1 : M.now < f.time
    · simp [firstE, g1]
    rw [if_neg g1]
    cases g2 : (sof M.S f.name).isSome with
    | true => simp [firstE, g1]
    | false =>
      by_cases g3 : M.S.length = 16
      · simp [firstE, g1, g3]
      · have g3' : ¬ (M.S.length : Int) = 16 := by omega
        cases g4 : f.held.any (fun h => !liveB M.V h.1 h.2) with
        | true => simp [firstE, g1, g3, g3']
        | false =>
          cases g5 : risesB f.held <;> simp [firstE, g1, g3, g3']
  rw [if_neg h5] at fin
  by_cases h6 : f.k = 6
  · rw [if_pos h6] at fin
    (repeat first | refine gS ?_ | refine gA fun _ => ?_ | refine gX fun _ _ => ?_ | refine gT ?_ | refine gF ?_ | refine gI ?_)
    refine gY ?_
    refine when ?_
    refine E_bsl [(0, 1)] u_errs elt_err (by simp) (by decide) (l0 := [I 0]) rfl fun bx => ?_
    refine E_slsC (enc := cI) [bif !(sof M.S f.name).isSome then 9 else 0] 1 rfl rfl ?_
    refine first (l := [bif !(sof M.S f.name).isSome then 9 else 0]) (by simp) ?_
    refine sm (G := cel true a 81 [.map (some r1), .map (some r2), I M.now] :: dct kL true r1 kf :: dct kL true r2 ks :: spool vC Lv :: spool rfC Lr :: spool hC Lh :: H) ?_
    refine E_bkS r1 r2 hf hs rfl (fin _ ?_)
    cases (sof M.S f.name).isSome <;> simp [firstE]
  rw [if_neg h6] at fin
  (repeat first | refine gS ?_ | refine gA fun _ => ?_ | refine gX fun _ _ => ?_ | refine gT ?_ | refine gF ?_ | refine gI ?_)
  refine sm (G := cel true a 81 [.map (some r1), .map (some r2), I M.now] :: dct kL true r1 kf :: dct kL true r2 ks :: spool vC Lv :: spool rfC Lr :: spool hC Lh :: H) ?_
  exact E_bkS r1 r2 hf hs rfl (fin 0 rfl)
theorem check_nil {v : Value} {l : List Value} [CellsI v l] (h : E B H (K (I 1))) : E B H (CF Tryz.prog 35 [.pointer none, v] K) := by
  refine E_mono (W := s35 _ _ K) ?_ fun _ => c35
  unfold s35
  (repeat first | refine gS ?_ | refine gA fun _ => ?_ | refine gX fun _ _ => ?_ | refine gT ?_ | refine gF ?_ | refine gI ?_)
  refine E_peq0 u_pBook ?_
  (repeat first | refine gS ?_ | refine gA fun _ => ?_ | refine gX fun _ _ => ?_ | refine gT ?_ | refine gF ?_ | refine gI ?_)
  exact sm h
end Go.Proofs.YtjafpncngmbcdaaGreat.Nam
