/-
  Part 6: CdA, CdB, CdC, CdD, CdF.
-/
import Derived.Test.YtblgkgobakhigaaPkCodeBackc
import Derived.Test.YtblgkgobakhigaaPkCodeBackd
import Derived.Test.YtblgkgobakhigaaPkCodeBacke
set_option linter.unusedSimpArgs false
set_option linter.unusedVariables false
set_option linter.unusedSectionVars false
section
namespace Go.Proofs.Ytblgkgobakhigaa.Cod
open Go Go.SL Go.SL.Stb Go.Proofs Go.Proofs.Ytblgkgobakhigaa.Sh Go.Proofs.Ytblgkgobakhigaa.HeapM
variable {B : World} {H : List Asrt} {K : Value → WT} {W : WT}
abbrev I (n : Int) : Value := .int .i64 n
abbrev ptr (a : Nat) : Value := .pointer (some ⟨a, 0, none⟩)
abbrev nil : Value := .slice none 0 0
abbrev Cv := { v : Value // isCell v = true }
theorem u_int : Try.prog.underlying 3 = some (.int .i64) := by kernel_rfl
theorem u_ints : Try.prog.underlying 40 = some (.slice 3) := by kernel_rfl
theorem u_intss : Try.prog.underlying 83 = some (.slice 40) := by kernel_rfl
theorem u_row : Try.prog.underlying 39 = some (.slice 42) := by kernel_rfl
theorem u_arr : Try.prog.underlying 22 = some (.array 256 3) := by kernel_rfl
theorem elt_int : Elt Try.prog 3 1 8 [I 0] := elt_of (zv := I 0) (by kernel_rfl) rfl rfl
theorem elt_ints : Elt Try.prog 40 1 24 [nil] := elt_of (zv := nil) (by kernel_rfl) rfl rfl
theorem elt_tree : Elt Try.prog 42 2 32 [I 0, nil] := elt_of (zv := .agg #[I 0, nil]) (by kernel_rfl) rfl rfl
theorem str_tree : Str Try.prog 42 [(0, 1), (1, 1)] [I 0, nil] := str_of (zv := .agg #[I 0, nil]) (by kernel_rfl) (by kernel_rfl) rfl
abbrev TV := Tr × Cv
instance : Inhabited TV := ⟨⟨default, ⟨nil, rfl⟩⟩⟩
def tvC (p : TV) : List Value := [I p.1.n, p.2.1]
def kyT (p : TV) : Ky := p.1.key
instance : Enc tvC 2 := ⟨fun _ => rfl, fun p y hy => by
  simp [tvC] at hy
  rcases hy with rfl | rfl
  all_goals first | rfl | exact p.2.2⟩
instance {v : TV} : AtLen (tvC v) 2 := ⟨rfl⟩
instance {v : TV} : AllC (tvC v) := ⟨fun y hy => Enc.cell (enc := tvC) v y hy⟩
instance {v : TV} : AtI (tvC v) 0 (I v.1.n) := ⟨rfl⟩
instance {v : TV} : AtI (tvC v) 1 v.2.1 := ⟨rfl⟩
abbrev rowI (p : Nat) : Value := .iface 44 (ptr p)
def row (p : Nat) (l : List TV) (L : List (Value × List Int)) : Asrt := ex fun (sv : Value) => all [cel true p 39 [sv], sls tvC 42 2 sv l, spool cI L, pur (isCell sv = true ∧ ∀ t ∈ l, (t.2.1, t.1.b) ∈ L ∧ t.1.b ≠ [])]
theorem E_row {p : Nat} {l : List TV} {L : List (Value × List Int)} (h : ∀ sv [CellI sv], (∀ t ∈ l, (t.2.1, t.1.b) ∈ L ∧ t.1.b ≠ []) → E B (cel true p 39 [sv] :: sls tvC 42 2 sv l :: spool cI L :: H) W) : E B (row p l L :: H) W := by
  refine E_ex fun sv => E_all ?_
  refine E_find (a := pur (isCell sv = true ∧ ∀ t ∈ l, (t.2.1, t.1.b) ∈ L ∧ t.1.b ≠ [])) (by repeat (first | exact Find.here | apply Find.there)) (E_pur fun hc => ?_)
  have : CellI sv := ⟨hc.1⟩
  exact h sv hc.2
theorem E_rows {p : Nat} {l : List TV} {L : List (Value × List Int)} {sv : Value} [hc : CellI sv] (hp : ∀ t ∈ l, (t.2.1, t.1.b) ∈ L ∧ t.1.b ≠ []) (h : E B (row p l L :: H) W) : E B (cel true p 39 [sv] :: sls tvC 42 2 sv l :: spool cI L :: H) W := by
  refine E_pur' (show isCell sv = true ∧ ∀ t ∈ l, (t.2.1, t.1.b) ∈ L ∧ t.1.b ≠ [] from ⟨hc.pf, hp⟩) ?_
  have h' := E_all' (E_ex' (f := fun (sv : Value) => all [cel true p 39 [sv], sls tvC 42 2 sv l, spool cI L, pur (isCell sv = true ∧ ∀ t ∈ l, (t.2.1, t.1.b) ∈ L ∧ t.1.b ≠ [])]) sv h)
  exact E_same (by repeat (first | exact Same.refl | (refine Same.cons (by repeat (first | exact Find.here | apply Find.there)) ?_) | (refine Same.drop ?_))) h'
theorem E_ixA {len sz b o n : Nat} {k : IntKind} (hn : n < len) (h : E B H (K (.pointer (some ⟨b, o + n * sz, none⟩)))) : E B H (S.ixA len sz (.pointer (some ⟨b, o, none⟩)) (.int k (n : Int)) K) := fun w hw => by
  refine ⟨by omega, by omega, ?_⟩
  have := h w hw
  rw [Int.toNat_natCast, add_at]; exact this
theorem E_aix {P : Program} {t e len n : Nat} {k : IntKind} {l : List Value} {u : Value} (hu : P.underlying t = some (.array len e)) (hc : cellT P e = true) (hs : (P.info? e).map (fun i => i.size) = some 1) (hl : l.length = len) (hx : l[n]? = some u) (h : E B H (K u)) : E B H (V P (Instr.index t (.agg l.toArray) (.int k (n : Int))) K) := by
  refine E_Vok fun w hw => ⟨u, w, ?_, h w hw⟩
  obtain ⟨i, hi, hsz⟩ := Option.map_eq_some_iff.1 hs
  have hlt := (List.getElem?_eq_some_iff.1 hx).1
  unfold Instr.index asIntOf
  rw [run_bind]; simp only [run_pure]
  rw [run_bind, run_underlying' hu]
  have h1 : (0 : Int) ≤ (n : Int) ∧ (n : Int) < (len : Int) := by omega
  simp only [if_pos h1, run_bind, run_size' hi, hsz, Int.toNat_natCast, Nat.mul_one]
  exact run_part hc (by rw [List.getElem?_toArray]; exact hx)
theorem cell_int : cellT Try.prog 3 = true := by kernel_rfl
theorem size_int : (Try.prog.info? 3).map (fun i => i.size) = some 1 := by kernel_rfl
theorem ints_get {l : List Int} {n : Nat} {x : Int} (h : l[n]? = some x) : (ints l)[n]? = some (I x) := by
  unfold ints
  rw [List.getElem?_map, h]; rfl
attribute [local irreducible] S.pick S.ld S.ldN S.st S.box S.nc S.fad S.ixS S.ixA S.chr S.prt S.ext S.bin S.sh S.sbin S.beq S.neg1 S.com1 S.not1 S.cvt S.str1 S.lenS S.len S.cap S.lenM S.mx S.mn S.mkM S.cond S.gd S.fa S.dr S.rck S.join S.loop S.cvv S.eqv S.slc S.slcS S.b2s S.lk V U CF Gives E cel mpb osl ros dct dit itr
set_option maxRecDepth 8000
attribute [local irreducible] row
theorem inv_Len : MethV Try.prog 44 "Len" 19 := methV (by kernel_rfl) (by kernel_rfl : Try.prog.underlying 44 = some (.pointer 39)) u_row rfl (by kernel_rfl)
theorem inv_Less : MethV Try.prog 44 "Less" 92 := methV (by kernel_rfl) (by kernel_rfl : Try.prog.underlying 44 = some (.pointer 39)) u_row rfl (by kernel_rfl)
theorem inv_Swap : MethV Try.prog 44 "Swap" 93 := methV (by kernel_rfl) (by kernel_rfl : Try.prog.underlying 44 = some (.pointer 39)) u_row rfl (by kernel_rfl)
theorem inv_Pop (p : Nat) (w : World) : (invoke (.fn (.method "Pop") #[]) #[rowI p]).run Try.prog w = .ok (.enter 96 #[ptr p]) w := by kernel_rfl
theorem inv_Push (p : Nat) (v : Value) (w : World) : (invoke (.fn (.method "Push") #[]) #[rowI p, v]).run Try.prog w = .ok (.enter 97 #[ptr p, v]) w := by kernel_rfl
def cmpI (a b : Int) : Int := if a < b then -1 else if b < a then 1 else 0
theorem isNaN {x : Int} (h : E B H (K (.bool false))) : E B H (CF Try.prog 69 [I x] K) := by
  refine E_mono (W := s69 _ K) ?_ fun _ => c69
  unfold s69
  refine E_neq ?_
  rw [decide_eq_false (by simp)]; exact h
theorem compare {x y : Int} (h : E B H (K (I (cmpI x y)))) : E B H (CF Try.prog 95 [I x, I y] K) := by
  refine E_mono (W := s95 _ _ K) ?_ fun _ => c95
  unfold s95
  refine isNaN (isNaN ?_)
  unfold cmpI at h
  (repeat first | refine gS ?_ | refine gA fun _ => ?_ | refine gX fun _ _ => ?_ | refine gT ?_ | refine gF ?_ | refine gI ?_)
  refine E_if (fun hc => ?_) (fun hc => ?_)
  · rw [if_pos hc] at h; exact h
  · rw [if_neg hc] at h
    (repeat first | refine gS ?_ | refine gA fun _ => ?_ | refine gX fun _ _ => ?_ | refine gT ?_ | refine gF ?_ | refine gI ?_)
    refine E_if (fun hc => ?_) (fun hc => ?_)
    · rw [if_pos hc] at h; exact h
    · rw [if_neg hc] at h; exact h
theorem cmpOr2 {v : Value} {x y : Int} [Rs B H v cI [x, y]] (h : E B H (K (I (if x ≠ 0 then x else y)))) : E B H (CF Try.prog 94 [v] K) := by
  refine E_mono (W := s94 _ K) ?_ fun _ => c94
  unfold s94
  refine E_rslen (v := v) (l := [x, y]) ?_
  refine E_loop (n := 4) (σ := Nat) (fun j => j ≤ 2 ∧ (1 ≤ j → x = 0) ∧ (2 ≤ j → y = 0)) (fun j => [I 0, v, I 2, I j]) (fun _ => H) (fun j => 2 - j) 0 (fun _ => rfl) rfl ⟨by omega, by omega, by omega⟩ (fun W hW => hW) ?_
  intro j K0 ⟨hj, h1, h2⟩ hk
  refine E_fa fun _ => ?_
  refine E_lss ?_
  match j, hj, h1, h2, hk with
  | 0, hj, h1, h2, hk =>
    refine E_ifT (by omega) ?_
    refine E_rsix (v := v) (l := [x, y]) (i := 0) (x := x) rfl fun _ _ => ?_
    refine E_ptld ?_
    refine E_neq ?_
    refine E_if (fun hc => ?_) (fun hc => ?_)
    · rw [if_pos hc] at h; exact h
    · refine E_addI (by omega) (by omega) ?_
      exact hk 1 ⟨by omega, fun _ => by omega, by omega⟩ (by omega)
  | 1, hj, h1, h2, hk =>
    refine E_ifT (by omega) ?_
    have hx := h1 (Nat.le_refl _)
    rw [if_neg (by omega)] at h
    refine E_rsix (v := v) (l := [x, y]) (i := 1) (x := y) rfl fun _ _ => ?_
    refine E_ptld ?_
    refine E_neq ?_
    refine E_if (fun hc => ?_) (fun hc => ?_)
    · exact h
    · refine E_addI (by omega) (by omega) ?_
      exact hk 2 ⟨by omega, fun _ => hx, fun _ => by omega⟩ (by omega)
  | 2, hj, h1, h2, hk =>
    refine E_ifF (by omega) ?_
    rw [if_neg (by have := h1 (by omega); omega), h2 (Nat.le_refl _)] at h
    exact h
  | j + 3, hj, _, _, _ => omega
theorem len_ {sv : Value} {l : List TV} [Rs B H sv tvC l] (h : E B H (K (I l.length))) : E B H (CF Try.prog 19 [sv] K) := by
  refine E_mono (W := s19 _ K) ?_ fun _ => c19
  unfold s19
  (repeat first | refine gS ?_ | refine gA fun _ => ?_ | refine gX fun _ _ => ?_ | refine gT ?_ | refine gF ?_ | refine gI ?_)
  exact h
variable {p : Nat} {L : List (Value × List Int)}
theorem mLen {l : List TV} (h : E B (row p l L :: H) (K (I l.length))) : E B (row p l L :: H) (Gives Try.prog (invoke (.fn (.method "Len") #[]) #[rowI p]) K) := by
  refine E_row fun sv _ hp => ?_
  refine E_invV (args := []) inv_Len ?_
  refine len_ ?_
  exact E_rows hp h
theorem first_at {t : Tr} (h : t.b ≠ []) : t.b[0]? = some t.first := by
  unfold Tr.first
  cases hb : t.b with
  | nil => exact (h hb).elim
  | cons a l => rfl
theorem key_lt (x y : Tr) : decide ((if cmpI x.n y.n ≠ 0 then cmpI x.n y.n else cmpI x.first y.first) < 0) = decide (x.key.lt y.key) := by
  rw [decide_eq_decide]
  unfold cmpI Ky.lt Tr.key
  simp only
  (repeat' split) <;> omega
theorem mLess {l : List TV} {i j : Nat} {x y : TV} (hx : l[i]? = some x) (hy : l[j]? = some y) (h : E B (row p l L :: H) (K (.bool (decide (x.1.key.lt y.1.key))))) :
    E B (row p l L :: H) (Gives Try.prog (invoke (.fn (.method "Less") #[]) #[rowI p, I i, I j]) K) := by
  refine E_row fun sv _ hp => ?_
  obtain ⟨mx, nx⟩ := hp x (List.mem_of_getElem? hx)
  obtain ⟨my, ny⟩ := hp y (List.mem_of_getElem? hy)
  have rx := rs_pool (B := B) (enc := cI) mx
  have ry := rs_pool (B := B) (enc := cI) my
  have fx := first_at nx
  have fy := first_at ny
  refine E_invV (args := [I i, I j]) inv_Less ?_
  refine E_mono (W := s92 _ _ _ K) ?_ fun _ => c92
  unfold s92
  (repeat first | refine gS ?_ | refine gA fun _ => ?_ | refine gX fun _ _ => ?_ | refine gT ?_ | refine gF ?_ | refine gI ?_)
  refine compare ?_
  (repeat (refine E_rck1 (by first | exact E_ld (E_fact rfl) | exact E_ld' (by assumption) (E_fact rfl) | exact E_b2sR (E_fact rfl) | exact E_gdnF (by assumption) (E_ld (E_fact rfl)) | exact E_gdT (by assumption) (E_ld (E_fact rfl)) | exact E_gtf (E_ld (E_fact rfl)) | exact E_gft (E_ld (E_fact rfl)) | exact E_ldNA (E_fact rfl) | exact E_ptld (E_fact rfl) | exact E_gtf (E_ldNA (E_fact rfl))) ?_)); (first | (refine E_rck0 ?_) | skip)
  refine compare ?_
  refine E_bsl (l0 := [I 0, I 0]) [(0, 1), (1, 1)] u_ints elt_int (by simp) (by decide) rfl fun b => ?_
  refine fd (a := cel true b 3 [I (cmpI x.1.n y.1.n), I (cmpI x.1.first y.1.first)]) ?_
  have hr : Rs B (cel true b 3 [I (cmpI x.1.n y.1.n), I (cmpI x.1.first y.1.first)] :: cel true p 39 [sv] :: sls tvC 42 2 sv l :: spool cI L :: H) (.slice (some ⟨b, 0, none⟩) 2 2) cI [cmpI x.1.n y.1.n, cmpI x.1.first y.1.first] := rs_cel (by simp) rfl
  refine cmpOr2 (x := cmpI x.1.n y.1.n) (y := cmpI x.1.first y.1.first) ?_
  (repeat first | refine gS ?_ | refine gA fun _ => ?_ | refine gX fun _ _ => ?_ | refine gT ?_ | refine gF ?_ | refine gI ?_)
  rw [key_lt]
  exact E_drop (E_rows hp h)
theorem mSwap {l : List TV} {i j : Nat} (hi : i < l.length) (hj : j < l.length) (h : E B (row p (sw l i j) L :: H) (K (.tuple #[]))) :
    E B (row p l L :: H) (Gives Try.prog (invoke (.fn (.method "Swap") #[]) #[rowI p, I i, I j]) K) := by
  refine E_row fun sv _ hp => ?_
  refine E_invV (args := [I i, I j]) inv_Swap ?_
  refine E_mono (W := s93 _ _ _ K) ?_ fun _ => c93
  unfold s93
  have hx : l[i]? = some (at_ l i) := by rw [at_eq hi]; exact List.getElem?_eq_getElem hi
  have hy : l[j]? = some (at_ l j) := by rw [at_eq hj]; exact List.getElem?_eq_getElem hj
  refine E_dr ?_
  refine E_rsix (v := sv) (l := l) hy fun _ _ => ?_
  refine E_ptldA ?_
  refine E_rsix (v := sv) (l := l) hx fun _ _ => ?_
  refine E_ptldA ?_
  refine fd (a := sls tvC 42 2 sv l) ?_
  refine E_sset (at_ l j) hi rfl ?_
  refine E_sset (at_ l i) (by simpa using hj) rfl ?_
  show E B (sls tvC 42 2 sv (sw l i j) :: cel true p 39 [sv] :: spool cI L :: H) _
  refine sm (G := cel true p 39 [sv] :: sls tvC 42 2 sv (sw l i j) :: spool cI L :: H) ?_
  exact E_rows (fun t ht => hp t ((sw_perm hi hj).mem_iff.1 ht)) h
theorem mPop {l : List TV} {x : TV} (hn : l.length ≤ 9223372036854775807) (h : (x.2.1, x.1.b) ∈ L → x.1.b ≠ [] → E B (row p l L :: H) (K (.iface 42 (.agg (tvC x).toArray)))) :
    E B (row p (l ++ [x]) L :: H) (Gives Try.prog (invoke (.fn (.method "Pop") #[]) #[rowI p]) K) := by
  refine E_row fun sv _ hp => ?_
  refine E_invP (args' := [ptr p]) (inv_Pop p) ?_
  refine E_mono (W := s96 _ K) ?_ fun _ => c96
  unfold s96
  have hx : (l ++ [x])[l.length]? = some x := by simp
  have e : ((l ++ [x]).length : Int) - 1 = (l.length : Int) := by simp
  (repeat first | refine gS ?_ | refine gA fun _ => ?_ | refine gX fun _ _ => ?_ | refine gT ?_ | refine gF ?_ | refine gI ?_)
  rw [e]
  (repeat first | refine gS ?_ | refine gA fun _ => ?_ | refine gX fun _ _ => ?_ | refine gT ?_ | refine gF ?_ | refine gI ?_)
  refine E_stW (vs := tvC x) rfl rfl ?_
  (repeat first | refine gS ?_ | refine gA fun _ => ?_ | refine gX fun _ _ => ?_ | refine gT ?_ | refine gF ?_ | refine gI ?_)
  refine fd (a := sls tvC 42 2 sv (l ++ [x])) ?_
  refine E_stake (by simp) fun sv' _ => ?_
  rw [List.take_left]
  (repeat first | refine gS ?_ | refine gA fun _ => ?_ | refine gX fun _ _ => ?_ | refine gT ?_ | refine gF ?_ | refine gI ?_)
  obtain ⟨h1, h2⟩ := hp x (by simp)
  refine sm (G := cel true p 39 [sv'] :: sls tvC 42 2 sv' l :: spool cI L :: H) ?_
  exact E_rows (fun t ht => hp t (by simp [ht])) (h h1 h2)
theorem mPush {l : List TV} {x : TV} (hn : l.length ≤ 1000) (hx : (x.2.1, x.1.b) ∈ L ∧ x.1.b ≠ []) (h : E B (row p (l ++ [x]) L :: H) (K (.tuple #[]))) :
    E B (row p l L :: H) (Gives Try.prog (invoke (.fn (.method "Push") #[]) #[rowI p, .iface 42 (.agg (tvC x).toArray)]) K) := by
  refine E_row fun sv _ hp => ?_
  refine E_invP (args' := [ptr p, .iface 42 (.agg (tvC x).toArray)]) (inv_Push p _) ?_
  refine E_mono (W := s97 _ _ K) ?_ fun _ => c97
  unfold s97
  refine E_tas (d := .struct (Try.prog.fieldsOf 42)) (by kernel_rfl) rfl ?_
  (repeat first | refine gS ?_ | refine gA fun _ => ?_ | refine gX fun _ _ => ?_ | refine gT ?_ | refine gF ?_ | refine gI ?_)
  refine E_stW (vs := tvC x) rfl rfl ?_
  (repeat first | refine gS ?_ | refine gA fun _ => ?_ | refine gX fun _ _ => ?_ | refine gT ?_ | refine gF ?_ | refine gI ?_)
  refine fd (a := sls tvC 42 2 sv l) ?_
  refine E_sapp1R (enc := tvC) x u_row elt_tree rfl (by decide) (by omega) (by omega) (fun b W hW => by (repeat (refine E_rck1 (by first | exact E_ld (E_fact rfl) | exact E_ld' (by assumption) (E_fact rfl) | exact E_b2sR (E_fact rfl) | exact E_gdnF (by assumption) (E_ld (E_fact rfl)) | exact E_gdT (by assumption) (E_ld (E_fact rfl)) | exact E_gtf (E_ld (E_fact rfl)) | exact E_gft (E_ld (E_fact rfl)) | exact E_ldNA (E_fact rfl) | exact E_ptld (E_fact rfl) | exact E_gtf (E_ldNA (E_fact rfl))) ?_)); (first | (refine E_rck0 ?_) | skip); exact hW) fun sv' _ => ?_
  (repeat first | refine gS ?_ | refine gA fun _ => ?_ | refine gX fun _ _ => ?_ | refine gT ?_ | refine gF ?_ | refine gI ?_)
  refine sm (G := cel true p 39 [sv'] :: sls tvC 42 2 sv' (l ++ [x]) :: spool cI L :: H) ?_
  refine E_rows (fun t ht => ?_) h
  rcases List.mem_append.1 ht with ht | ht
  · exact hp t ht
  · simp only [List.mem_singleton] at ht
    subst ht; exact hx
end Go.Proofs.Ytblgkgobakhigaa.Cod
end
section
namespace Go.Proofs.Ytblgkgobakhigaa.HeapM
section
variable {α : Type} [Inhabited α] {key : α → Ky}
structure Rise (key : α → Ky) (l0 l : List α) (n j : Nat) : Prop where
  perm : l.Perm l0
  p : ∀ m, 1 ≤ m → m < n → m ≠ j → (key (at_ l ((m - 1) / 2))).le (key (at_ l m))
  q : 1 ≤ j → ∀ c, 1 ≤ c → c < n → (c - 1) / 2 = j → (key (at_ l ((j - 1) / 2))).le (key (at_ l c))
theorem Rise.stop {l0 l : List α} {n j : Nat} (h : Rise key l0 l n j) (hs : j = 0 ∨ ¬ (key (at_ l j)).lt (key (at_ l ((j - 1) / 2)))) : Hp key l n 0 := fun m h1 h2 _ => by
  by_cases hm : m = j
  · subst hm
    rcases hs with hs | hs
    · omega
    · exact Ky.not_lt.1 hs
  · exact h.p m h1 h2 hm
theorem Rise.step {l0 l : List α} {n j : Nat} (h : Rise key l0 l n j) (h1 : 1 ≤ j) (hj : j < n) (hn : n ≤ l.length) (hl : (key (at_ l j)).lt (key (at_ l ((j - 1) / 2)))) : Rise key l0 (sw l ((j - 1) / 2) j) n ((j - 1) / 2) := by
  have hil : (j - 1) / 2 < l.length := by omega
  have hjl : j < l.length := by omega
  have e := fun k => sw_at hil hjl k
  refine ⟨(sw_perm hil hjl).trans h.perm, fun m m1 m2 m3 => ?_, fun i1 c c1 c2 c3 => ?_⟩
  · rw [e, e]
    by_cases hm : m = j
    · subst hm
      rw [if_neg (by omega), if_pos rfl, if_pos rfl]
      exact Ky.le_of_lt hl
    · by_cases hp : (m - 1) / 2 = j
      · rw [if_pos hp, if_neg hm, if_neg (by omega)]
        exact h.q h1 m m1 m2 hp
      · by_cases hp2 : (m - 1) / 2 = (j - 1) / 2
        · rw [if_neg hp, if_pos hp2, if_neg hm, if_neg m3]
          have := h.p m m1 m2 hm
          rw [hp2] at this
          exact Ky.le_trans (Ky.le_of_lt hl) this
        · rw [if_neg hp, if_neg hp2, if_neg hm, if_neg m3]
          exact h.p m m1 m2 hm
  · rw [e, e]
    have hpp : ((j - 1) / 2 - 1) / 2 ≠ j := by omega
    have hpp2 : ((j - 1) / 2 - 1) / 2 ≠ (j - 1) / 2 := by omega
    have hq := h.p ((j - 1) / 2) i1 (by omega) (by omega)
    rw [if_neg hpp, if_neg hpp2]
    by_cases hc : c = j
    · rw [if_pos hc]; exact hq
    · rw [if_neg hc, if_neg (by omega)]
      have := h.p c c1 c2 hc
      rw [c3] at this
      exact Ky.le_trans hq this
theorem at_app {l : List α} {x : α} {k : Nat} (h : k < l.length) : at_ (l ++ [x]) k = at_ l k := by
  simp only [at_, List.getD_eq_getElem?_getD, List.getElem?_append_left h]
theorem Rise.start {l : List α} {x : α} (h : Hp key l l.length 0) : Rise key (l ++ [x]) (l ++ [x]) (l.length + 1) l.length :=
  ⟨.refl _, fun m m1 m2 m3 => by
    rw [at_app (by omega), at_app (by omega)]
    exact h m m1 (by omega) (Nat.zero_le _), fun h1 c c1 c2 c3 => by omega⟩
end
end Go.Proofs.Ytblgkgobakhigaa.HeapM
namespace Go.Proofs.Ytblgkgobakhigaa.Cod
open Go Go.SL Go.SL.Stb Go.Proofs Go.Proofs.Ytblgkgobakhigaa.Sh Go.Proofs.Ytblgkgobakhigaa.HeapM
variable {B : World} {H : List Asrt} {K : Value → WT} {W : WT} {p : Nat} {L : List (Value × List Int)}
attribute [local irreducible] S.pick S.ld S.ldN S.st S.box S.nc S.fad S.ixS S.ixA S.chr S.prt S.ext S.bin S.sh S.sbin S.beq S.neg1 S.com1 S.not1 S.cvt S.str1 S.lenS S.len S.cap S.lenM S.mx S.mn S.mkM S.cond S.gd S.fa S.dr S.rck S.join S.loop S.cvv S.eqv S.slc S.slcS S.b2s S.lk V U CF Gives E cel mpb osl ros dct dit itr
set_option maxRecDepth 8000
attribute [local irreducible] row sls
theorem at_some {l : List TV} {i : Nat} (h : i < l.length) : l[i]? = some (at_ l i) := by rw [at_eq h]; exact List.getElem?_eq_getElem h
theorem down {i0 n : Nat} {l0 : List TV} (hn : n ≤ l0.length) (hm : l0.length ≤ 4611686018427387000) (hp : Hp kyT l0 n (i0 + 1)) (hi0 : i0 ≤ n)
    (h : ∀ (l : List TV) (q : Bool), l.Perm l0 → (∀ k, n ≤ k → at_ l k = at_ l0 k) → Hp kyT l n i0 → E B (row p l L :: H) (K (.bool q))) :
    E B (row p l0 L :: H) (CF Try.prog 38 [rowI p, I i0, I n] K) := by
  refine E_mono (W := s38 _ _ _ K) ?_ fun _ => c38
  unfold s38
  refine E_joinC (σ := List TV × Nat) (fun s => s.1.Perm l0 ∧ (∀ k, n ≤ k → at_ s.1 k = at_ l0 k) ∧ Hp kyT s.1 n i0) (fun s => [I i0, I s.2]) (fun s => row p s.1 L :: H) (fun kk hkk => ?_) (fun s hs => ?_)
  · refine E_loop (σ := List TV × Nat) (fun s => Sift kyT l0 s.1 n i0 s.2 ∧ s.2 ≤ n) (fun s => [rowI p, I i0, I n, I s.2]) (fun s => row p s.1 L :: H) (fun s => n - s.2) (l0, i0) (fun _ => rfl) rfl ⟨Sift.start hp, hi0⟩ (fun W hW => hW) ?_
    rintro ⟨l, i⟩ K0 ⟨hs, hi⟩ hk
    simp only at hs hi hk ⊢
    have hl := hs.perm.length_eq
    refine E_fa fun _ => ?_
    (repeat first | refine gS ?_ | refine gA fun _ => ?_ | refine gX fun _ _ => ?_ | refine gT ?_ | refine gF ?_ | refine gI ?_)
    have e1 : 2 * (i : Int) + 1 = ((2 * i + 1 : Nat) : Int) := by omega
    rw [e1]
    refine E_join0 ?_
    by_cases hc : ((2 * i + 1 : Nat) : Int) ≥ (n : Int)
    · (repeat first | refine gS ?_ | refine gA fun _ => ?_ | refine gX fun _ _ => ?_ | refine gT ?_ | refine gF ?_ | refine gI ?_)
      exact hkk (l, i) ⟨hs.perm, hs.far, hs.leaf (by omega)⟩
    have hneg : ¬ ((2 * i + 1 : Nat) : Int) < 0 := by omega
    (repeat first | refine gS ?_ | refine gA fun _ => ?_ | refine gX fun _ _ => ?_ | refine gT ?_ | refine gF ?_ | refine gI ?_)
    refine E_joinC (σ := Nat) (fun j => Child kyT l n i j) (fun j => [rowI p, I i0, I n, I i, I j]) (fun j => row p l L :: H) (fun k3 hk3 => ?_) (fun j hj => ?_)
    · (repeat first | refine gS ?_ | refine gA fun _ => ?_ | refine gX fun _ _ => ?_ | refine gT ?_ | refine gF ?_ | refine gI ?_)
      have e2 : ((2 * i + 1 : Nat) : Int) + 1 = ((2 * i + 2 : Nat) : Int) := by omega
      rw [e2]
      refine E_join0 ?_
      by_cases h2 : ((2 * i + 2 : Nat) : Int) < (n : Int)
      · (repeat first | refine gS ?_ | refine gA fun _ => ?_ | refine gX fun _ _ => ?_ | refine gT ?_ | refine gF ?_ | refine gI ?_)
        refine mLess (at_some (by omega)) (at_some (by omega)) ?_
        (repeat first | refine gS ?_ | refine gA fun _ => ?_ | refine gX fun _ _ => ?_ | refine gT ?_ | refine gF ?_ | refine gI ?_)
        refine E_if (fun hlt => ?_) (fun hlt => ?_)
        · exact hk3 _ ⟨by omega, .inr rfl, fun c hc hcc => by
            rcases hcc with rfl | rfl
            · exact Ky.le_of_lt hlt
            · exact Ky.le_refl _⟩
        · exact hk3 _ ⟨by omega, .inl rfl, fun c hc hcc => by
            rcases hcc with rfl | rfl
            · exact Ky.le_refl _
            · exact Ky.not_lt.1 hlt⟩
      · (repeat first | refine gS ?_ | refine gA fun _ => ?_ | refine gX fun _ _ => ?_ | refine gT ?_ | refine gF ?_ | refine gI ?_)
        exact hk3 _ ⟨by omega, .inl rfl, fun c hc hcc => by
          rcases hcc with rfl | rfl
          · exact Ky.le_refl _
          · omega⟩
    · refine E_fa fun _ => ?_
      have hjn := hj.1
      have hji := hj.2.1
      refine mLess (at_some (by omega)) (at_some (by omega)) ?_
      (repeat first | refine gS ?_ | refine gA fun _ => ?_ | refine gX fun _ _ => ?_ | refine gT ?_ | refine gF ?_ | refine gI ?_)
      refine E_if (fun hlt => ?_) (fun hlt => ?_)
      · exact hkk (l, i) ⟨hs.perm, hs.far, hs.stop hj hlt⟩
      · refine mSwap (by omega) (by omega) ?_
        exact hk (sw l i j, j) ⟨hs.step hj (by omega) (Classical.byContradiction fun hn => hlt hn), by simp only; omega⟩ (by simp only; omega)
  · refine E_fa fun _ => ?_
    (repeat first | refine gS ?_ | refine gA fun _ => ?_ | refine gX fun _ _ => ?_ | refine gT ?_ | refine gF ?_ | refine gI ?_)
    exact h s.1 _ hs.1 hs.2.1 hs.2.2
theorem init {l0 : List TV} (hm : l0.length ≤ 4611686018427387000) (h : ∀ l : List TV, l.Perm l0 → Hp kyT l l.length 0 → E B (row p l L :: H) (K (.tuple #[]))) :
    E B (row p l0 L :: H) (CF Try.prog 18 [rowI p] K) := by
  refine E_mono (W := s18 _ K) ?_ fun _ => c18
  unfold s18
  refine mLen ?_
  refine E_quoI (by omega) (by decide) (by omega) ?_
  have e0 : (l0.length : Int) / 2 = ((l0.length / 2 : Nat) : Int) := by omega
  rw [e0]
  (repeat first | refine gS ?_ | refine gA fun _ => ?_ | refine gX fun _ _ => ?_ | refine gT ?_ | refine gF ?_ | refine gI ?_)
  refine E_loop (σ := List TV × Nat) (fun s => s.1.Perm l0 ∧ Hp kyT s.1 l0.length s.2 ∧ s.2 ≤ l0.length / 2) (fun s => [rowI p, I l0.length, I ((s.2 : Int) - 1)]) (fun s => row p s.1 L :: H) (fun s => s.2) (l0, l0.length / 2) (fun _ => rfl) rfl
    ⟨.refl _, fun j h1 h2 h3 => by omega, Nat.le_refl _⟩ (fun W hW => hW) ?_
  rintro ⟨l, i⟩ K0 ⟨hp, hh, hi⟩ hk
  simp only at hp hh hi hk ⊢
  refine E_fa fun _ => ?_
  (repeat first | refine gS ?_ | refine gA fun _ => ?_ | refine gX fun _ _ => ?_ | refine gT ?_ | refine gF ?_ | refine gI ?_)
  refine E_if (fun hc => ?_) (fun hc => ?_)
  · obtain ⟨i', rfl⟩ : ∃ i', i = i' + 1 := ⟨i - 1, by omega⟩
    have e1 : ((i' + 1 : Nat) : Int) - 1 = (i' : Int) := by omega
    rw [e1]
    have hl := hp.length_eq
    refine down (by omega) (by omega) hh (by omega) fun l' q h1 h2 h3 => ?_
    (repeat first | refine gS ?_ | refine gA fun _ => ?_ | refine gX fun _ _ => ?_ | refine gT ?_ | refine gF ?_ | refine gI ?_)
    exact hk (l', i') ⟨h1.trans hp, h3, by simp only; omega⟩ (by simp only; omega)
  · have : i = 0 := by omega
    subst this
    refine h l hp ?_
    rw [hp.length_eq]; exact hh
theorem pop {l0 : List TV} (hm : l0.length ≤ 4611686018427387000) (h0 : 0 < l0.length) (hh : Hp kyT l0 l0.length 0)
    (h : ∀ (l : List TV) (x : TV), (x :: l).Perm l0 → Hp kyT l l.length 0 → (∀ y ∈ l, x.1.key.le y.1.key) → (x.2.1, x.1.b) ∈ L → x.1.b ≠ [] → E B (row p l L :: H) (K (.iface 42 (.agg (tvC x).toArray)))) :
    E B (row p l0 L :: H) (CF Try.prog 39 [rowI p] K) := by
  refine E_mono (W := s39 _ K) ?_ fun _ => c39
  unfold s39
  refine mLen ?_
  (repeat first | refine gS ?_ | refine gA fun _ => ?_ | refine gX fun _ _ => ?_ | refine gT ?_ | refine gF ?_ | refine gI ?_)
  have e1 : (l0.length : Int) - 1 = ((l0.length - 1 : Nat) : Int) := by omega
  rw [e1]
  refine mSwap (i := 0) h0 (by omega) ?_
  have hsp := sw_perm (l := l0) (i := 0) (j := l0.length - 1) h0 (by omega)
  have hsl := sw_length l0 0 (l0.length - 1)
  have hat := fun k => sw_at (l := l0) (i := 0) (j := l0.length - 1) h0 (by omega) k
  refine down (i0 := 0) (n := l0.length - 1) (by omega) (by omega) (fun j h1 h2 h3 => ?_) (by omega) fun l q p1 p2 p3 => ?_
  · rw [hat, hat, if_neg (by omega), if_neg (by omega), if_neg (by omega), if_neg (by omega)]
    exact hh j h1 (by omega) (by omega)
  · have hl : l.length = l0.length := p1.length_eq.trans hsl
    have hlast := p2 (l0.length - 1) (Nat.le_refl _)
    rw [hat, if_pos rfl] at hlast
    have hd : l = l.take (l0.length - 1) ++ [at_ l0 0] := by
      have := List.take_append_drop (l0.length - 1) l
      rw [List.drop_eq_getElem_cons (by omega : l0.length - 1 < l.length), List.drop_of_length_le (by omega), ← at_eq, hlast] at this
      exact this.symm
    have hperm : (at_ l0 0 :: l.take (l0.length - 1)).Perm l0 := by
      refine List.Perm.trans ?_ (p1.trans hsp)
      conv => rhs; rw [hd]
      exact List.perm_append_comm (l₁ := [at_ l0 0])
    have htl : (l.take (l0.length - 1)).length = l0.length - 1 := by simp; omega
    have htat : ∀ k, k < l0.length - 1 → at_ (l.take (l0.length - 1)) k = at_ l k := fun k hk => by
      simp only [at_, List.getD_eq_getElem?_getD, List.getElem?_take_of_lt hk]
    have hres := h (l.take (l0.length - 1)) (at_ l0 0) hperm (fun j h1 h2 h3 => by
      rw [htl] at h2
      rw [htat _ (by omega), htat _ h2]; exact p3 j h1 h2 h3) (fun y hy => by
        have hy' : y ∈ l0 := hperm.mem_iff.1 (List.mem_cons_of_mem _ hy)
        obtain ⟨k, hk, rfl⟩ := List.mem_iff_getElem.1 hy'
        have := hh.least k hk
        rw [at_eq hk] at this; exact this)
    rw [hd]
    refine mPop (by rw [htl]; omega) fun h1 h2 => ?_
    exact hres h1 h2
theorem up {l0 : List TV} {n j : Nat} (hn : n = l0.length) (hm : l0.length ≤ 1000) (hj : j < n) (hr : Rise kyT l0 l0 n j) (h : ∀ l, l.Perm l0 → Hp kyT l n 0 → E B (row p l L :: H) (K (.tuple #[]))) :
    E B (row p l0 L :: H) (CF Try.prog 43 [rowI p, I j] K) := by
  refine E_mono (W := s43 _ _ K) ?_ fun _ => c43
  unfold s43
  refine E_loop (σ := List TV × Nat) (fun s => Rise kyT l0 s.1 n s.2 ∧ s.2 < n) (fun s => [rowI p, I s.2]) (fun s => row p s.1 L :: H) (fun s => s.2) (l0, j) (fun _ => rfl) rfl ⟨hr, hj⟩ (fun W hW => hW) ?_
  rintro ⟨l, j⟩ K0 ⟨hs, hj⟩ hk
  simp only at hs hj hk ⊢
  have hl := hs.perm.length_eq
  refine E_fa fun _ => ?_
  refine E_subI (by omega) (by omega) ?_
  by_cases h0 : j = 0
  · subst h0
    refine E_quo (by decide) ?_
    rw [show IntKind.i64.wrap ((((0 : Nat) : Int) - 1).tdiv 2) = 0 by decide]
    refine E_join0 ?_
    refine E_eql ?_
    rw [decide_eq_true (by omega)]
    (repeat first | refine gS ?_ | refine gA fun _ => ?_ | refine gX fun _ _ => ?_ | refine gT ?_ | refine gF ?_ | refine gI ?_)
    exact h l hs.perm (hs.stop (.inl rfl))
  refine E_quoI (by omega) (by omega) (by omega) ?_
  rw [show (((j : Int) - 1) / 2) = (((j - 1) / 2 : Nat) : Int) by omega]
  refine E_join0 ?_
  refine E_eql ?_
  rw [decide_eq_false (by omega)]
  (repeat first | refine gS ?_ | refine gA fun _ => ?_ | refine gX fun _ _ => ?_ | refine gT ?_ | refine gF ?_ | refine gI ?_)
  refine mLess (at_some (by omega)) (at_some (by omega)) ?_
  (repeat first | refine gS ?_ | refine gA fun _ => ?_ | refine gX fun _ _ => ?_ | refine gT ?_ | refine gF ?_ | refine gI ?_)
  refine E_if (fun hlt => ?_) (fun hlt => ?_)
  · exact h l hs.perm (hs.stop (.inr hlt))
  · refine mSwap (by omega) (by omega) ?_
    exact hk (sw l ((j - 1) / 2) j, (j - 1) / 2) ⟨hs.step (by omega) hj (by omega) (Classical.byContradiction fun hn => hlt hn), by simp only; omega⟩ (by simp only; omega)
theorem push {l : List TV} {x : TV} (hm : l.length ≤ 900) (hx : (x.2.1, x.1.b) ∈ L ∧ x.1.b ≠ []) (hh : Hp kyT l l.length 0) (h : ∀ l', l'.Perm (l ++ [x]) → Hp kyT l' l'.length 0 → E B (row p l' L :: H) (K (.tuple #[]))) :
    E B (row p l L :: H) (CF Try.prog 23 [rowI p, .iface 42 (.agg (tvC x).toArray)] K) := by
  refine E_mono (W := s23 _ _ K) ?_ fun _ => c23
  unfold s23
  refine mPush (by omega) hx ?_
  refine mLen ?_
  have hle : (l ++ [x]).length = l.length + 1 := by simp
  refine E_subI (by omega) (by omega) ?_
  rw [show ((l ++ [x]).length : Int) - 1 = (l.length : Int) by simp]
  refine up (n := l.length + 1) (by simp) (by simp; omega) (by omega) (Rise.start hh) fun l' h1 h2 => ?_
  (repeat first | refine gS ?_ | refine gA fun _ => ?_ | refine gX fun _ _ => ?_ | refine gT ?_ | refine gF ?_ | refine gI ?_)
  refine h l' h1 ?_
  rw [h1.length_eq]
  simpa using h2
end Go.Proofs.Ytblgkgobakhigaa.Cod
end
section
namespace Go.Proofs.Ytblgkgobakhigaa.Cod
open Go Go.SL Go.SL.Stb Go.Proofs Go.Proofs.Ytblgkgobakhigaa.Sh Go.Proofs.Ytblgkgobakhigaa.HeapM
variable {B : World} {H : List Asrt} {K : Value → WT} {W : WT} {p : Nat} {L : List (Value × List Int)}
theorem E_vk {P : Program} {s : Sem Value} {v : Value} (hs : ∀ w, s.run P w = .ok v w) (h : E B H (K v)) : E B H (V P s K) := E_Vok fun w hw => ⟨v, w, hs w, h w hw⟩
abbrev cV (s : Cv) : List Value := [s.1]
instance : Enc cV 1 := ⟨fun _ => rfl, fun x y hy => by simp at hy; subst hy; exact x.2⟩
theorem rep_ints (n : Nat) : rep n [I 0] = (List.replicate n (0 : Int)).flatMap cI := by
  unfold rep
  induction n with
  | zero => rfl
  | succ n ih => rw [List.replicate_succ, List.flatten_cons, ih, List.replicate_succ, List.flatMap_cons]
theorem sortOk : SortOk Try.prog 22 := ⟨fun blk off cap zs w h1 h2 h3 => Try.slices_Sort_int blk off cap zs w h1 h2 h3, fun p cap w => Try.slices_Sort_int_none p cap w⟩
attribute [local irreducible] S.pick S.ld S.ldN S.st S.box S.nc S.fad S.ixS S.ixA S.chr S.prt S.ext S.bin S.sh S.sbin S.beq S.neg1 S.com1 S.not1 S.cvt S.str1 S.lenS S.len S.cap S.lenM S.mx S.mn S.mkM S.cond S.gd S.fa S.dr S.rck S.join S.loop S.cvv S.eqv S.slc S.slcS S.b2s S.lk V U CF Gives E cel mpb osl ros dct dit itr
set_option maxRecDepth 8000
attribute [local irreducible] row
theorem cI_ints (l : List Int) : l.flatMap cI = ints l := by
  induction l with
  | nil => rfl
  | cons x l ih => rw [List.flatMap_cons, ih]; rfl
theorem E_sortC {v : Value} {zs : List Int} (hn : zs.length < 4611686018427387904) (h : E B (sls cI 3 1 v (sortI zs) :: H) (K (.tuple #[]))) : E B (sls cI 3 1 v zs :: H) (CF Try.prog 22 [v] K) := by
  unfold sls at h ⊢
  rw [cI_ints] at h ⊢
  have hl : (sortI zs).length = zs.length := List.length_mergeSort ..
  rw [hl] at h
  exact E_sortI sortOk hn h
theorem least {l0 : List TV} (hm : l0.length ≤ 1000) (h0 : 0 < l0.length) (hh : Hp kyT l0 l0.length 0)
    (h : ∀ (l : List TV) (x : TV), (x :: l).Perm l0 → Hp kyT l l.length 0 → (∀ y ∈ l, x.1.key.le y.1.key) → (x.2.1, x.1.b) ∈ L → x.1.b ≠ [] → E B (row p l L :: H) (K (.agg (tvC x).toArray))) :
    E B (row p l0 L :: H) (CF Try.prog 20 [ptr p] K) := by
  refine E_mono (W := s20 _ K) ?_ fun _ => c20
  unfold s20
  (repeat first | refine gS ?_ | refine gA fun _ => ?_ | refine gX fun _ _ => ?_ | refine gT ?_ | refine gF ?_ | refine gI ?_)
  refine fd (a := row p l0 L) ?_
  refine pop (by omega) h0 hh fun l x h1 h2 h3 h4 h5 => ?_
  refine E_tas (d := .struct (Try.prog.fieldsOf 42)) (by kernel_rfl) rfl ?_
  (repeat first | refine gS ?_ | refine gA fun _ => ?_ | refine gX fun _ _ => ?_ | refine gT ?_ | refine gF ?_ | refine gI ?_)
  refine E_stW (vs := tvC x) rfl rfl ?_
  (repeat first | refine gS ?_ | refine gA fun _ => ?_ | refine gX fun _ _ => ?_ | refine gT ?_ | refine gF ?_ | refine gI ?_)
  refine E_stW (vs := tvC x) rfl rfl ?_
  (repeat first | refine gS ?_ | refine gA fun _ => ?_ | refine gX fun _ _ => ?_ | refine gT ?_ | refine gF ?_ | refine gI ?_)
  exact sm (h l x h1 h2 h3 h4 h5)
theorem grow {n : Nat} (hn : 1 ≤ n ∧ n ≤ 100000) (h : ∀ v [CellI v], E B (sls cI 3 1 v [] :: H) (K v)) : E B H (CF Try.prog 40 [nil, I n] K) := by
  refine E_mono (W := s40 _ _ K) ?_ fun _ => c40
  unfold s40
  refine E_join1 [nil, I n] H (fun q hq => ?_) ?_
  · refine E_lss ?_
    rw [decide_eq_false (by omega)]
    refine E_ff ?_
    exact hq
  refine E_fa fun _ => ?_
  refine E_joinC (σ := Cv) (fun _ => True) (fun v => [v.1]) (fun v => sls cI 3 1 v.1 [] :: H) (fun q hq => ?_) (fun v _ => ?_)
  · (repeat first | refine gS ?_ | refine gA fun _ => ?_ | refine gX fun _ _ => ?_ | refine gT ?_ | refine gF ?_ | refine gI ?_)
    rw [decide_eq_true (by simp; omega)]
    (repeat first | refine gS ?_ | refine gA fun _ => ?_ | refine gX fun _ _ => ?_ | refine gT ?_ | refine gF ?_ | refine gI ?_)
    refine sls_nil cI 1 (T := 3) ?_
    refine fd (a := sls cI 3 1 nil []) ?_
    refine E_stake (k := 0) (Nat.zero_le _) fun v0 _ => ?_
    have e : ((n : Int) - (((0 : Nat) : Int) - ((0 : Nat) : Int))) = (n : Int) := by omega
    rw [e]
    show E B (osl 3 1 v0 0 [] :: H) _
    refine E_appz (k := (n : Int)) u_ints u_int elt_int (by simp [isCell]) (by omega) (by rw [Int.toNat_natCast]; omega) (by rw [Int.toNat_natCast]; omega) (by omega) (by omega) fun v' _ => ?_
    rw [Int.toNat_natCast, rep_ints, List.nil_append]
    have hl : (0 + n) = (List.replicate n (0 : Int)).length := by simp
    rw [hl]
    show E B (sls cI 3 1 v' (List.replicate n (0 : Int)) :: H) _
    (repeat first | refine gS ?_ | refine gA fun _ => ?_ | refine gX fun _ _ => ?_ | refine gT ?_ | refine gF ?_ | refine gI ?_)
    refine E_stake (k := 0) (Nat.zero_le _) fun v2 hv2 => ?_
    exact hq ⟨v2, hv2.pf⟩ trivial
  · refine E_fa fun _ => ?_
    have : CellI v.1 := ⟨v.2⟩
    exact h v.1
theorem concat2 {v : Value} {sx sy : Cv} {bx by_ : List Int} [hv : ∀ Q, Rs B (Q ++ H) v cV [sx, sy]] (hx : ∀ Q, Rs B (Q ++ H) sx.1 cI bx) (hy : ∀ Q, Rs B (Q ++ H) sy.1 cI by_) (hb : 1 ≤ bx.length ∧ bx.length ≤ 10000 ∧ by_.length ≤ 10000)
    (h : ∀ v' [CellI v'], E B (sls cI 3 1 v' (bx ++ by_) :: H) (K v')) : E B H (CF Try.prog 21 [v] K) := by
  have hv0 : Rs B H v cV [sx, sy] := hv []
  have hx0 : Rs B H sx.1 cI bx := hx []
  have hy0 : Rs B H sy.1 cI by_ := hy []
  refine E_mono (W := s21 _ K) ?_ fun _ => c21
  unfold s21
  refine E_rslen (v := v) (l := [sx, sy]) ?_
  refine E_loop (n := 5) (σ := Nat) (fun i => i ≤ 2) (fun i => [v, I (match i with | 0 => 0 | 1 => (bx.length : Int) | _ => ((bx.length + by_.length : Nat) : Int)), v, I 2, I i]) (fun _ => H) (fun i => 2 - i) 0 (fun _ => rfl) rfl (by omega) (fun W hW => hW) ?_
  intro i K0 hi hk
  refine E_fa fun _ => ?_
  refine E_lss ?_
  match i, hi, hk with
  | 0, hi, hk =>
    refine E_ifT (by omega) ?_
    refine E_join1 [v, I bx.length, v, I 2, I 0] H (fun q hq => ?_) ?_
    · refine E_rsix (v := v) (l := [sx, sy]) (i := 0) (x := sx) rfl fun _ _ => ?_
      refine E_ptld ?_
      refine E_rslen (v := sx.1) (l := bx) ?_
      show E B H (S.bin .add (I 0) _ _)
      refine E_addI (by omega) (by omega) ?_
      rw [Int.zero_add]
      refine E_lss ?_
      refine E_ifF (by omega) ?_
      exact hq
    refine E_fa fun _ => ?_
    refine E_addI (by omega) (by omega) ?_
    exact hk 1 (by omega) (by omega)
  | 1, hi, hk =>
    refine E_ifT (by omega) ?_
    refine E_join1 [v, I ((bx.length + by_.length : Nat) : Int), v, I 2, I 1] H (fun q hq => ?_) ?_
    · refine E_rsix (v := v) (l := [sx, sy]) (i := 1) (x := sy) rfl fun _ _ => ?_
      refine E_ptld ?_
      refine E_rslen (v := sy.1) (l := by_) ?_
      show E B H (S.bin .add (I (bx.length : Int)) _ _)
      refine E_addI (by omega) (by omega) ?_
      rw [← Int.natCast_add]
      refine E_lss ?_
      refine E_ifF (by omega) ?_
      exact hq
    refine E_fa fun _ => ?_
    refine E_addI (by omega) (by omega) ?_
    exact hk 2 (by omega) (by omega)
  | 2, hi, hk =>
    refine E_ifF (by omega) ?_
    show E B H (CF Try.prog 40 [nil, I ((bx.length + by_.length : Nat) : Int)] _)
    refine grow (by omega) fun v0 iv0 => ?_
    clear hk
    have hv1 := hv [sls cI 3 1 v0 []]
    refine E_rslen (v := v) (l := [sx, sy]) ?_
    refine E_loop (n := 4) (σ := Nat × Cv) (fun s => s.1 ≤ 2) (fun s => [s.2.1, v, I 2, I s.1]) (fun s => sls cI 3 1 s.2.1 (match s.1 with | 0 => [] | 1 => bx | _ => bx ++ by_) :: H) (fun s => 2 - s.1) (0, ⟨v0, iv0.pf⟩) (fun _ => rfl) rfl (by simp) (fun W hW => hW) ?_
    rintro ⟨j, nv⟩ K2 hj hk2
    refine E_fa fun _ => ?_
    refine E_lss ?_
    match j, hj, hk2 with
    | 0, hj, hk2 =>
      refine E_ifT (by omega) ?_
      refine E_rsix (v := v) (l := [sx, sy]) (i := 0) (x := sx) rfl fun _ _ => ?_
      refine E_ptld ?_
      show E B (sls cI 3 1 nv.1 [] :: H) _
      refine E_sapps (enc := cI) (m := bx) u_ints elt_int (by simp; omega) (by simp; omega) fun v' hv' => ?_
      refine E_addI (by omega) (by omega) ?_
      exact hk2 (1, ⟨v', hv'.pf⟩) (by simp) (by simp)
    | 1, hj, hk2 =>
      refine E_ifT (by omega) ?_
      refine E_rsix (v := v) (l := [sx, sy]) (i := 1) (x := sy) rfl fun _ _ => ?_
      refine E_ptld ?_
      show E B (sls cI 3 1 nv.1 bx :: H) _
      refine E_sapps (enc := cI) (m := by_) u_ints elt_int (by omega) (by omega) fun v' hv' => ?_
      refine E_addI (by omega) (by omega) ?_
      exact hk2 (2, ⟨v', hv'.pf⟩) (by simp) (by simp)
    | 2, hj, hk2 =>
      refine E_ifF (by omega) ?_
      have : CellI nv.1 := ⟨nv.2⟩
      exact h nv.1
    | j + 3, hj, _ => exact absurd hj (by simp)
  | i + 3, hi, _ => omega
end Go.Proofs.Ytblgkgobakhigaa.Cod
end
section
namespace Go.Proofs.Ytblgkgobakhigaa.Cod
open Go Go.SL Go.SL.Stb Go.Proofs Go.Proofs.Ytblgkgobakhigaa.Sh Go.Proofs.Ytblgkgobakhigaa.HeapM
variable {B : World} {H : List Asrt} {K : Value → WT} {W : WT} {p : Nat} {L : List (Value × List Int)}
theorem rs_app {B : World} {H : List Asrt} {α : Type} {enc : α → List Value} {v : Value} {l : List α} : ∀ (G : List Asrt), Rs B H v enc l → Rs B (G ++ H) v enc l
  | [], h => h
  | a :: G, h => by
    have := rs_app G h
    exact rs_there
theorem fm_congr {α β : Type} {f g : α → Option β} {l : List α} (h : ∀ a ∈ l, f a = g a) : l.filterMap f = l.filterMap g := by
  induction l with
  | nil => rfl
  | cons a l ih => rw [List.filterMap_cons, List.filterMap_cons, h a (by simp), ih fun b hb => h b (List.mem_cons_of_mem _ hb)]
theorem leafs_snoc (m : List Int) (x : Int) : leafs (m ++ [x]) = leafs m ++ (if 0 < x then [⟨x, [(m.length : Int)]⟩] else []) := by
  unfold leafs
  rw [List.length_append, List.length_singleton, List.range_succ, List.filterMap_append]
  congr 1
  · refine fm_congr fun i hi => ?_
    have := List.mem_range.1 hi
    rw [List.getD_eq_getElem?_getD, List.getD_eq_getElem?_getD, List.getElem?_append_left this]
  · have e : (m ++ [x]).getD m.length 0 = x := by
      rw [List.getD_eq_getElem?_getD, List.getElem?_append_right (Nat.le_refl _)]; simp
    rw [List.filterMap_cons, e]
    split
    · rename_i h
      split at h
      · cases h
      · rename_i hn; rw [if_neg hn]; rfl
    · rename_i h
      split at h
      · rename_i hp
        cases h
        rw [if_pos hp]; rfl
      · cases h
theorem leafs_len (m : List Int) : (leafs m).length ≤ m.length := by
  unfold leafs
  refine Nat.le_trans (List.length_filterMap_le _ _) ?_
  rw [List.length_range]; exact Nat.le_refl _
structure Jw (l : List Tr) (out : List Int) : Prop where
  ln : out.length = 256
  dis : Dis l
  rng : ∀ t ∈ l, ∀ i ∈ t.b, 0 ≤ i ∧ i < 256
  pos : ∀ t ∈ l, 0 ≤ t.n
  tot : sumI (l.map (·.n)) ≤ 2097152
  bl : (l.flatMap (·.b)).length ≤ 256
theorem Jw.step {l : List Tr} {out : List Int} (h : Jw l out) (hl : 1 < l.length) : Jw (stepT (l, out)).1 (stepT (l, out)).2 := by
  have hp := step_perm hl
  have hx : bestT l ∈ l := hp.mem_iff.1 (by simp)
  have hy : bestT (restT l) ∈ l := hp.mem_iff.1 (by simp)
  have hr : ∀ t ∈ restT (restT l), t ∈ l := fun t ht => hp.mem_iff.1 (by simp [ht])
  have hmem : ∀ t ∈ (stepT (l, out)).1, t = joinT (bestT l) (bestT (restT l)) ∨ t ∈ restT (restT l) := fun t ht => by
    simp only [stepT, List.mem_append, List.mem_singleton] at ht
    exact ht.symm
  refine ⟨by simp only [stepT]; rw [bump_len]; exact h.ln, Dis.step (s := (l, out)) h.dis hl, fun t ht i hi => ?_, fun t ht => ?_, ?_, ?_⟩
  · rcases hmem t ht with rfl | ht
    · rcases joinT_mem.1 hi with hi | hi
      · exact h.rng _ hx i hi
      · exact h.rng _ hy i hi
    · exact h.rng t (hr t ht) i hi
  · rcases hmem t ht with rfl | ht
    · have := h.pos _ hx; have := h.pos _ hy
      show 0 ≤ (bestT l).n + (bestT (restT l)).n
      omega
    · exact h.pos t (hr t ht)
  · have h1 := h.tot
    rw [← sumI_perm (hp.map _)] at h1
    simp only [stepT, List.map_append, sumI_app, List.map_cons, List.map_nil, sumI, joinT] at h1 ⊢
    omega
  · have h1 := h.bl
    rw [← (List.Perm.flatMap_right (fun t : Tr => t.b) hp).length_eq] at h1
    simp only [stepT, List.flatMap_append, List.flatMap_cons, List.flatMap_nil, List.append_nil, List.length_append] at h1 ⊢
    have := (sortI_perm ((bestT l).b ++ (bestT (restT l)).b)).length_eq
    rw [List.length_append] at this
    simp only [joinT]
    omega
theorem leafs_Jw {cs out : List Int} (hl : cs.length = 256) (hb : ¬ badC cs) (ho : out.length = 256) : Jw (leafs cs) out := by
  have hj := leafs_J hl hb
  refine ⟨ho, hj.dis, hj.rng, fun t ht => by have := hj.pos t ht; omega, hj.tot, ?_⟩
  rw [leafs_b, List.length_map]
  refine Nat.le_trans (List.length_filter_le _ _) ?_
  rw [List.length_range]; omega
theorem zeros_rep : ints zeros = List.replicate 256 (I 0) := by
  unfold ints zeros
  rw [List.map_replicate]
instance cells_zero : CellsI (.agg (List.replicate 256 (.int .i64 0)).toArray) (ints zeros) := ⟨by rw [zeros_rep]; rfl⟩
theorem build_zero (w : World) : (Instr.build 22 #[]).run Try.prog w = .ok (.agg (ints zeros).toArray) w := by
  rw [zeros_rep]
  kernel_rfl
def out0 (cs : List Int) : List Int := if (leafs cs).length = 1 then bump zeros ((leafs cs).flatMap (·.b)) else zeros
theorem lens_eq {cs : List Int} (hb : ¬ badC cs) : lens cs = (huff (leafs cs).length (leafs cs, out0 cs)).2 := by
  unfold lens out0
  rw [if_neg hb]
  split
  · rw [huff_stop (by simp only; omega)]
  · rfl
theorem out0_at {cs : List Int} {i : Nat} {v : Int} (h : (out0 cs)[i]? = some v) : 0 ≤ v ∧ v ≤ 1 := by
  have hz : ∀ {u : Int}, zeros[i]? = some u → u = 0 := fun {u} hu => by
    unfold zeros at hu
    rw [List.getElem?_replicate] at hu
    split at hu
    · cases hu; rfl
    · cases hu
  unfold out0 at h
  split at h
  · unfold bump at h
    rw [List.getElem?_mapIdx] at h
    cases hz' : zeros[i]? with
    | none => rw [hz'] at h; cases h
    | some u =>
      rw [hz'] at h
      have := hz hz'
      subst this
      simp only [Option.map_some, Option.some.injEq] at h
      split at h <;> omega
  · have := hz h
    omega
theorem ints_set {l : List Int} {n : Nat} {x : Int} : (ints l).set n (I x) = ints (l.set n x) := by
  unfold ints
  rw [List.map_set]
theorem map_perm_of {l : List TV} {x : TV} {l1 : List TV} (h : (x :: l1).Perm l) : (x.1 :: l1.map (·.1)).Perm (l.map (·.1)) := by
  have := h.map (fun t : TV => t.1)
  simpa using this
attribute [local irreducible] S.pick S.ld S.ldN S.st S.box S.nc S.fad S.ixS S.ixA S.chr S.prt S.ext S.bin S.sh S.sbin S.beq S.neg1 S.com1 S.not1 S.cvt S.str1 S.lenS S.len S.cap S.lenM S.mx S.mn S.mkM S.cond S.gd S.fa S.dr S.rck S.join S.loop S.cvv S.eqv S.slc S.slcS S.b2s S.lk V U CF Gives E cel mpb osl ros dct dit itr
set_option maxRecDepth 8000
attribute [local irreducible] row
theorem lengths {cs : List Int} (hl : cs.length = 256) (h : E B H (K (.tuple #[.agg (ints (lens cs)).toArray, I (lensE cs)]))) : E B H (CF Try.prog 8 [.agg (ints cs).toArray] K) := by
  have hil : (ints cs).length = 256 := by simp [ints, hl]
  have hilz : (ints zeros).length = 256 := by simp [ints, zeros_len]
  have al1 : AtLen (ints cs) 256 := ⟨hil⟩
  have al2 : AtLen (ints zeros) 256 := ⟨hilz⟩
  have allc : ∀ l : List Int, AllC (ints l) := fun l => ⟨fun y hy => by
    unfold ints at hy
    obtain ⟨x, _, rfl⟩ := List.mem_map.1 hy
    rfl⟩
  refine E_mono (W := s8 _ K) ?_ fun _ => c8
  unfold s8
  refine E_box (vs := ints cs) fun v1 => ?_
  refine E_box (vs := ints zeros) fun v2 => ?_
  refine E_box (vs := ints zeros) fun v4 => ?_
  refine E_box (vs := [nil]) fun v5 => ?_
  refine E_ldNA (l := ints cs) ?_
  refine E_loop (n := 5) (σ := Nat × List TV × List (Value × List Int)) (fun s => s.1 ≤ 256 ∧ s.2.1.map (·.1) = leafs (cs.take s.1) ∧ ∀ c ∈ cs.take s.1, ¬ (c < 0 ∨ 8192 < c)) (fun s => [ptr v2, ptr v4, ptr v5, .agg (ints cs).toArray, I s.1])
    (fun s => row v5 s.2.1 s.2.2 :: cel true v4 22 (ints zeros) :: cel true v2 22 (ints zeros) :: H) (fun s => 256 - s.1) (0, [], []) (fun _ => rfl) rfl ⟨Nat.zero_le _, rfl, by simp⟩ (fun W hW => by
      refine sls_nil tvC 2 (T := 42) ?_
      refine pool_new (slQ cI) ?_
      refine sm (G := cel true v5 39 [nil] :: sls tvC 42 2 nil [] :: spool cI [] :: cel true v4 22 (ints zeros) :: cel true v2 22 (ints zeros) :: H) ?_
      exact E_rows (fun t ht => by cases ht) hW) ?_
  rintro ⟨i, T, L⟩ K0 ⟨hi, hT, hok⟩ hk
  simp only at hi hT hok hk ⊢
  have hTl : T.length ≤ i := by
    have h1 := congrArg List.length hT
    have h2 := leafs_len (cs.take i)
    rw [List.length_map] at h1
    rw [List.length_take] at h2
    omega
  refine E_fa fun _ => ?_
  refine E_lss ?_
  refine E_if (fun hc => ?_) (fun hc => ?_)
  · have hx : cs[i]? = some cs[i] := List.getElem?_eq_getElem (by omega)
    have hxm : cs[i] ∈ cs := List.getElem_mem _
    generalize cs[i] = x at hx hxm
    have htk : cs.take (i + 1) = cs.take i ++ [x] := by rw [List.take_add_one, hx]; rfl
    have htl : (cs.take i).length = i := by rw [List.length_take]; omega
    have hls : leafs (cs.take (i + 1)) = leafs (cs.take i) ++ (if 0 < x then [⟨x, [(i : Int)]⟩] else []) := by rw [htk, leafs_snoc, htl]
    refine E_joinC (σ := List TV × List (Value × List Int)) (fun s => s.1.map (·.1) = leafs (cs.take (i + 1)) ∧ ¬ (x < 0 ∨ 8192 < x)) (fun s => [ptr v2, ptr v4, ptr v5, .agg (ints cs).toArray, I i]) (fun s => row v5 s.1 s.2 :: cel true v4 22 (ints zeros) :: cel true v2 22 (ints zeros) :: H) (fun q hq => ?_) (fun s hs => ?_)
    · refine E_aix u_arr cell_int size_int hil (ints_get hx) ?_
      refine E_join1 [ptr v2, ptr v4, ptr v5, I i, I x, .agg (ints cs).toArray, I i, .bool (decide (x < 0 ∨ 8192 < x))] (row v5 T L :: cel true v4 22 (ints zeros) :: cel true v2 22 (ints zeros) :: H) (fun k hk2 => ?_) ?_
      · have fin : ∀ c : Bool, decide (x < 0 ∨ 8192 < x) = c → E B (row v5 T L :: cel true v4 22 (ints zeros) :: cel true v2 22 (ints zeros) :: H) (app 8 k [ptr v2, ptr v4, ptr v5, I i, I x, .agg (ints cs).toArray, I i, .bool c]) := fun c hc => hc ▸ hk2
        refine E_lss ?_
        by_cases h1 : x < 0
        · (repeat first | refine gS ?_ | refine gA fun _ => ?_ | refine gX fun _ _ => ?_ | refine gT ?_ | refine gF ?_ | refine gI ?_)
          exact fin true (decide_eq_true (.inl h1))
        · (repeat first | refine gS ?_ | refine gA fun _ => ?_ | refine gX fun _ _ => ?_ | refine gT ?_ | refine gF ?_ | refine gI ?_)
          exact fin _ (by rw [decide_eq_decide]; exact ⟨fun h => h.resolve_left h1, .inr⟩)
      refine E_fa fun _ => ?_
      refine E_if (fun hbad => ?_) (fun hbad => ?_)
      · refine E_vk build_zero ?_
        refine E_stW (vs := ints zeros) (hc := allc _) hilz hilz ?_
        refine E_ldNA (l := ints zeros) ?_
        have hb : badC cs := ⟨x, hxm, hbad⟩
        unfold lens lensE at h
        rw [if_pos hb, if_pos hb] at h
        exact sm h
      · refine E_gtr ?_
        refine E_if (fun hp => ?_) (fun hp => ?_)
        · rw [if_pos hp] at hls
          refine E_row fun sv _ hpl => ?_
          refine E_ld ?_
          refine E_bsl (l0 := [I 0]) [(0, 1)] u_ints elt_int (by simp) (by decide) rfl fun b => ?_
          refine E_slsC (enc := cI) [(i : Int)] 1 rfl rfl ?_
          refine E_build (l := [I x, .slice (some ⟨b, 0, none⟩) 1 1]) str_tree ?_
          refine fd (a := sls tvC 42 2 sv T) ?_
          refine E_sapp1 (enc := tvC) ((⟨x, [(i : Int)]⟩, ⟨.slice (some ⟨b, 0, none⟩) 1 1, rfl⟩) : TV) u_row elt_tree rfl (by decide) (by omega) (by omega) fun sv' _ => ?_
          (repeat first | refine gS ?_ | refine gA fun _ => ?_ | refine gX fun _ _ => ?_ | refine gT ?_ | refine gF ?_ | refine gI ?_)
          refine fd (a := spool cI L) ?_
          refine fd (a := sls cI 3 1 (.slice (some ⟨b, 0, none⟩) 1 1) [(i : Int)]) ?_
          refine E_give ?_
          refine sm (G := cel true v5 39 [sv'] :: sls tvC 42 2 sv' (T ++ [((⟨x, [(i : Int)]⟩, ⟨.slice (some ⟨b, 0, none⟩) 1 1, rfl⟩) : TV)]) :: spool cI ((.slice (some ⟨b, 0, none⟩) 1 1, [(i : Int)]) :: L) :: cel true v4 22 (ints zeros) :: cel true v2 22 (ints zeros) :: H) ?_
          refine E_rows (fun t ht => ?_) (hq (T ++ [((⟨x, [(i : Int)]⟩, ⟨.slice (some ⟨b, 0, none⟩) 1 1, rfl⟩) : TV)], (.slice (some ⟨b, 0, none⟩) 1 1, [(i : Int)]) :: L) ⟨?_, hbad⟩)
          · rcases List.mem_append.1 ht with ht | ht
            · exact ⟨List.mem_cons_of_mem _ (hpl t ht).1, (hpl t ht).2⟩
            · simp only [List.mem_singleton] at ht
              subst ht
              exact ⟨List.mem_cons_self, by simp⟩
          · simp only
            rw [List.map_append, hT, hls]; rfl
        · rw [if_neg hp, List.append_nil] at hls
          exact hq (T, L) ⟨by rw [hls]; exact hT, hbad⟩
    · obtain ⟨T', L'⟩ := s
      refine E_fa fun _ => ?_
      refine E_addI (by omega) (by omega) ?_
      refine hk (i + 1, T', L') ⟨by simp only; omega, hs.1, fun c hc => ?_⟩ (by simp only; omega)
      rw [htk] at hc
      rcases List.mem_append.1 hc with hc | hc
      · exact hok c hc
      · simp only [List.mem_singleton] at hc
        subst hc; exact hs.2
  have hie : i = 256 := by omega
  subst hie
  clear hk
  have htake : cs.take 256 = cs := by rw [← hl, List.take_length]
  rw [htake] at hT hok
  have hb : ¬ badC cs := fun ⟨c, hc, h⟩ => hok c hc h
  have hlE : lensE cs = 0 := by unfold lensE; rw [if_neg hb]
  rw [hlE, lens_eq hb] at h
  have hTlen : T.length = (leafs cs).length := by rw [← hT, List.length_map]
  have ho0 : (out0 cs).length = 256 := by
    unfold out0
    split
    · rw [bump_len]; exact zeros_len
    · exact zeros_len
  refine E_join1 [ptr v2, ptr v4, ptr v5] (row v5 T L :: cel true v4 22 (ints (out0 cs)) :: cel true v2 22 (ints zeros) :: H) (fun q hq => ?_) ?_
  · refine E_row fun sv _ hpl => ?_
    (repeat first | refine gS ?_ | refine gA fun _ => ?_ | refine gX fun _ _ => ?_ | refine gT ?_ | refine gF ?_ | refine gI ?_)
    refine E_if (fun h1 => ?_) (fun h1 => ?_)
    · obtain ⟨t, rfl⟩ : ∃ t, T = [t] := List.length_eq_one_iff.1 (by omega)
      obtain ⟨ht1, ht2⟩ := hpl t (by simp)
      have htm : t.1 ∈ leafs cs := by rw [← hT]; simp
      obtain ⟨j, hj, hp, hte⟩ := leafs_mem.1 htm
      have hbt : t.1.b = [(j : Int)] := by rw [hte]
      have rt := rs_pool (B := B) (enc := cI) ht1
      have hf0 : t.1.b[0]? = some (j : Int) := by rw [hbt]; rfl
      have ht0 : [t][0]? = some t := rfl
      (repeat first | refine gS ?_ | refine gA fun _ => ?_ | refine gX fun _ _ => ?_ | refine gT ?_ | refine gF ?_ | refine gI ?_)
      refine E_ixA (n := j) (by omega) ?_
      have hset : (ints zeros).set (0 + j * 1) (I 1) = ints (out0 cs) := by
        unfold out0
        rw [if_pos (by rw [← hTlen]; rfl)]
        have e : (leafs cs).flatMap (·.b) = [] ++ [(j : Int)] := by
          rw [← hT]; simp [hbt]
        rw [e, bump_snoc (x := j) (v := 0) (by simp) (by
          unfold zeros
          rw [List.getElem?_replicate, if_pos (by omega)]), bump_nil, Nat.zero_add, Nat.mul_one]
        unfold ints
        rw [List.map_set]; rfl
      refine fd (a := cel true v4 22 (ints zeros)) ?_
      refine E_st' (by rw [hilz]; omega) ?_
      rw [hset]
      refine sm (G := cel true v5 39 [sv] :: sls tvC 42 2 sv [t] :: spool cI L :: cel true v4 22 (ints (out0 cs)) :: cel true v2 22 (ints zeros) :: H) ?_
      exact E_rows hpl hq
    · have e : out0 cs = zeros := by
        unfold out0
        rw [if_neg (by omega)]
      rw [e] at hq
      exact E_rows hpl hq
  refine E_fa fun _ => ?_
  have hsmall : T.length ≤ 256 := by have := leafs_len cs; omega
  refine init (by omega) fun l1 hp1 hh1 => ?_
  refine E_row fun sv _ hpl => ?_
  refine fd (a := spool cI L) (pool_dup ?_)
  refine sm (G := cel true v5 39 [sv] :: sls tvC 42 2 sv l1 :: spool cI L :: spool cI L :: cel true v4 22 (ints (out0 cs)) :: cel true v2 22 (ints zeros) :: H) ?_
  refine E_rows hpl ?_
  generalize hR : (huff (leafs cs).length (leafs cs, out0 cs)).2 = R at h
  refine E_loop (n := 3) (σ := List TV × List (Value × List Int) × List Tr × List Int) (fun s => (s.1.map (·.1)).Perm s.2.2.1 ∧ Hp kyT s.1 s.1.length 0 ∧ Jw s.2.2.1 s.2.2.2 ∧ (huff s.2.2.1.length (s.2.2.1, s.2.2.2)).2 = R ∧ s.1.length ≤ 256 ∧ ∀ (i : Nat) (v : Int), (s.2.2.2 : List Int)[i]? = some v → 0 ≤ v ∧ v + s.1.length ≤ 300) (fun _ => [ptr v2, ptr v4, ptr v5])
    (fun s => row v5 s.1 s.2.1 :: spool cI s.2.1 :: cel true v4 22 (ints s.2.2.2) :: cel true v2 22 (ints zeros) :: H) (fun s => s.1.length) (l1, L, leafs cs, out0 cs) (fun _ => rfl) rfl ⟨by
      have := hp1.map (fun t : TV => t.1)
      rw [hT] at this
      exact this, hh1, leafs_Jw hl hb ho0, hR, by have := hp1.length_eq; simp only; omega, fun i v hv => by
      have h1 := out0_at hv
      have h2 := hp1.length_eq
      simp only; omega⟩ (fun W hW => sm hW) ?_
  rintro ⟨l, L1, pl, out⟩ K0 ⟨hperm, hhp, hj, hhuff, hl256, hvb⟩ hk
  simp only at hperm hhp hj hhuff hl256 hvb hk ⊢
  clear hp1 hh1 hpl hR hT hTlen hok
  have hpll : l.length = pl.length := by have := hperm.length_eq; rwa [List.length_map] at this
  have hout := hj.ln
  have hilo : (ints out).length = 256 := by simp [ints, hout]
  refine E_fa fun _ => ?_
  refine E_row fun sv _ hpl => ?_
  refine E_ld ?_
  refine len_ ?_
  refine E_rows hpl ?_
  refine E_gtr ?_
  refine E_if (fun hgt => ?_) (fun hgt => ?_)
  · have hgt' : 1 < pl.length := by omega
    refine least (by omega) (by omega) hhp fun l1 x hx1 hx2 hx3 hx4 hx5 => ?_
    have hl1 := hx1.length_eq
    simp only [List.length_cons] at hl1
    refine least (by omega) (by omega) hx2 fun l2 y hy1 hy2 hy3 hy4 hy5 => ?_
    have hl2 := hy1.length_eq
    simp only [List.length_cons] at hl2
    -- the trees are the plain ones
    have px : (x.1 :: l1.map (·.1)).Perm pl := (map_perm_of hx1).trans hperm
    have hne : pl ≠ [] := by intro e; rw [e] at hgt'; simp at hgt'
    have ex : x.1 = bestT pl := hj.dis.least (px.mem_iff.1 (by simp)) ((best_perm hne).mem_iff.1 (by simp)) (fun z hz => by
      rcases List.mem_cons.1 (px.mem_iff.2 hz) with rfl | hz
      · exact Ky.le_refl _
      · obtain ⟨u, hu, rfl⟩ := List.mem_map.1 hz
        exact hx3 u hu) fun z hz => best_le hz
    have pr : (l1.map (·.1)).Perm (restT pl) := by
      have := px.trans (best_perm hne).symm
      rw [ex] at this
      exact this.cons_inv
    have py : (y.1 :: l2.map (·.1)).Perm (restT pl) := (map_perm_of hy1).trans pr
    have hne2 : restT pl ≠ [] := by
      intro e
      have := py.length_eq
      rw [e] at this; simp at this
    have hdr : Dis (restT pl) := ⟨by
      have := (hj.dis.perm (best_perm hne).symm).nod
      rw [List.flatMap_cons] at this
      exact (List.nodup_append.1 this).2.1, fun t ht => hj.dis.ne t ((best_perm hne).mem_iff.1 (List.mem_cons_of_mem _ ht))⟩
    have ey : y.1 = bestT (restT pl) := hdr.least (py.mem_iff.1 (by simp)) ((best_perm hne2).mem_iff.1 (by simp)) (fun z hz => by
      rcases List.mem_cons.1 (py.mem_iff.2 hz) with rfl | hz
      · exact Ky.le_refl _
      · obtain ⟨u, hu, rfl⟩ := List.mem_map.1 hz
        exact hy3 u hu) fun z hz => best_le hz
    have pr2 : (l2.map (·.1)).Perm (restT (restT pl)) := by
      have := py.trans (best_perm hne2).symm
      rw [ey] at this
      exact this.cons_inv
    have hxpl : x.1 ∈ pl := px.mem_iff.1 (by simp)
    have hypl : y.1 ∈ pl := (best_perm hne).mem_iff.1 (List.mem_cons_of_mem _ (py.mem_iff.1 (by simp)))
    have hsp := step_perm hgt'
    rw [← ex, ← ey] at hsp
    have hnod := (hj.dis.perm hsp.symm).nod
    rw [List.flatMap_cons, List.flatMap_cons, ← List.append_assoc] at hnod
    have hnb : (x.1.b ++ y.1.b).Nodup := (List.nodup_append.1 hnod).1
    have hrb : ∀ i ∈ x.1.b ++ y.1.b, 0 ≤ i ∧ i < 256 := fun i hi => by
      rcases List.mem_append.1 hi with hi | hi
      · exact hj.rng _ hxpl i hi
      · exact hj.rng _ hypl i hi
    have hbl : (x.1.b ++ y.1.b).length ≤ 256 := by
      have h1 := hj.bl
      rw [← (List.Perm.flatMap_right (fun t : Tr => t.b) hsp).length_eq] at h1
      simp only [List.flatMap_cons, List.length_append] at h1 ⊢
      omega
    have hx0 : 1 ≤ x.1.b.length := List.length_pos_iff.2 hx5
    have hsum : 0 ≤ x.1.n + y.1.n ∧ x.1.n + y.1.n ≤ 2097152 := by
      have h1 := hj.tot
      rw [← sumI_perm (hsp.map _)] at h1
      simp only [List.map_cons, sumI] at h1
      have h2 := hj.pos _ hxpl
      have h3 := hj.pos _ hypl
      have h4 : 0 ≤ sumI ((restT (restT pl)).map (·.n)) := sumI_pos fun v hv => by
        obtain ⟨t, ht, rfl⟩ := List.mem_map.1 hv
        exact hj.pos t (hsp.mem_iff.1 (by simp [ht]))
      omega
    rw [List.length_append] at hbl
    (repeat first | refine gS ?_ | refine gA fun _ => ?_ | refine gX fun _ _ => ?_ | refine gT ?_ | refine gF ?_ | refine gI ?_)
    rename_i v9 v8
    refine E_stW (vs := tvC x) rfl rfl ?_
    (repeat first | refine gS ?_ | refine gA fun _ => ?_ | refine gX fun _ _ => ?_ | refine gT ?_ | refine gF ?_ | refine gI ?_)
    refine E_stW (vs := tvC y) rfl rfl ?_
    (repeat first | refine gS ?_ | refine gA fun _ => ?_ | refine gX fun _ _ => ?_ | refine gT ?_ | refine gF ?_ | refine gI ?_)
    have ic1 : CellI x.2.1 := ⟨x.2.2⟩
    have ic2 : CellI y.2.1 := ⟨y.2.2⟩
    refine E_bsl (l0 := [nil, nil]) [(0, 1), (1, 1)] u_intss elt_ints (by simp) (by decide) rfl fun b => ?_
    refine E_slsC (enc := cV) [x.2, y.2] 2 rfl rfl ?_
    refine concat2 (v := .slice (some ⟨b, 0, none⟩) 2 2) (sx := x.2) (sy := y.2) (bx := x.1.b) (by_ := y.1.b) (hv := fun Q => rs_app Q rs_sls) (fun Q => rs_app Q (by have := rs_pool (B := B) (enc := cI) hx4; infer_instance)) (fun Q => rs_app Q (by have := rs_pool (B := B) (enc := cI) hy4; infer_instance)) ⟨hx0, by omega, by omega⟩ fun v' iv' => ?_
    refine E_rslen (v := v') (l := x.1.b ++ y.1.b) ?_
    generalize hbo : x.1.b ++ y.1.b = bo at hnb hrb
    have hbol : bo.length ≤ 256 := by rw [← hbo, List.length_append]; exact hbl
    refine E_loop (n := 9) (σ := Nat) (fun j => j ≤ bo.length) (fun j => [ptr v2, ptr v4, ptr v5, ptr v9, ptr v8, v', v', I bo.length, I j]) (fun j => sls cI 3 1 v' bo :: cel true v4 22 (ints (bump out (bo.take j))) :: cel true v8 42 (tvC y) :: cel true v9 42 (tvC x) :: row v5 l2 L1 :: spool cI L1 :: cel true v2 22 (ints zeros) :: H) (fun j => bo.length - j) 0 (fun _ => rfl) rfl (Nat.zero_le _) (fun W hW => by
      rw [List.take_zero, bump_nil] at hW
      exact sm hW) ?_
    rintro j K5 hjl hk5
    refine E_fa fun _ => ?_
    refine E_lss ?_
    refine E_if (fun hc5 => ?_) (fun hc5 => ?_)
    · have hz : bo[j]? = some bo[j] := List.getElem?_eq_getElem (by omega)
      have hzr := hrb _ (List.getElem_mem (show j < bo.length by omega))
      have hzn : bo[j] ∉ bo.take j := fun hm => by
        obtain ⟨i, hi, e⟩ := List.mem_take_iff_getElem.1 hm
        exact List.pairwise_iff_getElem.1 hnb i j (by omega) (by omega) (by omega) e
      generalize bo[j] = z at hz hzr hzn
      obtain ⟨n, rfl⟩ : ∃ n : Nat, z = (n : Int) := ⟨z.toNat, by omega⟩
      have htk : bo.take (j + 1) = bo.take j ++ [(n : Int)] := by rw [List.take_add_one, hz]; rfl
      have hv : out[n]? = some out[n] := List.getElem?_eq_getElem (by omega)
      have hvb' := hvb n _ hv
      generalize out[n] = v at hv hvb'
      have hbv : (bump out (bo.take j))[n]? = some v := by rw [bump_at hv, if_neg hzn]
      have e0 : 0 + n * 1 = n := by omega
      have hbl2 : (ints (bump out (bo.take j))).length = 256 := by simp [ints, bump_len, hout]
      refine E_rsix (v := v') (l := bo) hz fun _ _ => ?_
      refine E_ptld ?_
      refine E_ixA (n := n) (by omega) ?_
      rw [e0]
      refine E_ld' (ints_get hbv) ?_
      refine E_addI (by omega) (by omega) ?_
      refine E_ixA (n := n) (by omega) ?_
      rw [e0]
      refine fd (a := cel true v4 22 (ints (bump out (bo.take j)))) ?_
      refine E_st' (by omega) ?_
      rw [ints_set, ← bump_snoc hzn hv, ← htk]
      refine E_addI (by omega) (by omega) ?_
      exact sm (hk5 (j + 1) (by omega) (by omega))
    · have hje : j = bo.length := by omega
      subst hje
      rw [List.take_length]
      refine E_sortC (by omega) ?_
      (repeat first | refine gS ?_ | refine gA fun _ => ?_ | refine gX fun _ _ => ?_ | refine gT ?_ | refine gF ?_ | refine gI ?_)
      refine E_build (l := [I (x.1.n + y.1.n), v']) str_tree ?_
      refine fd (a := row v5 l2 L1) (E_row fun sv2 _ hpl2 => ?_)
      refine fd (a := spool cI L1) ?_
      refine fd (a := sls cI 3 1 v' (sortI bo)) ?_
      refine E_give (pool_dup ?_)
      have hjt : joinT x.1 y.1 = ⟨x.1.n + y.1.n, sortI bo⟩ := by rw [← hbo]; rfl
      have hjb : (joinT x.1 y.1).b = sortI bo := by rw [hjt]
      refine sm (G := cel true v5 39 [sv2] :: sls tvC 42 2 sv2 l2 :: spool cI ((v', sortI bo) :: L1) :: spool cI ((v', sortI bo) :: L1) :: cel true v4 22 (ints (bump out bo)) :: cel true v2 22 (ints zeros) :: H) ?_
      refine E_rows (fun t ht => ⟨List.mem_cons_of_mem _ (hpl2 t ht).1, (hpl2 t ht).2⟩) ?_
      show E B _ (CF Try.prog 23 [rowI v5, .iface 42 (.agg (tvC ((⟨x.1.n + y.1.n, sortI bo⟩, ⟨v', iv'.pf⟩) : TV)).toArray)] _)
      have hso : sortI bo ≠ [] := fun e => by
        have h1 := (sortI_perm bo).length_eq
        rw [e, ← hbo] at h1
        simp only [List.length_nil, List.length_append] at h1
        omega
      refine push (by omega) ⟨List.mem_cons_self, hso⟩ hy2 fun l' hp' hh' => ?_
      have hlen' := hp'.length_eq
      simp only [List.length_append, List.length_singleton] at hlen'
      have hst2 : (stepT (pl, out)).2 = bump out bo := by
        simp only [stepT]
        rw [← ex, ← ey, hjb]
        exact bump_perm fun i => sortI_mem
      have hst1 : (l'.map (·.1)).Perm (stepT (pl, out)).1 := by
        have h1 := hp'.map (fun t : TV => t.1)
        rw [List.map_append] at h1
        refine h1.trans ?_
        simp only [stepT]
        rw [← ex, ← ey, hjt]
        exact pr2.append_right _
      have hk2 := hk (l', (v', sortI bo) :: L1, (stepT (pl, out)).1, (stepT (pl, out)).2) ⟨hst1, hh', hj.step hgt', by
        rw [← hhuff, huff_step (k := pl.length) (s := (pl, out)) hgt' (by simp only; omega)], by simp only; omega, fun i u hu => ?_⟩ (by simp only; omega)
      · rw [show (stepT (pl, out)).2 = bump out bo from hst2] at hk2
        exact sm hk2
      · rw [show (stepT (pl, out)).2 = bump out bo from hst2] at hu
        unfold bump at hu
        rw [List.getElem?_mapIdx] at hu
        cases ho : out[i]? with
        | none => rw [ho] at hu; cases hu
        | some w =>
          rw [ho] at hu
          have := hvb i w ho
          simp only [Option.map_some, Option.some.injEq] at hu
          simp only
          split at hu <;> omega
  · have hstop : huff pl.length (pl, out) = (pl, out) := huff_stop (by simp only; omega)
    rw [hstop] at hhuff
    simp only at hhuff
    subst hhuff
    have alo : AtLen (ints out) 256 := ⟨hilo⟩
    refine E_ldNA (l := ints out) ?_
    refine fd (a := cel true v2 22 (ints zeros)) ?_
    refine E_stW (vs := ints out) (hc := allc _) hilo hilz ?_
    refine E_ldNA (l := ints out) ?_
    exact sm h
end Go.Proofs.Ytblgkgobakhigaa.Cod
end
section
namespace Go.Proofs.Ytblgkgobakhigaa.Cod
open Go Go.SL Go.SL.Stb Go.Proofs Go.Proofs.Ytblgkgobakhigaa.Sh Go.Proofs.Ytblgkgobakhigaa.HeapM
variable {B : World} {H : List Asrt} {K : Value → WT} {W : WT} {p : Nat} {L : List (Value × List Int)}
set_option maxRecDepth 100000
theorem sortI_sorted (l : List Int) : (sortI l).Pairwise (· ≤ ·) := by
  have h : (sortI l).Pairwise fun x y => decide (x ≤ y) = true := by
    refine List.pairwise_mergeSort (fun a b c h1 h2 => ?_) (fun a b => ?_) l
    · simp only [decide_eq_true_eq] at *; omega
    · simp only [Bool.or_eq_true, decide_eq_true_eq]; omega
  exact h.imp fun h => by simpa using h
attribute [local irreducible] S.pick S.ld S.ldN S.st S.box S.nc S.fad S.ixS S.ixA S.chr S.prt S.ext S.bin S.sh S.sbin S.beq S.neg1 S.com1 S.not1 S.cvt S.str1 S.lenS S.len S.cap S.lenM S.mx S.mn S.mkM S.cond S.gd S.fa S.dr S.rck S.join S.loop S.cvv S.eqv S.slc S.slcS S.b2s S.lk V U CF Gives E cel mpb osl ros dct dit itr
end Go.Proofs.Ytblgkgobakhigaa.Cod
end
