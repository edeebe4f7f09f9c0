/-
  Model: New of both; Bytes, Shot; what is compared.
-/
import Derived.Test.YtabpaknfenpkoaaGreatModT
set_option linter.unusedSimpArgs false
set_option linter.unusedVariables false
set_option linter.unusedSectionVars false
namespace Go.Proofs.YtabpaknfenpkoaaGreat.Mod
open Go Go.SL Go.Proofs Go.Proofs.YtabpaknfenpkoaaGreat.Sh
variable {B : World} {H : List Asrt} {K : Value → WT} {W : WT}
variable {a : Nat} {M : Mo} {o : Od} {bv kv : Value} {t u : Int} {n : Int}
def newM (q : Int) : Mo := ⟨[], [], [], 0, 0, q⟩
theorem inv_new {q : Int} (hq : q ≤ 9223372036854775807) : Inv 0 (newM q) where
  w := {
    ss := .nil
    g := fun v hv => by cases hv
    v := .nil
    n := by simp [newM]
    vt := fun v hv => by cases hv
    sh := fun v hv => by cases hv
    se := fun v hv => by cases hv
    o := .nil
    ob := fun v hv => by cases hv
    ol := by simp [newM]
    b := by simp [newM]
    t := by simp [newM]
    q := hq }
  gn := fun v hv => by cases hv
  bn := by simp [newM]
  sw := rfl
  nl := by simp [newM, nms]
  fl := fun k => by simp [newM, fof]
  s16 := by simp [newM]
  hh := fun v hv => by cases hv
theorem str_model : Str Tryz.prog 82 [(0, 1), (1, 1), (2, 1), (3, 1), (4, 1), (5, 1)] [.map none, .map none, .map none, I 0, I 0, I 0] := str_of (zv := .agg #[.map none, .map none, .map none, I 0, I 0, I 0]) (by kernel_rfl) (by kernel_rfl) rfl
abbrev zop : List Value := [I 0, I 0, .string ⟨#[]⟩, .string ⟨#[]⟩, I 0, I 0, I 0, nil, I 0, I 0, I 0, I 0, nil, I 0, I 0]
theorem str_op : Str Tryz.prog 42 [(0, 1), (1, 1), (2, 1), (3, 1), (4, 1), (5, 1), (6, 1), (7, 1), (8, 4), (12, 3)] zop := str_of (zv := .agg zop.toArray) (by kernel_rfl) (by kernel_rfl) rfl
attribute [local irreducible] S.pick S.ld S.ldN S.st S.box S.nc S.fad S.ixS S.ixA S.chr S.prt S.ext S.bin S.sh S.sbin S.beq S.neg1 S.com1 S.not1 S.cvt S.str1 S.lenS S.len S.cap S.lenM S.mx S.mn S.mkM S.cond S.gd S.fa S.dr S.rck S.join S.loop S.cvv S.eqv S.slc S.slcS S.b2s S.lk V U CF Gives E cel mpb osl ros dct dit itr lpo dfo
set_option maxRecDepth 4000
attribute [local irreducible] mo ansH rmo
theorem new {q : Int} (h : ∀ a, E B (mo a (newM q) :: H) (K (ptr a))) : E B H (CF Tryz.prog 24 [I q] K) := by
  refine E_mono (W := s24 _ K) ?_ fun _ => c24
  unfold s24
  refine E_mkM fun r1 => ?_
  refine E_dnew (κ := List UInt8) (enc := kL) ?_
  refine E_mkM fun r2 => ?_
  refine E_dnew (κ := List UInt8) (enc := kL) ?_
  refine E_mkM fun r3 => ?_
  refine E_dnew (κ := Int) (enc := kI) ?_
  refine E_build (l := [.map (some r1), .map (some r2), .map (some r3), I 0, I 0, I q]) str_model ?_
  (repeat first | refine gS ?_ | refine gA fun _ => ?_ | refine gX fun _ _ => ?_ | refine gT ?_ | refine gF ?_ | refine gI ?_)
  rename_i a
  refine pool_new (slQ vC) ?_
  refine pool_new (dcQ kL) ?_
  refine sm (G := cel true a 82 [.map (some r1), .map (some r2), .map (some r3), I 0, I 0, I q] :: dct kL true r1 [] :: dct kL true r2 [] :: dct kI true r3 [] :: spool vC [] :: dpool kL [] :: H) ?_
  refine E_moS (M := newM q) r1 r2 r3 (fun k => .inl ⟨rfl, rfl⟩) (fun k => .inl ⟨rfl, rfl⟩) (fun k => rfl) rfl rfl rfl ?_
  exact h a
theorem rnew {q : Int} (h : ∀ a, E B (rmo a (newM q) :: H) (K (ptr a))) : E B H (CF Tryz.prog 25 [I q] K) := by
  refine E_mono (W := s25 _ K) ?_ fun _ => c25
  unfold s25
  refine E_build (l := [nil, nil, nil, I 0, I 0, I q]) str_rmodel ?_
  (repeat first | refine gS ?_ | refine gA fun _ => ?_ | refine gX fun _ _ => ?_ | refine gT ?_ | refine gF ?_ | refine gI ?_)
  rename_i a
  refine pool_new (slQ rvC) ?_
  refine sls_nil rvC 5 (T := 102) (E_give ?_)
  refine pool_new (slQ rsC) ?_
  refine sls_nil rsC 2 (T := 104) (E_give ?_)
  refine pool_new (slQ roC) ?_
  refine sls_nil roC 3 (T := 72) (E_give ?_)
  refine pool_new (slQ hC) ?_
  refine sm (G := cel true a 70 [nil, nil, nil, I 0, I 0, I q] :: spool rvC [(nil, [])] :: spool rsC [(nil, [])] :: spool roC [(nil, [])] :: spool hC [] :: H) ?_
  refine E_rmoS (M := newM q) nil nil nil (SS := []) (by simp [newM]) (by simp) (by simp [newM]) rfl (fun i p s hp => by simp at hp) rfl rfl rfl ?_
  exact h a
/-- An operation that is built of a few fields. -/
abbrev odOf (d : Int) (name shot : List UInt8) (gen : Int) : Od := ⟨d, 0, name, shot, gen, 0, 0, [], 0, 0, 0, 0⟩
theorem bytesF {name : List UInt8} {g : Int} (h : Inv n M) (hl : name.length ≤ 140737488355328) (hk : ∀ bv [CellI bv], E B (sls cB 5 1 bv (readA M (odOf 5 name [] g)).bytes :: mo a M :: H) (K (.tuple #[bv, I (readA M (odOf 5 name [] g)).e]))) :
    E B (mo a M :: H) (CF Tryz.prog 8 [ptr a, str name, I g] K) := by
  refine E_mono (W := s8 _ _ _ K) ?_ fun _ => c8
  unfold s8
  refine E_build (l := [I 5, I 0, str name, .string ⟨#[]⟩, I g, I 0, I 0, nil, I 0, I 0, I 0, I 0, nil, I 0, I 0]) str_op ?_
  refine sls_nil cB 1 (T := 5) ?_
  refine fd (a := mo a M) ?_
  refine do_ (o := odOf 5 name [] g) (sp := false) (bv := nil) (kv := nil) (t := 0) (u := 0) h.w h.sw hl (by simp) (by simp) fun rv => ?_
  show E B (ansH (readA M (odOf 5 name [] g)) rv :: mo a M :: _) _
  refine ans_open fun b' h' _ _ e => ?_
  subst e
  (repeat first | refine gS ?_ | refine gA fun _ => ?_ | refine gX fun _ _ => ?_ | refine gT ?_ | refine gF ?_ | refine gI ?_)
  exact sm (hk b')
theorem shotF {name shot : List UInt8} (h : Inv n M) (hl : name.length ≤ 140737488355328) (hl2 : shot.length ≤ 140737488355328) (hk : ∀ bv [CellI bv], E B (sls cB 5 1 bv (shownA M (odOf 7 name shot 0)).bytes :: mo a M :: H) (K (.tuple #[bv, I (shownA M (odOf 7 name shot 0)).e]))) :
    E B (mo a M :: H) (CF Tryz.prog 10 [ptr a, str shot, str name] K) := by
  refine E_mono (W := s10 _ _ _ K) ?_ fun _ => c10
  unfold s10
  refine E_build (l := [I 7, I 0, str name, str shot, I 0, I 0, I 0, nil, I 0, I 0, I 0, I 0, nil, I 0, I 0]) str_op ?_
  refine sls_nil cB 1 (T := 5) ?_
  refine fd (a := mo a M) ?_
  refine do_ (o := odOf 7 name shot 0) (sp := false) (bv := nil) (kv := nil) (t := 0) (u := 0) h.w h.sw hl hl2 (by simp) fun rv => ?_
  show E B (ansH (shownA M (odOf 7 name shot 0)) rv :: mo a M :: _) _
  refine ans_open fun b' h' _ _ e => ?_
  subst e
  (repeat first | refine gS ?_ | refine gA fun _ => ?_ | refine gX fun _ _ => ?_ | refine gT ?_ | refine gF ?_ | refine gI ?_)
  exact sm (hk b')
theorem sameHeld {v1 v2 : Value} {l1 l2 : List (List UInt8 × Int)} [h1 : Rs B H v1 hC l1] [h2 : Rs B H v2 hC l2] (hl : l1.length ≤ 140737488355328) (h : E B H (K (.bool (decide (l1 = l2))))) : E B H (CF Tryz.prog 21 [v1, v2] K) := by
  refine E_mono (W := s21 _ _ K) ?_ fun _ => c21
  unfold s21
  (repeat first | refine gS ?_ | refine gA fun _ => ?_ | refine gX fun _ _ => ?_ | refine gT ?_ | refine gF ?_ | refine gI ?_)
  refine E_if (fun hc => ?_) (fun hc => ?_)
  · have e : decide (l1 = l2) = false := decide_eq_false fun e => hc (by rw [e])
    rw [e] at h; exact h
  · have hlen : l1.length = l2.length := by omega
    refine E_loop (σ := Nat) (fun i => i ≤ l1.length ∧ l1.take i = l2.take i) (fun i => [v1, v2, I i]) (fun _ => H) (fun i => l1.length - i) 0 (fun _ => rfl) rfl ⟨Nat.zero_le _, by simp⟩ (fun W hW => hW) ?_
    rintro i K0 ⟨hi, he⟩ hk
    refine E_fa fun _ => ?_
    (repeat first | refine gS ?_ | refine gA fun _ => ?_ | refine gX fun _ _ => ?_ | refine gT ?_ | refine gF ?_ | refine gI ?_)
    refine E_if (fun hc2 => ?_) (fun hc2 => ?_)
    · have hx : l1[i]? = some l1[i] := List.getElem?_eq_getElem (by omega)
      have hy : l2[i]? = some l2[i] := List.getElem?_eq_getElem (by omega)
      generalize l1[i] = x at hx
      generalize l2[i] = y at hy
      (repeat first | refine gS ?_ | refine gA fun _ => ?_ | refine gX fun _ _ => ?_ | refine gT ?_ | refine gF ?_ | refine gI ?_)
      refine E_ane (xs := #[str x.1, I x.2]) (ys := #[str y.1, I y.2]) (b := decide (x = y)) (by kernel_rfl) (fun w => eq_held x y w) ?_
      by_cases hxy : x = y
      · rw [decide_eq_true hxy]
        refine E_ff ?_
        refine E_addI (by omega) (by omega) ?_
        refine hk (i + 1) ⟨by omega, ?_⟩ (by omega)
        rw [List.take_add_one, List.take_add_one, he, hx, hy, hxy]
      · rw [decide_eq_false hxy]
        refine E_tt ?_
        have e : decide (l1 = l2) = false := decide_eq_false fun e => hxy (by rw [e, hy] at hx; exact (Option.some.inj hx).symm)
        rw [e] at h; exact h
    · have hie : i = l1.length := by omega
      subst hie
      rw [List.take_length, hlen, List.take_length] at he
      rw [decide_eq_true he] at h
      exact h
theorem sameAns {A C : Ans} {b1 h1 b2 h2 : Value} [CellI b1] [CellI h1] [CellI b2] [CellI h2] [r1 : Rb B H b1 A.bytes] [r2 : Rb B H b2 C.bytes] [g1 : Rs B H h1 hC A.names] [g2 : Rs B H h2 hC C.names] (hl : A.names.length ≤ 140737488355328)
    (h : E B H (K (.bool (decide (A = C))))) : E B H (CF Tryz.prog 20 [ans A.e A.n b1 h1, ans C.e C.n b2 h2] K) := by
  refine E_mono (W := s20 _ _ K) ?_ fun _ => c20
  unfold s20
  have fin : ∀ b : Bool, decide (A = C) = b → E B H (K (.bool b)) := fun b hb => hb ▸ h
  have hE : A = C ↔ A.e = C.e ∧ A.n = C.n ∧ A.bytes = C.bytes ∧ A.names = C.names := by
    cases A; cases C; simp
  (repeat first | refine gS ?_ | refine gA fun _ => ?_ | refine gX fun _ _ => ?_ | refine gT ?_ | refine gF ?_ | refine gI ?_)
  by_cases k1 : A.e = C.e
  · (repeat first | refine gS ?_ | refine gA fun _ => ?_ | refine gX fun _ _ => ?_ | refine gT ?_ | refine gF ?_ | refine gI ?_)
    by_cases k2 : A.n = C.n
    · (repeat first | refine gS ?_ | refine gA fun _ => ?_ | refine gX fun _ _ => ?_ | refine gT ?_ | refine gF ?_ | refine gI ?_)
      refine E_b2sR (bs := A.bytes) ?_
      (repeat first | refine gS ?_ | refine gA fun _ => ?_ | refine gX fun _ _ => ?_ | refine gT ?_ | refine gF ?_ | refine gI ?_)
      refine E_b2sR (bs := C.bytes) ?_
      (repeat first | refine gS ?_ | refine gA fun _ => ?_ | refine gX fun _ _ => ?_ | refine gT ?_ | refine gF ?_ | refine gI ?_)
      by_cases k3 : A.bytes = C.bytes
      · (repeat first | refine gS ?_ | refine gA fun _ => ?_ | refine gX fun _ _ => ?_ | refine gT ?_ | refine gF ?_ | refine gI ?_)
        refine sameHeld hl ?_
        (repeat first | refine gS ?_ | refine gA fun _ => ?_ | refine gX fun _ _ => ?_ | refine gT ?_ | refine gF ?_ | refine gI ?_)
        refine sm (fin _ ?_)
        rw [decide_eq_decide, hE]
        exact ⟨fun h => h.2.2.2, fun h => ⟨k1, k2, k3, h⟩⟩
      · (repeat first | refine gS ?_ | refine gA fun _ => ?_ | refine gX fun _ _ => ?_ | refine gT ?_ | refine gF ?_ | refine gI ?_)
        exact sm (fin false (decide_eq_false fun e => k3 (hE.1 e).2.2.1))
    · (repeat first | refine gS ?_ | refine gA fun _ => ?_ | refine gX fun _ _ => ?_ | refine gT ?_ | refine gF ?_ | refine gI ?_)
      exact sm (fin false (decide_eq_false fun e => k2 (hE.1 e).2.1))
  · (repeat first | refine gS ?_ | refine gA fun _ => ?_ | refine gX fun _ _ => ?_ | refine gT ?_ | refine gF ?_ | refine gI ?_)
    exact sm (fin false (decide_eq_false fun e => k1 (hE.1 e).1))
theorem intsF {v1 v2 : Value} {l1 l2 : List Int} [h1 : Rs B H v1 cI l1] [h2 : Rs B H v2 cI l2] (hl : l1.length ≤ 140737488355328) (h : E B H (K (.bool (decide (l1 = l2))))) : E B H (CF Tryz.prog 17 [v1, v2] K) := by
  refine E_mono (W := s17 _ _ K) ?_ fun _ => c17
  unfold s17
  (repeat first | refine gS ?_ | refine gA fun _ => ?_ | refine gX fun _ _ => ?_ | refine gT ?_ | refine gF ?_ | refine gI ?_)
  refine E_if (fun hc => ?_) (fun hc => ?_)
  · have e : decide (l1 = l2) = false := decide_eq_false fun e => hc (by rw [e])
    rw [e] at h; exact h
  · have hlen : l1.length = l2.length := by omega
    refine E_loop (σ := Nat) (fun i => i ≤ l1.length ∧ l1.take i = l2.take i) (fun i => [v1, v2, I i]) (fun _ => H) (fun i => l1.length - i) 0 (fun _ => rfl) rfl ⟨Nat.zero_le _, by simp⟩ (fun W hW => hW) ?_
    rintro i K0 ⟨hi, he⟩ hk
    refine E_fa fun _ => ?_
    (repeat first | refine gS ?_ | refine gA fun _ => ?_ | refine gX fun _ _ => ?_ | refine gT ?_ | refine gF ?_ | refine gI ?_)
    refine E_if (fun hc2 => ?_) (fun hc2 => ?_)
    · have hx : l1[i]? = some l1[i] := List.getElem?_eq_getElem (by omega)
      have hy : l2[i]? = some l2[i] := List.getElem?_eq_getElem (by omega)
      generalize l1[i] = x at hx
      generalize l2[i] = y at hy
      (repeat first | refine gS ?_ | refine gA fun _ => ?_ | refine gX fun _ _ => ?_ | refine gT ?_ | refine gF ?_ | refine gI ?_)
      refine E_if (fun hxy => ?_) (fun hxy => ?_)
      · have e : decide (l1 = l2) = false := decide_eq_false fun e => hxy (by rw [e, hy] at hx; exact (Option.some.inj hx).symm)
        rw [e] at h; exact h
      · refine E_addI (by omega) (by omega) ?_
        refine hk (i + 1) ⟨by omega, ?_⟩ (by omega)
        rw [List.take_add_one, List.take_add_one, he, hx, hy, Decidable.not_not.1 hxy]
    · have hie : i = l1.length := by omega
      subst hie
      rw [List.take_length, hlen, List.take_length] at he
      rw [decide_eq_true he] at h
      exact h
end Go.Proofs.YtabpaknfenpkoaaGreat.Mod
