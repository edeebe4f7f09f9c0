/-
  Names: the first error; names that rise; the program's Check.
-/
import Derived.Test.YtjafpncngmbcdaaGreatNmI
set_option linter.unusedSimpArgs false
set_option linter.unusedVariables false
set_option linter.unusedSectionVars false
namespace Go.Proofs.YtjafpncngmbcdaaGreat.Nam
open Go Go.SL Go.Proofs Go.Proofs.YtjafpncngmbcdaaGreat.Sh
variable {B : World} {H : List Asrt} {K : Value → WT} {W : WT} {a : Nat} {M : Bk} {f : Fa} {rv hv mv : Value}
def firstE : List Int → Int
  | [] => 0
  | e :: l => if e ≠ 0 then e else firstE l
theorem firstE_drop : ∀ (l : List Int) (i : Nat), (∀ e ∈ l.take i, e = 0) → firstE l = firstE (l.drop i)
  | [], i, _ => by simp
  | e :: l, 0, _ => rfl
  | e :: l, i + 1, h => by
    have h0 : e = 0 := h e (by simp)
    rw [List.drop_succ_cons, ← firstE_drop l i fun x hx => h x (by rw [List.take_succ_cons]; exact List.mem_cons_of_mem _ hx)]
    unfold firstE
    rw [if_neg (by simp [h0])]
    cases l <;> rfl
theorem cmp_lt : ∀ (a b : List UInt8), (2 * Lib.compareBytes a b - 1 < 0 ↔ ¬ b < a) ∧ -1 ≤ Lib.compareBytes a b ∧ Lib.compareBytes a b ≤ 1
  | [], [] => by simp [Lib.compareBytes]
  | [], _ :: _ => by simp [Lib.compareBytes]
  | _ :: _, [] => by simp [Lib.compareBytes]
  | a :: aa, b :: bs => by
    have ih := cmp_lt aa bs
    unfold Lib.compareBytes
    by_cases h1 : a < b
    · rw [if_pos h1]
      refine ⟨⟨fun _ h => ?_, fun _ => by decide⟩, by decide, by decide⟩
      rcases List.cons_lt_cons_iff.1 h with h | ⟨h, _⟩
      · exact UInt8.lt_irrefl _ (UInt8.lt_trans h1 h)
      · subst h; exact UInt8.lt_irrefl _ h1
    · rw [if_neg h1]
      by_cases h2 : b < a
      · rw [if_pos h2]
        refine ⟨⟨fun h => by simp at h, fun h => (h (List.cons_lt_cons_iff.2 (.inl h2))).elim⟩, by decide, by decide⟩
      · rw [if_neg h2]
        have e : b = a := UInt8.le_antisymm (UInt8.not_lt.1 h1) (UInt8.not_lt.1 h2)
        refine ⟨?_, ih.2⟩
        rw [ih.1, List.cons_lt_cons_iff]
        simp [e, h2, UInt8.lt_irrefl]
theorem adj_pw : ∀ {l : List (List UInt8)}, (∀ j x y, l[j]? = some x → l[j + 1]? = some y → x < y) → l.Pairwise (· < ·)
  | [], _ => .nil
  | [x], _ => List.pairwise_singleton _ _
  | x :: y :: l, h => by
    have ih := adj_pw (l := y :: l) fun j u v hu hv => h (j + 1) u v (by simpa using hu) (by simpa using hv)
    have h0 := h 0 x y rfl rfl
    refine List.pairwise_cons.2 ⟨fun z hz => ?_, ih⟩
    rcases List.mem_cons.1 hz with rfl | hz
    · exact h0
    · exact slt_trans h0 ((List.pairwise_cons.1 ih).1 z hz)
theorem u_errs : Tryz.prog.underlying 160 = some (.slice 32) := by kernel_rfl
theorem elt_err : Elt Tryz.prog 32 1 8 [.int .i64 0] := elt_of (zv := .int .i64 0) (by kernel_rfl) rfl rfl
/-- A map asked, whether or not it has the key. -/
theorem E_dlkg2 {r : Nat} {kf : List (List UInt8 × Value)} {k : List UInt8} {v z : Value} {H' : List Asrt} [ht : TakD H kL true r kf H'] (hv : lk kf k = some v ∨ (lk kf k = none ∧ v = z)) (h : E B (dct kL true r kf :: H') (K (.tuple #[v, .bool (lk kf k).isSome]))) : E B H (S.lk .string z true (.map (some r)) (str k) K) := by
  rcases hv with hv | ⟨hv, rfl⟩
  · rw [hv] at h; exact E_dlk1 (κ := List UInt8) hv h
  · rw [hv] at h; exact E_dlk0 (κ := List UInt8) hv h
theorem sok_get {Lh : List (Value × List (List UInt8 × Int))} {ks : List (List UInt8 × Value)} {S : List Sn} (h : SOk Lh ks S) (k : List UInt8) :
    ∃ (s : Sn) (hv : Cv), (∀ (B : World) (H : List Asrt), Rs B (spool hC Lh :: H) hv.1 hC s.held) ∧ (lk ks k = some (shV s hv.1) ∨ (lk ks k = none ∧ shV s hv.1 = .agg #[.string ⟨#[]⟩, I 0, nil])) ∧ (lk ks k).isSome = (sof S k).isSome ∧ (∀ t, sof S k = some t → s = t) ∧ (sof S k = none → s.held = []) := by
  rcases h k with ⟨h1, h2⟩ | ⟨hv, s, h1, h2, h3⟩
  · exact ⟨⟨[], 0, []⟩, ⟨nil, rfl⟩, fun _ _ => ⟨fun _ => .inl ⟨rfl, rfl, rfl⟩⟩, .inr ⟨h1, rfl⟩, by rw [h1, h2]; rfl, (fun t ht => by rw [h2] at ht; cases ht), fun _ => rfl⟩
  · exact ⟨s, hv, fun B H => rs_pool h3 H, .inl h1, by rw [h1, h2]; rfl, (fun t ht => by rw [h2] at ht; exact Option.some.inj ht), fun hn => by rw [h2] at hn; cases hn⟩
attribute [local irreducible] S.pick S.ld S.ldN S.st S.box S.nc S.fad S.ixS S.ixA S.chr S.prt S.ext S.bin S.sh S.sbin S.beq S.neg1 S.com1 S.not1 S.cvt S.str1 S.lenS S.len S.cap S.lenM S.mx S.mn S.mkM S.cond S.gd S.fa S.dr S.rck S.join S.loop S.cvv S.eqv S.slc S.slcS S.b2s S.lk V U CF Gives E cel mpb osl ros dct dit itr lpo dfo
set_option maxRecDepth 8000
attribute [local irreducible] bk
theorem when {c : Bool} {e : Int} (h : E B H (K (I (bif c then e else 0)))) : E B H (CF Tryz.prog 80 [.bool c, I e] K) := by
  refine E_mono (W := s80 _ _ K) ?_ fun _ => c80
  unfold s80
  cases c with
  | true => exact E_tt h
  | false => exact E_ff h
theorem first {v : Value} {l : List Int} [hv : Rs B H v cI l] (hn : l.length ≤ 100) (h : E B H (K (I (firstE l)))) : E B H (CF Tryz.prog 79 [v] K) := by
  refine E_mono (W := s79 _ K) ?_ fun _ => c79
  unfold s79
  refine E_rslen (v := v) (l := l) ?_
  refine E_loop (n := 3) (σ := Nat) (fun i => i ≤ l.length ∧ ∀ e ∈ l.take i, e = 0) (fun i => [v, I l.length, I i]) (fun _ => H) (fun i => l.length - i) 0 (fun _ => rfl) rfl ⟨Nat.zero_le _, by simp⟩ (fun W hW => hW) ?_
  rintro i K0 ⟨hi, ha⟩ hk
  have hd := firstE_drop l i ha
  refine E_fa fun _ => ?_
  refine E_lss ?_
  refine E_if (fun hc => ?_) (fun hc => ?_)
  · have hx : l[i]? = some l[i] := List.getElem?_eq_getElem (by omega)
    have hdc := List.drop_eq_getElem_cons (show i < l.length by omega)
    generalize l[i] = x at hx hdc
    refine E_rsix (v := v) (l := l) hx fun _ _ => ?_
    refine E_ptld ?_
    refine E_neq ?_
    refine E_if (fun e => ?_) (fun e => ?_)
    · rw [hd, hdc] at h
      unfold firstE at h
      rw [if_pos e] at h
      exact h
    · refine E_addI (by omega) (by omega) ?_
      refine hk (i + 1) ⟨by omega, fun y hy => ?_⟩ (by omega)
      rw [List.take_add_one, hx] at hy
      rcases List.mem_append.1 hy with hy | hy
      · exact ha y hy
      · simp at hy; subst hy; exact Decidable.not_not.1 e
  · rw [hd, List.drop_eq_nil_of_le (by omega)] at h
    exact h
theorem rises {v : Value} {l : List (List UInt8 × Int)} [hv : Rs B H v hC l] (hn : l.length ≤ 140737488355328) (h : E B H (K (.bool (risesB l)))) : E B H (CF Tryz.prog 81 [v, .func (.func 82) #[] #[]] K) := by
  refine E_mono (W := s81 _ _ K) ?_ fun _ => c81
  unfold s81
  refine E_rslen (v := v) (l := l) ?_
  refine E_subI (by omega) (by omega) ?_
  refine E_loop (n := 3) (σ := Nat) (fun i => i ≤ l.length ∧ ∀ j x y, i ≤ j + 1 → l[j]? = some x → l[j + 1]? = some y → x.1 < y.1) (fun i => [v, .func (.func 82) #[] #[], I ((i : Int) - 1)]) (fun _ => H) (fun i => i) l.length (fun _ => rfl) rfl
    ⟨Nat.le_refl _, fun j x y hj _ hy => by rw [List.getElem?_eq_none (by omega)] at hy; cases hy⟩ (fun W hW => hW) ?_
  rintro i K0 ⟨hi, ha⟩ hk
  refine E_fa fun _ => ?_
  refine E_gtr ?_
  refine E_if (fun hc => ?_) (fun hc => ?_)
  · obtain ⟨j, rfl⟩ : ∃ j, i = j + 2 := ⟨i - 2, by omega⟩
    have hx : l[j]? = some l[j] := List.getElem?_eq_getElem (by omega)
    have hy : l[j + 1]? = some l[j + 1] := List.getElem?_eq_getElem (by omega)
    generalize l[j] = x at hx
    generalize l[j + 1] = y at hy
    rw [show ((j + 2 : Nat) : Int) - 1 = ((j + 1 : Nat) : Int) by omega]
    refine E_dr ?_
    refine E_rsix (v := v) (l := l) hy fun _ _ => ?_
    refine E_ptldA ?_
    refine E_subI (by omega) (by omega) ?_
    rw [show ((j + 1 : Nat) : Int) - 1 = ((j : Nat) : Int) by omega]
    refine E_rsix (v := v) (l := l) hx fun _ _ => ?_
    refine E_ptldA ?_
    refine E_cvv (by kernel_rfl) ?_
    show E B _ (CF Tryz.prog 82 [.agg (hC y).toArray, .agg (hC x).toArray] _)
    refine E_mono (W := s82 _ _ _) ?_ fun _ => c82
    unfold s82
    (repeat first | refine gS ?_ | refine gA fun _ => ?_ | refine gX fun _ _ => ?_ | refine gT ?_ | refine gF ?_ | refine gI ?_)
    obtain ⟨c1, c2, c3⟩ := cmp_lt y.1 x.1
    refine E_callSame (fun w => Tryz.strings_Compare ⟨y.1.toArray⟩ ⟨x.1.toArray⟩ w) ?_
    refine E_mulI (by show _ ≤ 2 * Lib.compareBytes y.1 x.1; omega) (by show 2 * Lib.compareBytes y.1 x.1 ≤ _; omega) ?_
    refine E_subI (by show _ ≤ 2 * Lib.compareBytes y.1 x.1 - 1; omega) (by show 2 * Lib.compareBytes y.1 x.1 - 1 ≤ _; omega) ?_
    refine E_lss ?_
    refine E_if (fun e => ?_) (fun e => ?_)
    · have hn' : risesB l = false := decide_eq_false fun hp => by
        have := List.pairwise_iff_getElem.1 hp j (j + 1) (by simp; omega) (by simp; omega) (by omega)
        simp only [List.getElem_map] at this
        obtain ⟨_, e1⟩ := List.getElem?_eq_some_iff.1 hx
        obtain ⟨_, e2⟩ := List.getElem?_eq_some_iff.1 hy
        rw [e1, e2] at this
        exact c1.1 e this
      rw [hn'] at h
      exact sm h
    · have hlt : x.1 < y.1 := Classical.byContradiction fun hn' => e (c1.2 hn')
      refine E_subI (by omega) (by omega) ?_
      refine sm (hk (j + 1) ⟨by omega, fun j' x' y' hj' hx' hy' => ?_⟩ (by omega))
      by_cases hjj : j' = j
      · subst hjj
        rw [hx] at hx'; rw [hy] at hy'
        cases hx'; cases hy'; exact hlt
      · exact ha j' x' y' (by omega) hx' hy'
  · have hy' : risesB l = true := decide_eq_true (adj_pw fun j x y hx hy => by
      rw [List.getElem?_map] at hx hy
      cases h1 : l[j]? with
      | none => rw [h1] at hx; cases hx
      | some p =>
        cases h2 : l[j + 1]? with
        | none => rw [h2] at hy; cases hy
        | some q =>
          rw [h1] at hx; rw [h2] at hy
          cases hx; cases hy
          exact ha j p q (by omega) h1 h2)
    rw [hy'] at h
    exact h
/-- Is one of some generations not there? -/
theorem notLive {b : Nat} {v : Value} {l : List (List UInt8 × Int)} [hv : Rs B H v hC l] (hl : l.length ≤ 140737488355328) (hn : ∀ k, (fof M.V k).length ≤ 140737488355328) (h : E B (bk a M :: cel true b 23 [ptr a] :: H) (K (.bool (l.any fun h => !liveB M.V h.1 h.2)))) :
    E B (bk a M :: cel true b 23 [ptr a] :: H) (CF Tryz.prog 84 [v, .func (.func 85) #[] #[ptr b]] K) := by
  refine E_mono (W := s84 _ _ K) ?_ fun _ => c84
  unfold s84
  refine E_mono (W := s45 _ _ _) ?_ fun _ => c45
  rw [s45_eq]
  refine idxC_ok (C := [bk a M, cel true b 23 [ptr a]]) (hv := show Rs B (bk a M :: cel true b 23 [ptr a] :: H) v hC l from inferInstance) (enc := hC) (p := fun h : List UInt8 × Int => !liveB M.V h.1 h.2) hl (fun m hm H' K' hK => ?_) ?_
  · refine E_cvv (by kernel_rfl) ?_
    show E B (bk a M :: cel true b 23 [ptr a] :: H') (CF Tryz.prog 85 [.agg (hC m).toArray, ptr b] K')
    refine E_mono (W := s85 _ _ K') ?_ fun _ => c85
    unfold s85
    (repeat first | refine gS ?_ | refine gA fun _ => ?_ | refine gX fun _ _ => ?_ | refine gT ?_ | refine gF ?_ | refine gI ?_)
    have hK2 : E B (bk a M :: cel true b 23 [ptr a] :: H') (K' (.bool (!liveB M.V m.1 m.2))) := hK
    refine fd (a := bk a M) (live (hn m.1) ?_)
    refine gY ?_
    exact sm hK2
  · show E B (bk a M :: cel true b 23 [ptr a] :: H) _
    refine E_geq ?_
    rw [idx_any]
    exact h
end Go.Proofs.YtjafpncngmbcdaaGreat.Nam
