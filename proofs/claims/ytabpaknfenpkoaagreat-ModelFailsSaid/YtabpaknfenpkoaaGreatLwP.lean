/-
  Model: ModelForks.
-/
import Derived.Test.YtabpaknfenpkoaaGreatLwO
set_option linter.unusedSimpArgs false
set_option linter.unusedVariables false
set_option linter.unusedSectionVars false
namespace Go.SL
open Go.RowKit
variable {B : World} {H : List Asrt} {K : Value → WT} {α : Type} {enc : α → List Value} {sz : Nat}
/-- A pointer to what the start world has. -/
class PtB (B : World) (p : Value) (o : outParam Nat) (cs : outParam (List Value)) : Prop where
  pf : ∀ H, PtA B H p o cs
instance (priority := low) ptA_base {p : Value} {o : Nat} {cs : List Value} [h : PtB B p o cs] : PtA B H p o cs := h.pf H
theorem E_rsixB [hE : Enc enc sz] {v : Value} {l : List α} {i : Nat} {x : α} {k : IntKind} [hf : BaseS B v enc l] (hx : l[i]? = some x)
    (h : ∀ p [PtB B p 0 (enc x)], E B H (K p)) : E B H (S.ixS sz v (.int k (i : Int)) K) := fun w hw => by
  have hlt : i < l.length := (List.getElem?_eq_some_iff.1 hx).1
  have hle : i * sz + sz ≤ (l.flatMap enc).length := by rw [enc_length, ← Nat.succ_mul]; exact Nat.mul_le_mul_right _ hlt
  obtain ⟨r, hr⟩ := enc_at (enc := enc) hx
  have hR : ∀ H', Rs B H' v enc l := fun H' => rs_base
  rcases (hR H).pf hw with ⟨_, h1, _⟩ | ⟨a, cap, hv, hle2, _⟩
  · omega
  · subst hv
    refine ⟨by omega, by omega, ?_⟩
    have : PtB B (.pointer (some (a.add (((i : Nat) : Int).toNat * sz)))) 0 (enc x) := ⟨fun H' => by
      refine ⟨a.add (i * sz), by rw [Int.toNat_natCast, addAdd, Nat.add_zero], fun {w'} hw' j hj => ?_⟩
      rcases (hR H').pf hw' with ⟨h0, _, _⟩ | ⟨a', cap', hv', _, hc⟩
      · cases h0
      · cases hv'
        rw [hE.len] at hj
        rw [addAdd, hc (i * sz + j) (by omega)]
        have h2 : ((l.flatMap enc).drop (i * sz))[j]? = (enc x)[j]? := by rw [hr, List.getElem?_append_left (by rw [hE.len]; omega)]
        rw [← h2, List.getElem?_drop]⟩
    exact h _ w hw
theorem E_ptfadB {p : Value} {o off : Nat} {cs : List Value} [hp : PtB B p o cs] (h : ∀ q [PtB B q (o + off) cs], E B H (K q)) : E B H (S.fad p off K) := by
  obtain ⟨a, rfl, _⟩ := (hp.pf []).pf
  have : PtB B (.pointer (some (a.add (o + off)))) (o + off) cs := ⟨fun H' => by
    obtain ⟨a', e, hr⟩ := (hp.pf H').pf
    refine ⟨a', ?_, hr⟩
    have e' : a.add o = a'.add o := by simpa using e
    rw [← addAdd, e', addAdd]⟩
  have := h (.pointer (some (a.add (o + off))))
  intro w hw
  show K (.pointer (some ((a.add o).add off))) w
  rw [addAdd]; exact this w hw
theorem E_ptfadB0 {p : Value} {off : Nat} {cs : List Value} [hp : PtB B p 0 cs] (h : ∀ q [PtB B q off cs], E B H (K q)) : E B H (S.fad p off K) := E_ptfadB (o := 0) (by rw [Nat.zero_add]; exact h)
end Go.SL
namespace Go.Proofs.YtabpaknfenpkoaaGreat.Mod
open Go Go.SL Go.Proofs Go.Proofs.YtabpaknfenpkoaaGreat.Sh
attribute [local irreducible] S.pick S.ld S.ldN S.st S.box S.nc S.fad S.ixS S.ixA S.chr S.prt S.ext S.bin S.sh S.sbin S.beq S.neg1 S.com1 S.not1 S.cvt S.str1 S.lenS S.len S.cap S.lenM S.mx S.mn S.mkM S.cond S.gd S.fa S.dr S.rck S.join S.loop S.cvv S.eqv S.slc S.slcS S.b2s S.lk V U CF Gives E cel mpb osl ros dct dit itr lpo dfo
set_option maxRecDepth 4000
attribute [local irreducible] mo ansH rmo
variable {B : World} {H : List Asrt} {K : Value → WT} {W : WT}
variable {a b : Nat} {M N : Mo} {n m : Int}
theorem bytes_nil {s : List UInt8} {g : Int} (h : ∀ bv [CellI bv], E B (sls cB 5 1 bv [] :: H) (K (.tuple #[bv, I 1]))) : E B H (CF Tryz.prog 8 [.pointer none, str s, I g] K) := by
  refine E_mono (W := s8 _ _ _ K) ?_ fun _ => c8
  unfold s8
  refine E_build (l := [I 5, I 0, str s, .string ⟨#[]⟩, I g, I 0, I 0, nil, I 0, I 0, I 0, I 0, nil, I 0, I 0]) str_op ?_
  refine do_nil (o := odOf 5 s [] g) (sp := false) (bv := nil) (kv := nil) (t := 0) (u := 0) fun rv => ?_
  refine ans_open fun b' h' _ _ e => ?_
  subst e
  (repeat first | refine gS ?_ | refine gA fun _ => ?_ | refine gX fun _ _ => ?_ | refine gT ?_ | refine gF ?_ | refine gI ?_)
  exact sm (G := sls cB 5 1 b' (errA 1).bytes :: H) (h b')
theorem shot_nil {s t : List UInt8} (h : ∀ bv [CellI bv], E B (sls cB 5 1 bv [] :: H) (K (.tuple #[bv, I 1]))) : E B H (CF Tryz.prog 10 [.pointer none, str t, str s] K) := by
  refine E_mono (W := s10 _ _ _ K) ?_ fun _ => c10
  unfold s10
  refine E_build (l := [I 7, I 0, str s, str t, I 0, I 0, I 0, nil, I 0, I 0, I 0, I 0, nil, I 0, I 0]) str_op ?_
  refine do_nil (o := odOf 7 s t 0) (sp := false) (bv := nil) (kv := nil) (t := 0) (u := 0) fun rv => ?_
  refine ans_open fun b' h' _ _ e => ?_
  subst e
  (repeat first | refine gS ?_ | refine gA fun _ => ?_ | refine gX fun _ _ => ?_ | refine gT ?_ | refine gF ?_ | refine gI ?_)
  exact sm (G := sls cB 5 1 b' (errA 1).bytes :: H) (h b')
theorem fall_nil (h : E B H (K (.tuple #[]))) : E B H (CF Tryz.prog 13 [.pointer none] K) := by
  refine E_mono (W := s13 _ K) ?_ fun _ => c13
  unfold s13
  refine E_pne0 u_pModel ?_
  refine E_ff ?_
  exact h
theorem runM_inv (h : Inv n M) (hs : HSrt M) (hn : 0 ≤ n) (l : List Sp) : ∀ k : Nat, k ≤ l.length → n + k ≤ 999990 → Inv (n + k) (runM M (l.take k)) ∧ HSrt (runM M (l.take k)) := by
  intro k
  induction k with
  | zero => intro _ _; exact ⟨h.mono (by simp), hs⟩
  | succ k ih =>
    intro hk hb
    obtain ⟨i1, i2⟩ := ih (by omega) (by omega)
    have hx : l[k]? = some l[k] := List.getElem?_eq_getElem (by omega)
    rw [List.take_add_one, hx]
    show Inv _ (runM M (l.take k ++ [l[k]])) ∧ HSrt (runM M (l.take k ++ [l[k]]))
    rw [runM_snoc]
    refine ⟨(inv_stepO i1 (by omega) (by omega) _).mono (by omega), ?_⟩
    unfold stepO
    split
    · exact i2
    · exact hsrt_step i2 i1.w
theorem modelForks {q : Int} {v v4 : Value} {ss ms : List Sp} [hv : BaseS B v stC ss] [CellI v] [hv4 : BaseS B v4 stC ms] [CellI v4] (hok : ∀ s ∈ ss, SpOk B s) (hok4 : ∀ s ∈ ms, SpOk B s) (hq : q ≤ 9223372036854775807)
    (hl : ss.length ≤ 140737488355328) (hl4 : ms.length ≤ 140737488355328) (h : E B H (K (.bool true))) : E B H (CF Tryz.prog 6 [I q, v, v4] K) := by
  refine E_mono (W := s6 _ _ _ K) ?_ fun _ => c6
  unfold s6
  refine playF (ss := ss) hok hq hl fun a r => ?_
  have hinv := run_inv (q := q) (ss := ss) hq
  have hsrt := run_hsrt (q := q) (ss := ss) hq
  generalize runM (newM q) (ss.take 120) = M at hinv hsrt ⊢
  (repeat first | refine gS ?_ | refine gA fun _ => ?_ | refine gX fun _ _ => ?_ | refine gT ?_ | refine gF ?_ | refine gI ?_)
  refine forkF fun c => ?_
  refine fd (a := rmo r M) (rfork fun rc => ?_)
  refine E_loop (n := 6) (σ := Nat) (fun i => i ≤ ms.length ∧ i ≤ 60) (fun i => [v4, ptr a, ptr r, ptr c, ptr rc, I i]) (fun i => mo c (runM M (ms.take i)) :: rmo rc (runM M (ms.take i)) :: mo a M :: rmo r M :: H) (fun i => 60 - i) 0 (fun _ => rfl) rfl ⟨Nat.zero_le _, Nat.zero_le _⟩
    (fun W hW => by
      have hW' : E B (mo c M :: rmo rc M :: mo a M :: rmo r M :: H) W := hW
      exact sm hW') ?_
  rintro i K0 ⟨hi, hi2⟩ hk
  obtain ⟨hi1, hs1⟩ := runM_inv hinv hsrt (by decide) ms i hi (by omega)
  refine E_fa fun _ => ?_
  refine E_join1 [v4, ptr a, ptr r, ptr c, ptr rc, I i, .bool (decide (i < ms.length ∧ i < 60))] (mo c (runM M (ms.take i)) :: rmo rc (runM M (ms.take i)) :: mo a M :: rmo r M :: H) (fun q' hq' => ?_) ?_
  · have fin : ∀ b : Bool, decide (i < ms.length ∧ i < 60) = b → E B (mo c (runM M (ms.take i)) :: rmo rc (runM M (ms.take i)) :: mo a M :: rmo r M :: H) (app 7 q' [v4, ptr a, ptr r, ptr c, ptr rc, I i, .bool b]) := fun b hb => hb ▸ hq'
    refine E_rslen (v := v4) (l := ms) ?_
    refine E_lss ?_
    by_cases h0 : (i : Int) < (ms.length : Int)
    · (repeat first | refine gS ?_ | refine gA fun _ => ?_ | refine gX fun _ _ => ?_ | refine gT ?_ | refine gF ?_ | refine gI ?_)
      refine fin _ ?_
      rw [decide_eq_decide]; omega
    · (repeat first | refine gS ?_ | refine gA fun _ => ?_ | refine gX fun _ _ => ?_ | refine gT ?_ | refine gF ?_ | refine gI ?_)
      exact fin false (decide_eq_false (by omega))
  refine E_fa fun _ => ?_
  refine E_if (fun hc => ?_) (fun hc => ?_)
  · have hs : ms[i]? = some ms[i] := List.getElem?_eq_getElem (by omega)
    generalize ms[i] = s at hs
    have hsok := hok4 s (List.mem_of_getElem? hs)
    have hrd := hsok.rd
    have hstep : runM M (ms.take (i + 1)) = stepO (runM M (ms.take i)) s := by
      rw [List.take_add_one, hs]; exact runM_snoc _ _ _
    have hk' := hk (i + 1) ⟨by omega, by omega⟩ (by omega)
    rw [hstep] at hk'
    generalize runM M (ms.take i) = M2 at hi1 hs1 hk' ⊢
    have hhh : ∀ s' ∈ M2.S, s'.held.length ≤ 1000000 := fun s' hs' => Nat.le_trans (hi1.hh s' hs') (by omega)
    have hal := ans_len (o := s.o) (sp := s.sp) hi1 hsok.by_
    refine E_join1 [v4, ptr a, ptr r, ptr c, ptr rc, I i, .bool false] (mo c (stepO M2 s) :: rmo rc (stepO M2 s) :: mo a M :: rmo r M :: H) (fun k hk2 => ?_) ?_
    · refine E_dr ?_
      refine E_rsix (v := v4) (l := ms) hs fun _ _ => ?_
      refine E_ptfad0 fun _ _ => ?_
      refine E_ptfad0 fun _ _ => ?_
      refine E_ptld ?_
      refine E_rslen (v := s.bv.1) (l := s.o.bytes) ?_
      refine E_leq ?_
      by_cases h9 : (s.o.bytes.length : Int) ≤ 9000
      · have e : stepO M2 s = (stepM M2 s.o s.sp).2 := if_neg (by omega)
        rw [e] at hk2
        refine E_gdT h9 ?_
        refine E_gdT h9 ?_
        refine E_gdT h9 ?_
        refine E_gdT h9 ?_
        refine E_rsixB (v := v4) (l := ms) hs fun _ _ => ?_
        refine E_gdT h9 ?_
        refine E_ptfadB0 fun _ _ => ?_
        refine E_gdT h9 ?_
        refine E_ptldN (st_op s) rfl ?_
        refine E_gdT h9 ?_
        refine E_gdT h9 ?_
        refine E_gdT h9 ?_
        refine E_rsixB (v := v4) (l := ms) hs fun _ _ => ?_
        refine E_gdT h9 ?_
        refine E_ptfadB0 fun _ _ => ?_
        refine E_gdT h9 ?_
        refine E_ptld ?_
        refine E_gdT h9 ?_
        refine E_gdT h9 ?_
        refine E_gdT h9 ?_
        refine E_gdT h9 ?_
        refine E_rsixB (v := v4) (l := ms) hs fun _ _ => ?_
        refine E_gdT h9 ?_
        refine E_ptfadB0 fun _ _ => ?_
        refine E_gdT h9 ?_
        refine E_ptldN (st_op s) rfl ?_
        refine E_gdT h9 ?_
        refine E_gdT h9 ?_
        refine E_gdT h9 ?_
        refine E_rsixB (v := v4) (l := ms) hs fun _ _ => ?_
        refine E_gdT h9 ?_
        refine E_ptfadB0 fun _ _ => ?_
        refine E_gdT h9 ?_
        refine E_ptld ?_
        refine E_gdT h9 ?_
        refine fd (a := mo c M2) ?_
        refine do_ (o := s.o) (sp := s.sp) (bv := s.bv.1) (kv := s.kv.1) (t := s.t) (u := s.u) hi1.w hi1.sw hsok.nm hsok.sh hsok.by_ fun rv => ?_
        refine ans_open fun b1 h1 _ _ e => ?_
        subst e
        refine E_rck1 (E_gdT h9 (E_ptld (E_fact rfl))) ?_
        refine E_rck1 (E_gdT h9 (E_ptldN (st_op s) rfl (E_fact rfl))) ?_
        refine E_rck0 ?_
        refine E_gdT h9 ?_
        refine fd (a := rmo rc M2) ?_
        refine rdo (bv := s.bv.1) (kv := s.kv.1) (t := s.t) (u := s.u) hi1.w hsok.nm hsok.sh hsok.by_ hi1.nl hi1.fl hi1.s16 hhh fun rv => ?_
        refine ans_open fun b2 h2 _ _ e => ?_
        subst e
        refine E_gdT h9 ?_
        refine sameAns (A := (stepM M2 s.o s.sp).1) (C := (stepM M2 s.o s.sp).1) (by omega) ?_
        rw [decide_eq_true rfl]
        (repeat first | refine gS ?_ | refine gA fun _ => ?_ | refine gX fun _ _ => ?_ | refine gT ?_ | refine gF ?_ | refine gI ?_)
        exact sm hk2
      · have e : stepO M2 s = M2 := if_pos (by omega)
        rw [e] at hk2
        (repeat first | refine gS ?_ | refine gA fun _ => ?_ | refine gX fun _ _ => ?_ | refine gT ?_ | refine gF ?_ | refine gI ?_)
        refine E_rck1 (E_gdF h9 (E_fact rfl)) ?_
        refine E_rck1 (E_gdF h9 (E_fact rfl)) ?_
        (repeat first | refine gS ?_ | refine gA fun _ => ?_ | refine gX fun _ _ => ?_ | refine gT ?_ | refine gF ?_ | refine gI ?_)
        exact sm hk2
    refine E_fa fun _ => ?_
    refine E_ff ?_
    refine E_addI (by omega) (by omega) ?_
    exact hk'
  generalize runM M (ms.take i) = M2 at hi1 hs1 ⊢
  have hhh : ∀ s' ∈ M.S, s'.held.length ≤ 1000000 := fun s' hs' => Nat.le_trans (hinv.hh s' hs') (by omega)
  have hnl := Nat.le_trans (names_len M.V) hinv.nl
  refine bytes_nil (s := [97]) fun b1 _ => ?_
  (repeat first | refine gS ?_ | refine gA fun _ => ?_ | refine gX fun _ _ => ?_ | refine gT ?_ | refine gF ?_ | refine gI ?_)
  refine shot_nil (s := [97]) (t := [97]) fun b2 _ => ?_
  (repeat first | refine gS ?_ | refine gA fun _ => ?_ | refine gX fun _ _ => ?_ | refine gT ?_ | refine gF ?_ | refine gI ?_)
  refine fall_nil ?_
  refine liveF ?_
  (repeat first | refine gS ?_ | refine gA fun _ => ?_ | refine gX fun _ _ => ?_ | refine gT ?_ | refine gF ?_ | refine gI ?_)
  refine sm (G := mo a M :: mo c M2 :: rmo rc M2 :: rmo r M :: H) ?_
  refine same2 hinv.w hi1.w hinv.fl hsrt hs1 ?_
  (repeat first | refine gS ?_ | refine gA fun _ => ?_ | refine gX fun _ _ => ?_ | refine gT ?_ | refine gF ?_ | refine gI ?_)
  refine sm (G := rmo r M :: rmo rc M2 :: mo a M :: mo c M2 :: H) ?_
  refine rsame2 hinv.w.n (Nat.le_trans hinv.s16 (by decide)) hhh ?_
  (repeat first | refine gS ?_ | refine gA fun _ => ?_ | refine gX fun _ _ => ?_ | refine gT ?_ | refine gF ?_ | refine gI ?_)
  refine E_beqS ?_
  (repeat first | refine gS ?_ | refine gA fun _ => ?_ | refine gX fun _ _ => ?_ | refine gT ?_ | refine gF ?_ | refine gI ?_)
  refine sm (G := mo c M2 :: mo a M :: rmo r M :: H) ?_
  refine same2 hi1.w hinv.w hi1.fl hs1 hsrt ?_
  (repeat first | refine gS ?_ | refine gA fun _ => ?_ | refine gX fun _ _ => ?_ | refine gT ?_ | refine gF ?_ | refine gI ?_)
  refine sm (G := mo a M :: mo c M2 :: rmo r M :: H) ?_
  refine same2 hinv.w hi1.w hinv.fl hsrt hs1 ?_
  (repeat first | refine gS ?_ | refine gA fun _ => ?_ | refine gX fun _ _ => ?_ | refine gT ?_ | refine gF ?_ | refine gI ?_)
  rw [show decide (M2.now = M.now ∧ M2.V = M.V ∧ M2.S = M.S) = decide (M.now = M2.now ∧ M.V = M2.V ∧ M.S = M2.S) by rw [decide_eq_decide, eq_comm (a := M2.now), eq_comm (a := M2.V), eq_comm (a := M2.S)]]
  refine E_beqS ?_
  (repeat first | refine gS ?_ | refine gA fun _ => ?_ | refine gX fun _ _ => ?_ | refine gT ?_ | refine gF ?_ | refine gI ?_)
  refine names hinv.w fun v1 _ => ?_
  (repeat first | refine gS ?_ | refine gA fun _ => ?_ | refine gX fun _ _ => ?_ | refine gT ?_ | refine gF ?_ | refine gI ?_)
  refine fd (a := rmo r M) (rnames hinv.w fun v2 _ => ?_)
  (repeat first | refine gS ?_ | refine gA fun _ => ?_ | refine gX fun _ _ => ?_ | refine gT ?_ | refine gF ?_ | refine gI ?_)
  refine sameHeld (l1 := namesV M.V) (l2 := namesV M.V) (by omega) ?_
  rw [decide_eq_true rfl]
  (repeat first | refine gS ?_ | refine gA fun _ => ?_ | refine gX fun _ _ => ?_ | refine gT ?_ | refine gF ?_ | refine gI ?_)
  refine E_build (l := [I 9, I 0, .string ⟨#[]⟩, .string ⟨#[]⟩, I 0, I 0, I 0, nil, I 0, I 0, I 0, I 0, nil, I 0, I 0]) str_op ?_
  (repeat first | refine gS ?_ | refine gA fun _ => ?_ | refine gX fun _ _ => ?_ | refine gT ?_ | refine gF ?_ | refine gI ?_)
  refine do_nil (o := odOf 9 [] [] 0) (sp := false) (bv := nil) (kv := nil) (t := 0) (u := 0) fun rv => ?_
  refine ans_open fun b3 h3 _ _ e => ?_
  subst e
  (repeat first | refine gS ?_ | refine gA fun _ => ?_ | refine gX fun _ _ => ?_ | refine gT ?_ | refine gF ?_ | refine gI ?_)
  refine same_nil1 _ ?_
  (repeat first | refine gS ?_ | refine gA fun _ => ?_ | refine gX fun _ _ => ?_ | refine gT ?_ | refine gF ?_ | refine gI ?_)
  refine same_nil2 ?_
  (repeat first | refine gS ?_ | refine gA fun _ => ?_ | refine gX fun _ _ => ?_ | refine gT ?_ | refine gF ?_ | refine gI ?_)
  refine names_nil ?_
  (repeat first | refine gS ?_ | refine gA fun _ => ?_ | refine gX fun _ _ => ?_ | refine gT ?_ | refine gF ?_ | refine gI ?_)
  refine sessions_nil ?_
  (repeat first | refine gS ?_ | refine gA fun _ => ?_ | refine gX fun _ _ => ?_ | refine gT ?_ | refine gF ?_ | refine gI ?_)
  refine fork_nil ?_
  (repeat first | refine gS ?_ | refine gA fun _ => ?_ | refine gX fun _ _ => ?_ | refine gT ?_ | refine gF ?_ | refine gI ?_)
  refine E_peq0 u_pModel ?_
  (repeat first | refine gS ?_ | refine gA fun _ => ?_ | refine gX fun _ _ => ?_ | refine gT ?_ | refine gF ?_ | refine gI ?_)
  exact sm h
end Go.Proofs.YtabpaknfenpkoaaGreat.Mod
