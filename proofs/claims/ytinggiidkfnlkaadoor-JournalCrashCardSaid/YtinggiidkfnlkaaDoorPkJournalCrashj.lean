/-
  Part 10: JnU, JnV, JnW, JnX, RowBaseK.
-/
import Derived.Test.YtinggiidkfnlkaaDoorPkJournalCrashh
import Derived.Test.YtinggiidkfnlkaaDoorPkJournalCrashi
set_option linter.unusedSimpArgs false
set_option linter.unusedVariables false
set_option linter.unusedSectionVars false
section
namespace Go.Proofs.YtinggiidkfnlkaaDoor.Jn
open Go.Proofs.YtinggiidkfnlkaaDoor.Oct Go.Proofs.YtinggiidkfnlkaaDoor.Disk Go.Proofs.YtinggiidkfnlkaaDoor.Slot
theorem rd_now {D : Dk} {i : Nat} {s : Sec} (hd : D.down = false) (h : D.S[i]? = some s) : D.rd (i : Int) = s.now := by
  have hi := (List.getElem?_eq_some_iff.1 h).1
  have hno : ¬ D.out (i : Int) := by unfold Dk.out; omega
  have hp : D.pow (i : Int) = 0 := by
    unfold Dk.pow
    rw [hd, if_neg (by decide), if_neg hno]
  unfold Dk.rd
  rw [hp, if_neg (by simp), Int.toNat_natCast, h]
variable {n N m a e : Nat} {D : Dk}
theorem Bse.fr (h : Bse nL n D N m a e) (hd : D.down = false) : frN n D e ≤ N ∧ e ≤ frN n D e ∧ ∀ (i : Nat) (s : Sec), 2 ≤ i → D.S[i]? = some s → tl 6 s.now ≤ frN n D e := by
  have hlen := h.len
  have hN := h.N1
  have hs : ∀ i, 2 ≤ i → i < 2 + 2 * n → Jn.hd 6 (D.rd (i : Int)) ≤ N ∧ tl 6 (D.rd (i : Int)) ≤ N := fun i h1 h2 => by
    have hi : D.S[i]? = some D.S[i] := List.getElem?_eq_getElem (by omega)
    rw [rd_now hd hi]
    have := ((h.fine i _ h1 hi).now.1).le (by decide) (by omega)
    exact ⟨this.2, this.1⟩
  have h1 : frT D 2 n e ≤ N := frT_max h.eN fun i hi => hs (2 + i) (by omega) (by omega)
  have h2 : frN n D e ≤ N := by
    unfold frN
    exact frT_max h1 fun i hi => hs (2 + n + i) (by omega) (by omega)
  refine ⟨h2, Nat.le_trans frT_le frT_le, fun i s hi hsi => ?_⟩
  have hil := (List.getElem?_eq_some_iff.1 hsi).1
  rw [← rd_now hd hsi]
  unfold frN
  by_cases hlt : i < 2 + n
  · obtain ⟨k, rfl⟩ : ∃ k, i = 2 + k := ⟨i - 2, by omega⟩
    exact Nat.le_trans (frT_at (D := D) (A := 2) (t := e) (show k < n by omega)) frT_le
  · obtain ⟨k, rfl⟩ : ∃ k, i = 2 + n + k := ⟨i - (2 + n), by omega⟩
    exact frT_at (D := D) (A := 2 + n) (show k < n by omega)
theorem Up.tell {all : List (List UInt8)} {sure : Nat} (h : Up nL n D N m a e all sure) : Tell (secs D n a) e (Begin all sure) := by
  have hl := secs_len (n := n) (a := a) h.bse.len h.bse.a1
  have := Act.tell (part := []) (all := all) (sure := sure) (by rw [List.append_nil]; exact h.act) h.bse.secs_fs h.bse.N1 h.bse.eN (.inl rfl) h.ok (by rw [List.append_nil, hl]; exact h.le) h.su
  exact this
theorem ren_bse {R : List (List UInt8) → Prop} {recs : List (List UInt8)} {J : Jl} (h : Bse nL n D N m a e) (hd : D.down = false) (htr : 0 ≤ D.trip) (ht : Tell (secs D n a) e R) (hR : Good n R) (hN : N + 1 < 250) (hm : m + 1 < 249)
    (j1 : J.n = n) (j2 : J.a = a) (j3 : J.e = e) (j4 : J.life = D.life) :
    (wrs recs ≠ 0 ∧ renR D J recs = (D, J, wrs recs)) ∨ (wrs recs = 0 ∧ n < tot recs ∧ renR D J recs = (D, J, 8)) ∨
    (wrs recs = 0 ∧ tot recs ≤ n ∧ ((∃ D' e', renR D J recs = (D', Jl.of n (1 - a) e' recs D.life, 0) ∧ D'.life = D.life ∧ Up nL n D' (N + 1) (m + 1) (1 - a) e' recs recs.length) ∨
      (D.trip ≠ 0 ∧ ∃ D', renR D J recs = (D', J, 7) ∧ D'.life = D.life ∧ D'.down = true ∧ Dead nL n D' (N + 1) (m + 1) fun r => R r ∨ r = recs))) := by
  subst j1 j2 j3
  have ho := off_up hd
  have e0 : renR D J recs = if wrs recs ≠ 0 then (D, J, wrs recs) else if J.n < tot recs then (D, J, 8) else
      if (renW D J recs).2 ≠ 0 then ((renW D J recs).1, J, (renW D J recs).2) else if (renW D J recs).1.flE ≠ 0 then ((renW D J recs).1.fl, J, (renW D J recs).1.flE) else
      if setE (renW D J recs).1.fl 0 J.life (cu (1 - J.a) (newE D J) nL) ≠ 0 then (setD (renW D J recs).1.fl 0 J.life (cu (1 - J.a) (newE D J) nL), J, setE (renW D J recs).1.fl 0 J.life (cu (1 - J.a) (newE D J) nL)) else
      (setD (renW D J recs).1.fl 0 J.life (cu (1 - J.a) (newE D J) nL), { J with a := 1 - J.a, e := newE D J, fin := tot recs, recs := recs, ok := true }, 0) := by
    unfold renR
    rw [if_neg (by rw [j4, ho]; simp)]
  rw [e0]
  by_cases h1 : wrs recs ≠ 0
  · exact .inl ⟨h1, by rw [if_pos h1]⟩
  rw [if_neg h1]
  have h1' : wrs recs = 0 := by simpa using h1
  by_cases h2 : J.n < tot recs
  · exact .inr (.inl ⟨h1', h2, by rw [if_pos h2]⟩)
  rw [if_neg h2]
  refine .inr (.inr ⟨h1', by omega, ?_⟩)
  obtain ⟨f1, f2, f3⟩ := h.fr hd
  have hw := renew_out (e' := newE D J) (recs := recs) h hd htr ht hR (wrs_ok h1') (show tot recs ≤ J.n by omega) (show 1 ≤ frN J.n D J.e + 1 by omega) (show frN J.n D J.e + 1 ≤ N + 1 by omega) hN hm (by have := nL_len (newE D J); omega) (fun i s hi hs => by have := f3 i s hi hs; unfold newE; omega)
  have hJ : ({ J with a := 1 - J.a, e := newE D J, fin := tot recs, recs := recs, ok := true } : Jl) = Jl.of J.n (1 - J.a) (newE D J) recs D.life := by unfold Jl.of; rw [← j4]
  rw [show wrL (newE D J) (ar J.n (1 - J.a)) D 0 (allL recs) = renW D J recs from rfl] at hw
  obtain ⟨w1, w2, w3⟩ := hw
  rw [hJ, j4]
  cases w2 with
  | wr g1 g2 g3 => exact .inr ⟨fun hz => by have := (w3 hz).1; omega, _, by rw [if_pos (by rw [g1]; decide), g1], w1, g2, g3.mono fun r hr => .inl hr⟩
  | fl g1 g0 g2 g3 g4 => exact .inr ⟨fun hz => by have := (w3 hz).2.1; omega, _, by rw [if_neg (by rw [g1]; simp), if_pos (by rw [g0]; decide), g0], g4, g2, g3.mono fun r hr => .inl hr⟩
  | set g1 g0 g4 g5 g6 g2 g3 g7 => exact .inr ⟨fun hz => by have := (w3 hz).2.2; omega, _, by rw [if_neg (by rw [g1]; simp), if_neg (by rw [g0]; simp), if_pos (by rw [g6]; decide), g6], g7, g2, g3⟩
  | ok g1 g0 g4 g5 g6 g3 g7 => exact .inl ⟨_, newE D J, by rw [if_neg (by rw [g1]; simp), if_neg (by rw [g0]; simp), if_neg (by rw [g6]; simp)], g7, g3⟩
inductive Liv (D : Dk) (J : Jl) (all half : List (List UInt8)) (sure : Nat) (br : Bool) (N m : Nat) : Prop
  | up (a e : Nat) (hJ : J = Jl.of 40 a e all D.life) (hu : Up nL 40 D N m a e all sure) (hb : br = false)
  | dn (hd : D.down = true) (hl : J.life = D.life) (hJ : JOk J) (hn : J.n = 40) (hok : J.ok = true) (hS : D.S.length = 2 + 2 * 40) (hD : Dead nL 40 D N m fun r => Begin all sure r ∨ (br = true ∧ r = half)) (ha : all.length ≤ 40) (hs : sure ≤ all.length)
variable {J : Jl} {all half : List (List UInt8)} {sure : Nat} {br : Bool}
theorem Dead.grow {R : List (List UInt8) → Prop} {N' m' : Nat} (h : Dead nL n D N m R) (hN : N ≤ N') (hN2 : N' < 250) (hm : m ≤ m') (hm2 : m' < 250) : Dead nL n D N' m' R := fun c => by
  obtain ⟨Bs, l, h1, h2, a, e, r, h3, h4⟩ := h c
  exact ⟨Bs, l, h1, h2, a, e, r, ⟨h3.bse.mono hN hN2 hm hm2, h3.rd, h3.fin, h3.ok, h3.le⟩, h4⟩
theorem Up.grow {N' m' : Nat} (h : Up nL n D N m a e all sure) (hN : N ≤ N') (hN2 : N' < 250) (hm : m ≤ m') (hm2 : m' < 250) : Up nL n D N' m' a e all sure :=
  ⟨h.bse.mono hN hN2 hm hm2, h.dn, h.tr, h.act, h.ok, h.le, h.su⟩
theorem Liv.grow {N' m' : Nat} (h : Liv D J all half sure br N m) (hN : N ≤ N') (hN2 : N' < 250) (hm : m ≤ m') (hm2 : m' < 250) : Liv D J all half sure br N' m' := by
  cases h with
  | up a e hJ hu hb => exact .up a e hJ (hu.grow hN hN2 hm hm2) hb
  | dn hd hl hJ hn hok hS hD ha hs => exact .dn hd hl hJ hn hok hS (hD.grow hN hN2 hm hm2) ha hs
theorem Liv.jok (h : Liv D J all half sure br N m) : JOk J ∧ J.n = 40 ∧ J.life = D.life ∧ D.S.length = 2 + 2 * 40 ∧ all.length ≤ 40 ∧ sure ≤ all.length ∧ J.ok = true := by
  cases h with
  | up a e hJ hu hb =>
    subst hJ
    have h1 := recs_len hu.ok
    have h2 := hu.le
    exact ⟨hu.jok (by decide), rfl, rfl, hu.bse.len, by unfold tot at h1; omega, hu.su, rfl⟩
  | dn hd hl hJ hn hok hS hD ha hs => exact ⟨hJ, hn, hl, hS, ha, hs, hok⟩
theorem Liv.dead (h : Liv D J all half sure br N m) : Dead nL 40 D N m fun r => Begin all sure r ∨ (br = true ∧ r = half) := by
  cases h with
  | up a e hJ hu hb => exact hu.dead.mono fun r hr => .inl hr
  | dn hd hl hJ hn hok hS hD ha hs => exact hD
theorem off_dn (hd : D.down = true) (hl : J.life = D.life) : offE D J.life = 7 := by unfold offE; rw [hl, hd]; simp
theorem Dead.len {R : List (List UInt8) → Prop} (h : Dead nL n D N m R) : D.S.length = 2 + 2 * n := by
  obtain ⟨Bs, l, c1, c2, a', e', r', o1, _⟩ := h lost
  obtain ⟨Bs2, l2, c3, _, c5, _⟩ := crash_cl2 D lost
  rw [c3] at c1
  have := o1.bse.len
  have hb2 : Bs2.length = Bs.length := by
    have := congrArg (fun d : Dk => d.S.length) c1
    simpa [cl] using this
  unfold cl at this
  simp only [List.length_map] at this
  omega
theorem Liv.append {r : List UInt8} (h : Liv D J all half sure br N m) : ((appR D J r).2.2 = 0 ∧ Liv (appR D J r).1 (appR D J r).2.1 (all ++ [r]) half sure br N m) ∨
    (((appR D J r).2.2 = 8 ∨ (appR D J r).2.2 = 2 ∨ (appR D J r).2.2 = 6 ∨ (appR D J r).2.2 = 7) ∧ Liv (appR D J r).1 (appR D J r).2.1 all half sure br N m) := by
  have hj := h.jok
  cases h with
  | dn hd hl hJ hn hok hS hD ha hs =>
    have ho := off_dn hd hl
    have e1 : appR D J r = (D, J, 7) := by unfold appR; rw [if_pos (by rw [ho]; decide), ho]
    rw [e1]
    exact .inr ⟨.inr (.inr (.inr rfl)), .dn hd hl hJ hn hok hS hD ha hs⟩
  | up a e hJ hu hb =>
    subst hJ
    rcases app_up (r := r) hu with ⟨h1, e1⟩ | ⟨h1, h2, e1⟩ | ⟨h1, h2, ⟨D', e1, l1, u1⟩ | ⟨_, D', e1, l1, d1, u1⟩⟩
    · rw [e1]
      refine .inr ⟨?_, .up a e rfl hu hb⟩
      unfold wr1 at h1 ⊢
      simp only
      split
      · exact .inr (.inl rfl)
      · rename_i h3
        rw [if_neg h3] at h1
        split
        · exact .inr (.inr (.inl rfl))
        · rename_i h4; rw [if_neg h4] at h1; exact absurd rfl h1
    · rw [e1]
      exact .inr ⟨.inl rfl, .up a e rfl hu hb⟩
    · rw [e1]
      refine .inl ⟨rfl, .up a e ?_ u1 hb⟩
      rw [l1]
    · rw [e1]
      obtain ⟨g1, g2, g3, g4, g5, g6, g7⟩ := hj
      have hS := u1.len
      exact .inr ⟨.inr (.inr (.inr rfl)), .dn d1 l1.symm g1 g2 g7 hS (u1.mono fun r hr => .inl hr) g5 g6⟩
theorem Liv.flush (h : Liv D J all half sure br N m) : ((flR D J).2 = 0 ∧ Liv (flR D J).1 J all half all.length br N m) ∨ ((flR D J).2 ≠ 0 ∧ Liv (flR D J).1 J all half sure br N m) := by
  have hj := h.jok
  cases h with
  | dn hd hl hJ hn hok hS hD ha hs =>
    have ho := off_dn hd hl
    have e1 : flR D J = (D, 7) := by
      unfold flR
      rw [if_pos (.inr ho)]
      unfold Dk.fl Dk.flE
      rw [if_pos hd, if_pos hd]
    rw [e1]
    exact .inr ⟨by simp, .dn hd hl hJ hn hok hS hD ha hs⟩
  | up a e hJ hu hb =>
    subst hJ
    have ho := off_up hu.dn
    have e1 : flR D (Jl.of 40 a e all D.life) = (D.fl, D.flE) := by
      unfold flR
      rw [if_pos (.inl ho)]
    rw [e1]
    rcases hu.flush with ⟨f1, f2, f3⟩ | ⟨f1, f2, f3, f4⟩
    · exact .inl ⟨f1, .up a e (by rw [f3]) f2 hb⟩
    · obtain ⟨g1, g2, g3, g4, g5, g6, g7⟩ := hj
      refine .inr ⟨by simp only; rw [f1]; simp, .dn f2 f4.symm g1 g2 g7 f3.len (f3.mono fun r hr => .inl hr) g5 g6⟩
theorem Liv.renew {recs : List (List UInt8)} (h : Liv D J all half sure br N m) (hN : N + 1 < 250) (hm : m + 1 < 249) : ((renR D J recs).2.2 = 0 ∧ Liv (renR D J recs).1 (renR D J recs).2.1 recs half recs.length br (N + 1) (m + 1)) ∨
    ((renR D J recs).2.2 = 7 ∧ D.down = false ∧ Liv (renR D J recs).1 (renR D J recs).2.1 all recs sure true (N + 1) (m + 1)) ∨
    (((renR D J recs).2.2 = 8 ∨ (renR D J recs).2.2 = 2 ∨ (renR D J recs).2.2 = 6 ∨ ((renR D J recs).2.2 = 7 ∧ D.down = true)) ∧ Liv (renR D J recs).1 (renR D J recs).2.1 all half sure br (N + 1) (m + 1)) := by
  have hj := h.jok
  have hg := h.grow (N' := N + 1) (m' := m + 1) (by omega) hN (by omega) (by omega)
  cases h with
  | dn hd hl hJ hn hok hS hD ha hs =>
    have ho := off_dn hd hl
    have e1 : renR D J recs = (D, J, 7) := by unfold renR; rw [if_pos (by rw [ho]; decide), ho]
    rw [e1]
    exact .inr (.inr ⟨.inr (.inr (.inr ⟨rfl, hd⟩)), hg⟩)
  | up a e hJ hu hb =>
    subst hJ
    rcases ren_bse (recs := recs) hu.bse hu.dn hu.tr hu.tell (begin_good hu.ok hu.le) hN hm rfl rfl rfl (show (Jl.of 40 a e all D.life).life = D.life from rfl) with ⟨h1, e1⟩ | ⟨h1, h2, e1⟩ | ⟨h1, h2, ⟨D', e', e1, l1, u1⟩ | ⟨_, D', e1, l1, d1, u1⟩⟩
    · rw [e1]
      refine .inr (.inr ⟨?_, hg⟩)
      have hw : ∀ l : List (List UInt8), wrs l ≠ 0 → wrs l = 2 ∨ wrs l = 6 := fun l => by
        induction l with
        | nil => intro h; exact absurd rfl h
        | cons r l ih =>
          intro h
          unfold wrs at h ⊢
          by_cases hr : wr1 r ≠ 0
          · rw [if_pos hr]
            unfold wr1 at hr ⊢
            split
            · exact .inl rfl
            · rename_i h3
              rw [if_neg h3] at hr
              split
              · exact .inr rfl
              · rename_i h4; rw [if_neg h4] at hr; exact absurd rfl hr
          · rw [if_neg hr] at h ⊢
            exact ih h
      rcases hw recs h1 with h | h
      · exact .inr (.inl h)
      · exact .inr (.inr (.inl h))
    · rw [e1]
      exact .inr (.inr ⟨.inl rfl, hg⟩)
    · rw [e1]
      exact .inl ⟨rfl, .up (1 - a) e' (by rw [l1]) u1 hb⟩
    · rw [e1]
      obtain ⟨g1, g2, g3, g4, g5, g6, g7⟩ := hj
      exact .inr (.inl ⟨rfl, hu.dn, .dn d1 l1.symm g1 g2 g7 u1.len (u1.mono fun r hr => hr.elim .inl fun h => .inr ⟨rfl, h⟩) g5 g6⟩)
theorem Liv.trip {t : Int} (h : Liv D J all half sure br N m) : Liv (D.tr t) J all half sure br N m := by
  cases h with
  | dn hd hl hJ hn hok hS hD ha hs =>
    have e1 : D.tr t = D := by unfold Dk.tr; rw [if_pos hd]
    rw [e1]
    exact .dn hd hl hJ hn hok hS hD ha hs
  | up a e hJ hu hb =>
    have hl : (D.tr t).life = D.life := by
      unfold Dk.tr
      split
      · rfl
      · split <;> rfl
    exact .up a e (by rw [hl]; exact hJ) hu.trip hb
def tellB (got all half : List (List UInt8)) (sure : Nat) (br : Bool) : Bool := (br && decide (got = half)) || (decide (sure ≤ got.length) && (decide (got.length ≤ all.length) && decide (got = all.take got.length)))
theorem tell_ok {got : List (List UInt8)} (h : Begin all sure got ∨ (br = true ∧ got = half)) : tellB got all half sure br = true := by
  unfold tellB
  rcases h with ⟨j, h1, h2, rfl⟩ | ⟨rfl, rfl⟩
  · have hl : (all.take j).length = j := by rw [List.length_take]; omega
    rw [hl, decide_eq_true h1, decide_eq_true h2, decide_eq_true rfl]
    simp
  · simp
theorem opn_renew {Bs : List (List UInt8)} {recs : List (List UInt8)} {k l : Int} (ho : Opn nL 40 Bs N m a e recs) (hk : 0 ≤ k) (hN : N + 1 < 250) (hm : m + 1 < 249) :
    (∃ D' e', renR (cl Bs k l) ⟨40, a, e, tot recs, recs, false, l⟩ recs = (D', Jl.of 40 (1 - a) e' recs l, 0) ∧ D'.life = l ∧ Up nL 40 D' (N + 1) (m + 1) (1 - a) e' recs recs.length) ∨
    (k ≠ 0 ∧ ∃ D', renR (cl Bs k l) ⟨40, a, e, tot recs, recs, false, l⟩ recs = (D', ⟨40, a, e, tot recs, recs, false, l⟩, 7) ∧ D'.life = l ∧ D'.down = true ∧ Dead nL 40 D' (N + 1) (m + 1) fun r => r = recs) := by
  have hb : Bse nL 40 (cl Bs k l) N m a e := ho.bse.same rfl
  rcases ren_bse (recs := recs) (J := ⟨40, a, e, tot recs, recs, false, l⟩) hb rfl hk ho.tell ho.good hN hm rfl rfl rfl rfl with ⟨h1, _⟩ | ⟨_, h2, _⟩ | ⟨_, _, h3⟩
  · exact absurd (wrs_of ho.ok) h1
  · have := ho.le
    unfold tot at h2; omega
  · rcases h3 with ⟨D', e', e1, l1, u1⟩ | ⟨ht, D', e1, l1, d1, u1⟩
    · exact .inl ⟨D', e', e1, l1, u1⟩
    · exact .inr ⟨ht, D', e1, l1, d1, u1.mono fun r hr => hr.elim id id⟩
theorem begin_all {all r : List (List UInt8)} (h : Begin all all.length r) : r = all := by
  obtain ⟨j, h1, h2, h3⟩ := h
  rw [h3, show j = all.length by omega, List.take_length]
theorem Opn.jok {Bs : List (List UInt8)} {recs : List (List UInt8)} {l : Int} (ho : Opn nL 40 Bs N m a e recs) : JOk ⟨40, a, e, tot recs, recs, false, l⟩ := by
  have hb := ho.bse
  have h1 := recs_len ho.ok
  have h2 := ho.le
  exact ⟨hb.a1, show 40 ≤ 2000 by decide, h2, by show e ≤ lastE; have := hb.eN; have := hb.N1; unfold lastE; omega, fun r hr => (ho.ok r hr).2, by show recs.length ≤ 2000; unfold tot at h1; omega⟩
end Go.Proofs.YtinggiidkfnlkaaDoor.Jn
end
section
namespace Go.Proofs.YtinggiidkfnlkaaDoor.Jn
open Go Go.SL Go.Proofs Go.Proofs.YtinggiidkfnlkaaDoor.Sh Go.Proofs.YtinggiidkfnlkaaDoor.Oct Go.Proofs.YtinggiidkfnlkaaDoor.Disk Go.Proofs.YtinggiidkfnlkaaDoor.Slot
variable {B : World} {H : List Asrt} {K : Value → WT} {W : WT}
def rn (B : World) (rp dp lp : Nat) (al half : List (List UInt8)) (sure : Nat) (br : Bool) : Asrt := ex fun x : Cv × Cv => all [cel true rp 35 (rnC dp lp x.1.1 x.2.1 sure br), rows B x.1.1 al, rows B x.2.1 half]
theorem E_rn {rp dp lp sure : Nat} {al half : List (List UInt8)} {br : Bool} (h : ∀ av hv [CellI av] [CellI hv], E B (cel true rp 35 (rnC dp lp av hv sure br) :: rows B av al :: rows B hv half :: H) W) : E B (rn B rp dp lp al half sure br :: H) W := by
  refine E_ex fun x => E_all ?_
  exact @h x.1.1 x.2.1 ⟨x.1.2⟩ ⟨x.2.2⟩
theorem E_rnS {rp dp lp sure : Nat} {al half : List (List UInt8)} {br : Bool} {av hv : Value} [ha : CellI av] [hh : CellI hv] (h : E B (rn B rp dp lp al half sure br :: H) W) : E B (cel true rp 35 (rnC dp lp av hv sure br) :: rows B av al :: rows B hv half :: H) W :=
  E_all' (E_ex' (f := fun x : Cv × Cv => all [cel true rp 35 (rnC dp lp x.1.1 x.2.1 sure br), rows B x.1.1 al, rows B x.2.1 half]) (⟨av, ha.pf⟩, ⟨hv, hh.pf⟩) h)
theorem lens_of {bs : List Bv} {l : List (List UInt8)} (h : bs.map (·.bs) = l) : bs.length = l.length := by rw [← h]; exact (List.length_map _).symm
attribute [local irreducible] S.pick S.ld S.ldN S.st S.box S.nc S.fad S.ixS S.ixA S.chr S.prt S.ext S.bin S.sh S.sbin S.beq S.neg1 S.com1 S.not1 S.cvt S.str1 S.lenS S.len S.cap S.lenM S.mx S.mn S.mkM S.cond S.gd S.fa S.dr S.rck S.join S.loop S.cvv S.eqv S.slc S.slcS S.b2s S.lk V U CF Gives E cel mpb osl ros dct dit itr lpo dfo
attribute [local irreducible] sls disk rows jr rn
set_option maxRecDepth 100000
theorem same {va vb : Value} {a b : List (List UInt8)} (hl : a.length ≤ 1000000) (hr : ∀ r ∈ a, r.length ≤ 9223372036854775807) (h : E B (rows B va a :: rows B vb b :: H) (K (.bool (decide (a = b))))) : E B (rows B va a :: rows B vb b :: H) (CF Tryd.prog 22 [va, vb] K) := by
  refine E_mono (W := s22 _ _ K) ?_ fun _ => c22
  unfold s22
  refine E_rows fun ba La ha => ?_
  refine fd (a := rows B vb b) (E_rows fun bb Lb hb => ?_)
  have la : ba.length = a.length := lens_of ha.e
  have lb : bb.length = b.length := lens_of hb.e
  have fin : ∀ q : Bool, decide (a = b) = q → E B (sls cV 22 1 vb bb :: spool cB Lb :: sls cV 22 1 va ba :: spool cB La :: H) (K (.bool q)) := fun q hq => by
    subst hq
    refine E_rowsS hb ?_
    refine E_same (G := sls cV 22 1 va ba :: spool cB La :: rows B vb b :: H) (by repeat (first | exact Same.refl | (refine Same.cons (by repeat (first | exact Find.here | apply Find.there)) ?_) | (refine Same.drop ?_))) ?_
    exact E_rowsS ha h
  refine E_rslen (v := va) (l := ba) ?_
  refine E_rslen (v := vb) (l := bb) ?_
  refine E_neq ?_
  refine E_if (fun hne => ?_) (fun hne => ?_)
  · exact fin false (decide_eq_false fun e => hne (by rw [la, lb, e]))
  have hlen : a.length = b.length := by omega
  refine E_loop (n := 3) (σ := Nat) (fun i => i ≤ a.length ∧ a.take i = b.take i) (fun i => [va, vb, I i]) (fun _ => sls cV 22 1 vb bb :: spool cB Lb :: sls cV 22 1 va ba :: spool cB La :: H) (fun i => a.length - i) 0 (fun _ => rfl) rfl ⟨Nat.zero_le _, rfl⟩ (fun W hW => hW) ?_
  rintro i K0 ⟨hi, ht⟩ hk
  refine E_fa fun _ => ?_
  refine E_rslen (v := va) (l := ba) ?_
  refine E_lss ?_
  refine E_if (fun hc => ?_) (fun hc => ?_)
  · have hxa : ba[i]? = some ba[i] := List.getElem?_eq_getElem (by omega)
    have hxb : bb[i]? = some bb[i] := List.getElem?_eq_getElem (by omega)
    have hpa := ha.r ba[i] (List.getElem_mem (l := ba) (by omega)) H
    have hpb := hb.r bb[i] (List.getElem_mem (l := bb) (by omega)) (sls cV 22 1 va ba :: spool cB La :: H)
    generalize ba[i] = p at hxa hpa
    generalize bb[i] = q at hxb hpb
    have ma := map_at ha.e hxa
    have mb := map_at hb.e hxb
    have r1 : Rb B (spool cB La :: H) p.v p.bs := hpa
    have r2 : Rb B (spool cB Lb :: sls cV 22 1 va ba :: spool cB La :: H) q.v q.bs := hpb
    refine E_dr ?_
    refine E_rsix (v := va) (l := ba) hxa fun _ _ => ?_
    refine E_ptld ?_
    refine E_b2sR (v := p.v) (bs := p.bs) ?_
    refine E_rsix (v := vb) (l := bb) hxb fun _ _ => ?_
    refine E_ptld ?_
    refine E_b2sR (v := q.v) (bs := q.bs) ?_
    refine E_strne ?_
    refine E_if (fun he => ?_) (fun he => ?_)
    · exact fin false (decide_eq_false fun e => he (by rw [e] at ma; rw [ma] at mb; exact Option.some.inj mb))
    · refine E_addI (by omega) (by omega) ?_
      have hpq : p.bs = q.bs := by simpa using he
      exact hk (i + 1) ⟨by omega, by rw [take_suc ma, take_suc mb, ht, hpq]⟩ (by omega)
  · have hie : i = a.length := by omega
    subst hie
    rw [List.take_length, hlen, List.take_length] at ht
    exact fin true (decide_eq_true ht)
theorem tells {rp dp lp sure : Nat} {got al half : List (List UInt8)} {br : Bool} {gv : Value} (hl : got.length ≤ 1000000) (hr : ∀ r ∈ got, r.length ≤ 9223372036854775807) (hs : sure ≤ 1000000)
    (h : E B (rows B gv got :: rn B rp dp lp al half sure br :: H) (K (.bool (tellB got al half sure br)))) : E B (rows B gv got :: rn B rp dp lp al half sure br :: H) (CF Tryd.prog 20 [ptr rp, gv] K) := by
  refine E_mono (W := s20 _ _ K) ?_ fun _ => c20
  unfold s20
  unfold tellB at h
  refine fd (a := rn B rp dp lp al half sure br) (E_rn fun av hv _ _ => ?_)
  have fin : ∀ x : Bool, E B (rows B gv got :: rn B rp dp lp al half sure br :: H) (K (.bool x)) → E B (cel true rp 35 (rnC dp lp av hv sure br) :: rows B av al :: rows B hv half :: rows B gv got :: H) (K (.bool x)) := fun x hh => by
    refine E_rnS ?_
    exact E_perm (.swap ..) hh
  refine E_join1 [ptr rp, gv, .bool (br && decide (got = half))] (cel true rp 35 (rnC dp lp av hv sure br) :: rows B av al :: rows B hv half :: rows B gv got :: H) (fun q hq => ?_) ?_
  · refine E_nc ?_
    refine E_fad ?_
    refine E_ld ?_
    cases br with
    | false =>
      refine E_gff ?_
      refine E_gff ?_
      refine E_gff ?_
      refine E_gff ?_
      refine E_gff ?_
      refine E_gff ?_
      refine E_pff ?_
      exact hq
    | true =>
      refine E_gtf ?_
      refine E_gtf ?_
      refine E_gtf ?_
      refine E_nc ?_
      refine E_gtf ?_
      refine E_fad ?_
      refine E_gtf ?_
      refine E_ld ?_
      refine E_gtf ?_
      refine E_same (G := rows B gv got :: rows B hv half :: cel true rp 35 (rnC dp lp av hv sure true) :: rows B av al :: H) (by repeat (first | exact Same.refl | (refine Same.cons (by repeat (first | exact Find.here | apply Find.there)) ?_) | (refine Same.drop ?_))) ?_
      refine same hl hr ?_
      refine E_ptt ?_
      rw [Bool.true_and] at hq
      refine E_same (G := cel true rp 35 (rnC dp lp av hv sure true) :: rows B av al :: rows B hv half :: rows B gv got :: H) (by repeat (first | exact Same.refl | (refine Same.cons (by repeat (first | exact Find.here | apply Find.there)) ?_) | (refine Same.drop ?_))) ?_
      exact hq
  refine E_fa fun _ => ?_
  refine E_ifb (fun h1 => ?_) (fun h1 => ?_)
  · rw [h1, Bool.true_or] at h
    exact fin true h
  rw [h1, Bool.false_or] at h
  refine fd (a := rows B gv got) (E_rows fun bg Lg hg => ?_)
  refine fd (a := rows B av al) (E_rows fun ba La ha => ?_)
  have lg : bg.length = got.length := lens_of hg.e
  have la : ba.length = al.length := lens_of ha.e
  have fin2 : ∀ x : Bool, E B (rows B gv got :: rn B rp dp lp al half sure br :: H) (K (.bool x)) → E B (sls cV 22 1 av ba :: spool cB La :: sls cV 22 1 gv bg :: spool cB Lg :: cel true rp 35 (rnC dp lp av hv sure br) :: rows B hv half :: H) (K (.bool x)) := fun x hh => by
    refine E_rowsS ha ?_
    refine E_same (G := sls cV 22 1 gv bg :: spool cB Lg :: rows B av al :: cel true rp 35 (rnC dp lp av hv sure br) :: rows B hv half :: H) (by repeat (first | exact Same.refl | (refine Same.cons (by repeat (first | exact Find.here | apply Find.there)) ?_) | (refine Same.drop ?_))) ?_
    refine E_rowsS hg ?_
    refine E_same (G := cel true rp 35 (rnC dp lp av hv sure br) :: rows B av al :: rows B hv half :: rows B gv got :: H) (by repeat (first | exact Same.refl | (refine Same.cons (by repeat (first | exact Find.here | apply Find.there)) ?_) | (refine Same.drop ?_))) ?_
    exact fin x hh
  refine E_join1 [ptr rp, gv, .bool (decide (¬ (sure ≤ got.length ∧ got.length ≤ al.length)))] (sls cV 22 1 av ba :: spool cB La :: sls cV 22 1 gv bg :: spool cB Lg :: cel true rp 35 (rnC dp lp av hv sure br) :: rows B hv half :: H) (fun q hq => ?_) ?_
  · refine E_rslen (v := gv) (l := bg) ?_
    refine E_nc ?_
    refine E_fad ?_
    refine E_ld ?_
    refine E_lss ?_
    by_cases hc : (bg.length : Int) < (sure : Int)
    · rw [decide_eq_true hc]
      repeat (refine E_gtt ?_)
      refine E_ptt ?_
      rw [decide_eq_true (by omega)] at hq
      exact hq
    · rw [decide_eq_false hc]
      refine E_gft ?_
      refine E_gft ?_
      refine E_rslen (v := gv) (l := bg) ?_
      refine E_gft ?_
      refine E_gft ?_
      refine E_nc ?_
      refine E_gft ?_
      refine E_fad ?_
      refine E_gft ?_
      refine E_ld ?_
      refine E_gft ?_
      refine E_rslen (v := av) (l := ba) ?_
      refine E_gft ?_
      refine E_gtr ?_
      refine E_pff ?_
      have e1 : decide ((ba.length : Int) < (bg.length : Int)) = decide (¬ (sure ≤ got.length ∧ got.length ≤ al.length)) := by rw [decide_eq_decide]; omega
      rw [e1]
      exact hq
  refine E_fa fun _ => ?_
  refine E_if (fun hc => ?_) (fun hc => ?_)
  · have e2 : (decide (sure ≤ got.length) && (decide (got.length ≤ al.length) && decide (got = al.take got.length))) = false := by
      by_cases h2 : sure ≤ got.length
      · rw [decide_eq_false (show ¬ got.length ≤ al.length from fun h3 => hc ⟨h2, h3⟩)]; simp
      · rw [decide_eq_false h2]; simp
    rw [e2] at h
    exact fin2 false h
  have hc2 : sure ≤ got.length ∧ got.length ≤ al.length := by
    by_cases h2 : sure ≤ got.length ∧ got.length ≤ al.length
    · exact h2
    · exact absurd h2 hc
  rw [decide_eq_true hc2.1, decide_eq_true hc2.2, Bool.true_and, Bool.true_and] at h
  refine E_loop (n := 3) (σ := Nat) (fun i => i ≤ got.length ∧ got.take i = al.take i) (fun i => [ptr rp, gv, I i]) (fun _ => sls cV 22 1 av ba :: spool cB La :: sls cV 22 1 gv bg :: spool cB Lg :: cel true rp 35 (rnC dp lp av hv sure br) :: rows B hv half :: H) (fun i => got.length - i) 0 (fun _ => rfl) rfl ⟨Nat.zero_le _, rfl⟩ (fun W hW => hW) ?_
  rintro i K0 ⟨hi, ht⟩ hk
  refine E_fa fun _ => ?_
  refine E_rslen (v := gv) (l := bg) ?_
  refine E_lss ?_
  refine E_if (fun hci => ?_) (fun hci => ?_)
  · have hxa : bg[i]? = some bg[i] := List.getElem?_eq_getElem (by omega)
    have hxb : ba[i]? = some ba[i] := List.getElem?_eq_getElem (by omega)
    have hpa := hg.r bg[i] (List.getElem_mem (l := bg) (by omega)) (cel true rp 35 (rnC dp lp av hv sure br) :: rows B hv half :: H)
    have hpb := ha.r ba[i] (List.getElem_mem (l := ba) (by omega)) (sls cV 22 1 gv bg :: spool cB Lg :: cel true rp 35 (rnC dp lp av hv sure br) :: rows B hv half :: H)
    generalize bg[i] = p at hxa hpa
    generalize ba[i] = q at hxb hpb
    have ma := map_at hg.e hxa
    have mb := map_at ha.e hxb
    have r1 : Rb B (spool cB Lg :: cel true rp 35 (rnC dp lp av hv sure br) :: rows B hv half :: H) p.v p.bs := hpa
    have r2 : Rb B (spool cB La :: sls cV 22 1 gv bg :: spool cB Lg :: cel true rp 35 (rnC dp lp av hv sure br) :: rows B hv half :: H) q.v q.bs := hpb
    refine E_dr ?_
    refine E_rsix (v := gv) (l := bg) hxa fun _ _ => ?_
    refine E_ptld ?_
    refine E_b2sR (v := p.v) (bs := p.bs) ?_
    refine E_nc ?_
    refine E_fad ?_
    refine E_ld ?_
    refine E_rsix (v := av) (l := ba) hxb fun _ _ => ?_
    refine E_ptld ?_
    refine E_b2sR (v := q.v) (bs := q.bs) ?_
    refine E_strne ?_
    refine E_if (fun he => ?_) (fun he => ?_)
    · have : decide (got = al.take got.length) = false := decide_eq_false fun e => he (by
        have h3 : (al.take got.length)[i]? = some p.bs := by rw [← e]; exact ma
        rw [List.getElem?_take_of_lt (by omega), mb] at h3
        exact (Option.some.inj h3).symm)
      rw [this] at h
      exact fin2 false h
    · refine E_addI (by omega) (by omega) ?_
      have hpq : p.bs = q.bs := by simpa using he
      exact hk (i + 1) ⟨by omega, by rw [take_suc ma, take_suc mb, ht, hpq]⟩ (by omega)
  · have hie : i = got.length := by omega
    subst hie
    rw [List.take_length] at ht
    rw [decide_eq_true ht] at h
    exact fin2 true h
end Go.Proofs.YtinggiidkfnlkaaDoor.Jn
end
section
namespace Go.Proofs.YtinggiidkfnlkaaDoor.Jn
open Go Go.SL Go.Proofs Go.Proofs.YtinggiidkfnlkaaDoor.Sh Go.Proofs.YtinggiidkfnlkaaDoor.Oct Go.Proofs.YtinggiidkfnlkaaDoor.Disk Go.Proofs.YtinggiidkfnlkaaDoor.Slot
variable {B : World} {H : List Asrt} {K : Value → WT} {W : WT}
structure Dd where
  do_ : Int
  n : Int
  bv : Cv
  bytes : List UInt8
  rv : Cv
  recs : List Bv
  kv : Cv
  torn : Int
  at_ : Int
abbrev cD (d : Dd) : List Value := [I d.do_, I d.n, d.bv.1, d.rv.1, d.kv.1, I d.torn, I d.at_]
instance : Enc cD 7 := ⟨fun _ => rfl, fun d y hy => by
  simp at hy
  rcases hy with rfl | rfl | rfl | rfl | rfl | rfl | rfl
  · rfl
  · rfl
  · exact d.bv.2
  · exact d.rv.2
  · exact d.kv.2
  · rfl
  · rfl⟩
structure DdOk (B : World) (d : Dd) : Prop where
  b : BaseR B d.bv.1 d.bytes
  r : BaseS B d.rv.1 cV d.recs
  p : ∀ p ∈ d.recs, BaseR B p.v p.bs
  n1 : d.n ≤ 9223372036854775807
  bl : d.bytes.length ≤ 140737488355328
  pl : ∀ p ∈ d.recs, p.bs.length ≤ 9223372036854775807
def recsOf (d : Dd) : List (List UInt8) := d.recs.map (·.bs)
set_option maxRecDepth 100000
theorem rows_base {v : Value} {l : List Bv} (hx : ∀ p ∈ l, BaseR B p.v p.bs) (h : E B (rows B v (l.map (·.bs)) :: H) W) : E B (sls cV 22 1 v l :: H) W := by
  refine pool_new (slQ cB) ?_
  refine E_perm (.swap ..) ?_
  exact E_rowsS ⟨rfl, fun p hp H' => by have := hx p hp; infer_instance⟩ h
theorem rows_pushL {v u x : Value} {l : List (List UInt8)} {r : List UInt8} {rp o : Nat} {κ : Bool} {T : TypeId} {cs : List Value} [CellI u] [HasC H rp κ T cs] (ho : cs[o]? = some x) (hl : l.length ≤ 1000000) (h : ∀ v' [CellI v'], E B (rows B v' (l ++ [r]) :: H) (K v')) :
    E B (rows B v l :: sls cB 5 1 u r :: H) (V Tryd.prog (Instr.buildSlice 30 1 #[(0, u)]) fun v1 => S.rck [S.ld (.pointer (some ⟨rp, o, none⟩)) (fun v' _ => v' = x)] <| V Tryd.prog (Builtin.append_ #[30, 30] 30 #[v, v1]) K) := by
  refine E_rows fun bs L hr => ?_
  have hbl : bs.length = l.length := lens_of hr.e
  refine E_sapp1R (enc := cV) (mkB u r) u_bytess elt_bytes (cs := [u]) rfl (by decide) (by omega) (by omega) (fun b W hW => ?_) fun v' _ => ?_
  · exact E_rck1 (E_ld' ho (E_fact rfl)) (E_rck0 hW)
  refine E_perm (H' := sls cB 5 1 u r :: spool cB L :: sls cV 22 1 v' (bs ++ [mkB u r]) :: H) ((List.Perm.cons _ (.swap ..)).trans ((List.Perm.swap ..).trans (.cons _ (.swap ..)))) ?_
  refine E_give ?_
  refine E_perm (.swap ..) ?_
  refine E_rowsS ⟨?_, ?_⟩ (h v')
  · simp [← hr.e]
  · intro p hp H'
    rcases List.mem_append.1 hp with hp | hp
    · exact pool_rb (fun q hq => List.mem_cons_of_mem _ hq) (hr.r p hp) H'
    · rw [List.mem_singleton.1 hp]
      exact rb_rs (rs_pool (List.mem_cons_self ..) H')
attribute [local irreducible] S.pick S.ld S.ldN S.st S.box S.nc S.fad S.ixS S.ixA S.chr S.prt S.ext S.bin S.sh S.sbin S.beq S.neg1 S.com1 S.not1 S.cvt S.str1 S.lenS S.len S.cap S.lenM S.mx S.mn S.mkM S.cond S.gd S.fa S.dr S.rck S.join S.loop S.cvv S.eqv S.slc S.slcS S.b2s S.lk V U CF Gives E cel mpb osl ros dct dit itr lpo dfo
attribute [local irreducible] sls disk rows jr rn
theorem rows_len {v : Value} {l : List (List UInt8)} {K' : Value → WT} (h : E B (rows B v l :: H) (K' (I l.length))) : E B (rows B v l :: H) (S.len v K') := by
  refine E_rows fun bs L hr => ?_
  refine E_rslen (v := v) (l := bs) ?_
  rw [lens_of hr.e]
  exact E_rowsS hr h
theorem short {d : Dd} (hd : DdOk B d) (h : ∀ q : Bool, (q = true → d.recs.length ≤ 61) → E B H (K (.bool q))) : E B H (CF Tryd.prog 18 [.agg (cD d).toArray] K) := by
  have hb := hd.b
  have hr := hd.r
  have hbl := hd.bl
  refine E_mono (W := s18 _ K) ?_ fun _ => c18
  unfold s18
  refine E_box (vs := cD d) fun b1 => ?_
  refine E_fad ?_
  refine E_ld' (v := d.bv.1) rfl ?_
  refine E_rslen (v := d.bv.1) (l := d.bytes) ?_
  refine E_loop (n := 3) (σ := Nat × Nat) (fun s => s.1 ≤ d.recs.length ∧ s.1 ≤ 61 ∧ s.2 ≤ 140737488355328 + 6000 * s.1) (fun s => [ptr b1, I s.2, I s.1]) (fun _ => cel true b1 57 (cD d) :: H) (fun s => d.recs.length - s.1) (0, d.bytes.length) (fun _ => rfl) rfl ⟨Nat.zero_le _, Nat.zero_le _, by simp only; omega⟩ (fun W hW => hW) ?_
  rintro ⟨i, n⟩ K0 ⟨h1, h2, h3⟩ hk
  simp only at h1 h2 h3 hk ⊢
  refine E_fa fun _ => ?_
  refine E_fad ?_
  refine E_ld' (v := d.rv.1) rfl ?_
  refine E_rslen (v := d.rv.1) (l := d.recs) ?_
  refine E_lss ?_
  refine E_if (fun hc => ?_) (fun hc => ?_)
  · have hx : d.recs[i]? = some d.recs[i] := List.getElem?_eq_getElem (by omega)
    have hp := hd.p d.recs[i] (List.getElem_mem (by omega))
    have hpl := hd.pl d.recs[i] (List.getElem_mem (by omega))
    generalize d.recs[i] = p at hx hp hpl
    refine E_fad ?_
    refine E_ld' (v := d.rv.1) rfl ?_
    refine E_rsix (v := d.rv.1) (l := d.recs) hx fun _ _ => ?_
    refine E_ptld ?_
    refine E_rslen (v := p.v) (l := p.bs) ?_
    refine E_mn ?_
    refine E_addI (by omega) (by omega) ?_
    obtain ⟨n', hn'⟩ : ∃ n' : Nat, (n : Int) + min (p.bs.length : Int) 6000 = (n' : Int) := ⟨((n : Int) + min (p.bs.length : Int) 6000).toNat, by omega⟩
    rw [hn']
    refine E_join1 [ptr b1, I n', I i, .bool (decide ((6000 : Int) < (n' : Int) ∨ (60 : Int) < (i : Int)))] (cel true b1 57 (cD d) :: H) (fun q hq => ?_) ?_
    · refine E_gtr ?_
      by_cases hg : (6000 : Int) < (n' : Int)
      · rw [decide_eq_true hg]
        refine E_gtt ?_
        refine E_gtt ?_
        refine E_ptt ?_
        rw [decide_eq_true (.inl hg)] at hq
        exact hq
      · rw [decide_eq_false hg]
        refine E_gft ?_
        refine E_gft ?_
        refine E_gtr ?_
        refine E_pff ?_
        have e1 : decide ((60 : Int) < (i : Int)) = decide ((6000 : Int) < (n' : Int) ∨ (60 : Int) < (i : Int)) := by rw [decide_eq_decide]; omega
        rw [e1]
        exact hq
    refine E_fa fun _ => ?_
    refine E_if (fun hg => ?_) (fun hg => ?_)
    · exact sm (G := H) (h false (fun h => by cases h))
    · refine E_addI (by omega) (by omega) ?_
      exact hk (i + 1, n') ⟨by simp only; omega, by simp only; omega, by simp only; omega⟩ (by simp only; omega)
  · refine E_leq ?_
    exact sm (G := H) (h _ (fun _ => by omega))
theorem errs {e : Int} (he : e = 0 ∨ e = 8 ∨ e = 2 ∨ e = 6 ∨ e = 7) (h : E B H (K (.bool true))) : E B H (
 S.bin .eql (I e) (I 0) fun v40 =>
 S.gd v40 false (fun k => k (I e)) fun v42 =>
 S.gd v40 false (S.bin .eql v42 (I 8)) fun v43 =>
 S.pick v40 (.bool true) v43 fun v44 =>
 S.gd v44 false (fun k => k (I e)) fun v46 =>
 S.gd v44 false (S.bin .eql v46 (I 2)) fun v47 =>
 S.pick v44 (.bool true) v47 fun v48 =>
 S.gd v48 false (fun k => k (I e)) fun v50 =>
 S.gd v48 false (S.bin .eql v50 (I 6)) fun v51 =>
 S.pick v48 (.bool true) v51 fun v52 =>
 S.gd v52 false (fun k => k (I e)) fun v54 =>
 S.gd v52 false (S.bin .eql v54 (I 7)) fun v55 =>
 S.pick v52 (.bool true) v55 fun v56 =>
 K v56) := by
  rcases he with rfl | rfl | rfl | rfl | rfl
  all_goals (repeat (first | refine E_gtt ?_ | refine E_gft ?_ | refine E_ptt ?_ | refine E_pff ?_ | (refine E_eql ?_; (first | rw [decide_eq_true (by decide)] | rw [decide_eq_false (by decide)]))))
  all_goals exact h
theorem step {rp dp lp sure N m : Nat} {D : Dk} {J : Jl} {al half : List (List UInt8)} {br : Bool} {d : Dd} (hL : Liv D J al half sure br N m) (hd : DdOk B d) (hs : d.recs.length ≤ 61) (hN : N + 1 < 250) (hm : m + 1 < 249)
    (h : ∀ D' J' al' half' sure' br', Liv D' J' al' half' sure' br' (N + 1) (m + 1) → E B (rn B rp dp lp al' half' sure' br' :: jr B lp dp J' :: disk dp D' :: H) (K (.bool true))) :
    E B (rn B rp dp lp al half sure br :: jr B lp dp J :: disk dp D :: H) (CF Tryd.prog 19 [ptr rp, .agg (cD d).toArray] K) := by
  have hb := hd.b
  have hr := hd.r
  have hbl := hd.bl
  obtain ⟨g1, g2, g3, g4, g5, g6, g7⟩ := hL.jok
  have same_ : E B (rn B rp dp lp al half sure br :: jr B lp dp J :: disk dp D :: H) (K (.bool true)) := h _ _ _ _ _ _ (hL.grow (by omega) hN (by omega) (by omega))
  refine E_mono (W := s19 _ _ K) ?_ fun _ => c19
  unfold s19
  refine E_box (vs := cD d) fun b3 => ?_
  refine fd (a := rn B rp dp lp al half sure br) (E_rn fun av hv _ _ => ?_)
  refine E_nc ?_
  refine E_fad0 ?_
  refine E_ld ?_
  refine E_use (Disk.disk dp) (Disk.down ?_)
  have shut : ∀ {D' : Dk} {J' : Jl} {al' half' : List (List UInt8)} {av' hv' : Value} {s' : Nat} {br' : Bool} {W : WT} [CellI av'] [CellI hv'], E B (rn B rp dp lp al' half' s' br' :: jr B lp dp J' :: disk dp D' :: H) W → ∀ {G : List Asrt}, Sam (cel true rp 35 (rnC dp lp av' hv' s' br') :: rows B av' al' :: rows B hv' half' :: jr B lp dp J' :: disk dp D' :: H) G → E B G W := fun {D'} {J'} {al'} {half'} {av'} {hv'} {s'} {br'} {W} _ _ hh {G} hG => by
    refine sm (G := cel true rp 35 (rnC dp lp av' hv' s' br') :: rows B av' al' :: rows B hv' half' :: jr B lp dp J' :: disk dp D' :: H) ?_
    exact E_rnS hh
  refine E_join0 ?_
  refine E_fad0 ?_
  refine E_ld ?_
  refine E_eql ?_
  refine E_if (fun h0 => ?_) (fun h0 => ?_)
  · -- Append
    refine E_dr ?_
    refine E_nc ?_
    refine E_fad ?_
    refine E_ld ?_
    refine E_fad ?_
    refine E_ld' (v := d.bv.1) rfl ?_
    refine sm (G := jr B lp dp J :: disk dp D :: cel true rp 35 (rnC dp lp av hv sure br) :: rows B av al :: rows B hv half :: cel true b3 57 (cD d) :: H) ?_
    have hbq : ∀ Q, Rb B (Q ++ (cel true rp 35 (rnC dp lp av hv sure br) :: rows B av al :: rows B hv half :: cel true b3 57 (cD d) :: H)) d.bv.1 d.bytes := fun Q => inferInstance
    refine append (r := d.bytes) g1 (by omega) ?_
    rcases hL.append (r := d.bytes) with ⟨e1, l1⟩ | ⟨e1, l1⟩
    · rw [e1]
      refine E_join0 ?_
      refine E_eql ?_
      refine E_ifT rfl ?_
      refine E_dr ?_
      refine E_nc ?_
      refine E_fad ?_
      refine E_ld ?_
      refine E_fad ?_
      refine E_ld' (v := d.bv.1) rfl ?_
      refine E_sbsl0 cB u_bytes elt_byte fun v31 _ => ?_
      refine E_rck1 (E_ld' (v := d.bv.1) rfl (E_fact rfl)) ?_
      refine E_rck1 (E_ld (E_fact rfl)) ?_
      refine E_rck0 ?_
      refine E_sapps (enc := cB) (u := d.bv.1) (m := d.bytes) u_bytes elt_byte (by simp; omega) (by simp; omega) fun v34 _ => ?_
      rw [List.nil_append]
      refine E_rck1 (E_ld (E_fact rfl)) ?_
      refine E_rck0 ?_
      refine sm (G := rows B av al :: sls cB 5 1 v34 d.bytes :: cel true rp 35 (rnC dp lp av hv sure br) :: rows B hv half :: jr B lp dp (appR D J d.bytes).2.1 :: disk dp (appR D J d.bytes).1 :: H) ?_
      refine rows_pushL (cs := rnC dp lp av hv sure br) rfl (by omega) fun v36 _ => ?_
      refine E_nc ?_
      refine E_fad ?_
      refine E_st' (by simp) ?_
      rw [show (rnC dp lp av hv sure br).set (0 + 2) v36 = rnC dp lp v36 hv sure br from rfl]
      refine E_fa fun _ => ?_
      refine errs (.inl rfl) ?_
      exact shut (av' := v36) (hv' := hv) (h _ _ _ _ _ _ (l1.grow (by omega) hN (by omega) (by omega))) inferInstance
    · have e2 : (appR D J d.bytes).2.2 ≠ 0 := by rcases e1 with e | e | e | e <;> rw [e] <;> decide
      refine E_join0 ?_
      refine E_eql ?_
      refine E_ifF e2 ?_
      refine E_fa fun _ => ?_
      refine errs (.inr e1) ?_
      exact shut (av' := av) (hv' := hv) (h _ _ _ _ _ _ (l1.grow (by omega) hN (by omega) (by omega))) inferInstance
  refine E_eql ?_
  refine E_if (fun h1 => ?_) (fun h1 => ?_)
  · -- Flush
    refine E_nc ?_
    refine E_fad ?_
    refine E_ld ?_
    refine sm (G := jr B lp dp J :: disk dp D :: cel true rp 35 (rnC dp lp av hv sure br) :: rows B av al :: rows B hv half :: cel true b3 57 (cD d) :: H) ?_
    refine flush ?_
    rcases hL.flush with ⟨e1, l1⟩ | ⟨e1, l1⟩
    · rw [e1]
      refine E_eql ?_
      refine E_ifT rfl ?_
      refine E_nc ?_
      refine E_fad ?_
      refine E_ld ?_
      refine fd (a := rows B av al) ?_
      refine rows_len ?_
      refine E_nc ?_
      refine E_fad ?_
      refine E_st' (by simp) ?_
      rw [show (rnC dp lp av hv sure br).set (0 + 3) (I al.length) = rnC dp lp av hv al.length br from rfl]
      refine E_fa fun _ => ?_
      exact shut (av' := av) (hv' := hv) (h _ _ _ _ _ _ (l1.grow (by omega) hN (by omega) (by omega))) inferInstance
    · refine E_eql ?_
      refine E_ifF e1 ?_
      refine E_fa fun _ => ?_
      exact shut (av' := av) (hv' := hv) (h _ _ _ _ _ _ (l1.grow (by omega) hN (by omega) (by omega))) inferInstance
  refine E_eql ?_
  refine E_if (fun h2 => ?_) (fun h2 => ?_)
  · -- Renew
    refine E_dr ?_
    refine E_nc ?_
    refine E_fad ?_
    refine E_ld ?_
    refine E_fad ?_
    refine E_ld' (v := d.rv.1) rfl ?_
    refine sm (G := jr B lp dp J :: disk dp D :: cel true rp 35 (rnC dp lp av hv sure br) :: rows B av al :: rows B hv half :: cel true b3 57 (cD d) :: H) ?_
    refine renew (l := d.recs) (recs := recsOf d) (fun Q => inferInstance) (fun p hp Q => by have := hd.p p hp; infer_instance) rfl g1 (by omega) hd.pl (by rw [g2]; exact g4) (fun hz => ?_) ?_
    · cases hL with
      | up a e hJ hu hb =>
        subst hJ
        have := hu.bse.fr hu.dn
        have hN1 := hu.bse.N1
        show frN 40 D e < lastE
        unfold lastE; omega
      | dn hdn hl => rw [off_dn hdn hl] at hz; cases hz
    rcases hL.renew (recs := recsOf d) hN hm with ⟨e1, l1⟩ | ⟨e1, e2, l1⟩ | ⟨e1, l1⟩
    · rw [e1]
      refine E_join0 ?_
      refine E_eql ?_
      refine E_ifT rfl ?_
      refine E_sbsl0 cV u_bytess elt_bytes fun v85 _ => ?_
      refine E_fad ?_
      refine E_ld' (v := d.rv.1) rfl ?_
      refine E_sapps (enc := cV) (u := d.rv.1) (m := d.recs) u_bytess elt_bytes (by simp; omega) (by simp; omega) fun v88 _ => ?_
      rw [List.nil_append]
      refine rows_base hd.p ?_
      rw [show d.recs.map (fun p : Bv => p.bs) = recsOf d from rfl]
      refine E_nc ?_
      refine E_fad ?_
      refine E_st' (by simp) ?_
      refine E_nc ?_
      refine E_fad ?_
      refine E_ld' (v := v88) rfl ?_
      refine fd (a := rows B v88 (recsOf d)) ?_
      refine rows_len ?_
      refine E_nc ?_
      refine E_fad ?_
      refine E_st' (by simp) ?_
      rw [show (((rnC dp lp av hv sure br).set (0 + 2) v88).set (0 + 3) (I (recsOf d).length)) = rnC dp lp v88 hv (recsOf d).length br from rfl]
      refine E_fa fun _ => ?_
      refine E_join0 ?_
      refine E_join0 ?_
      refine E_eql ?_
      rw [decide_eq_false (by decide)]
      refine E_gff ?_
      refine E_gff ?_
      refine E_pff ?_
      refine E_fa fun _ => ?_
      refine E_ff ?_
      refine E_fa fun _ => ?_
      refine errs (.inl rfl) ?_
      exact shut (av' := v88) (hv' := hv) (h _ _ _ _ _ _ l1) inferInstance
    · rw [e1]
      refine E_join0 ?_
      refine E_eql ?_
      refine E_ifF (by decide) ?_
      refine E_fa fun _ => ?_
      refine E_join0 ?_
      refine E_join0 ?_
      refine E_eql ?_
      rw [decide_eq_true rfl]
      refine E_gtf ?_
      refine E_gtf ?_
      rw [e2]
      refine E_notF ?_
      refine E_ptt ?_
      refine E_fa fun _ => ?_
      refine E_tt ?_
      refine E_sbsl0 cV u_bytess elt_bytes fun v85 _ => ?_
      refine E_fad ?_
      refine E_ld' (v := d.rv.1) rfl ?_
      refine E_sapps (enc := cV) (u := d.rv.1) (m := d.recs) u_bytess elt_bytes (by simp; omega) (by simp; omega) fun v88 _ => ?_
      rw [List.nil_append]
      refine rows_base hd.p ?_
      rw [show d.recs.map (fun p : Bv => p.bs) = recsOf d from rfl]
      refine E_nc ?_
      refine E_fad ?_
      refine E_st' (by simp) ?_
      refine E_nc ?_
      refine E_fad ?_
      refine E_st' (by simp) ?_
      rw [show (((rnC dp lp av hv sure br).set (0 + 4) v88).set (0 + 5) (.bool true)) = rnC dp lp av v88 sure true from rfl]
      refine E_fa fun _ => ?_
      refine errs (.inr (.inr (.inr (.inr rfl)))) ?_
      exact shut (av' := av) (hv' := v88) (h _ _ _ _ _ _ l1) inferInstance
    · have e2 : (renR D J (recsOf d)).2.2 ≠ 0 := by rcases e1 with e | e | e | ⟨e, _⟩ <;> rw [e] <;> decide
      refine E_join0 ?_
      refine E_eql ?_
      refine E_ifF e2 ?_
      refine E_fa fun _ => ?_
      refine E_join0 ?_
      refine E_join0 ?_
      refine E_eql ?_
      have fin : E B (jr B lp dp (renR D J (recsOf d)).2.1 :: disk dp (renR D J (recsOf d)).1 :: cel true rp 35 (rnC dp lp av hv sure br) :: rows B av al :: rows B hv half :: cel true b3 57 (cD d) :: H) (K (.bool true)) :=
        shut (av' := av) (hv' := hv) (h _ _ _ _ _ _ l1) inferInstance
      by_cases h7 : (renR D J (recsOf d)).2.2 = 7
      · have hdn : D.down = true := by rcases e1 with e | e | e | ⟨_, e⟩ <;> first | (rw [e] at h7; cases h7) | exact e
        rw [decide_eq_true h7]
        refine E_gtf ?_
        refine E_gtf ?_
        rw [hdn]
        refine E_notT ?_
        refine E_ptt ?_
        refine E_fa fun _ => ?_
        refine E_ff ?_
        refine E_fa fun _ => ?_
        refine errs (by rw [h7]; simp) ?_
        exact fin
      · rw [decide_eq_false h7]
        refine E_gff ?_
        refine E_gff ?_
        refine E_pff ?_
        refine E_fa fun _ => ?_
        refine E_ff ?_
        refine E_fa fun _ => ?_
        refine errs (by rcases e1 with e | e | e | ⟨e, _⟩ <;> rw [e] <;> simp) ?_
        exact fin
  refine E_eql ?_
  refine E_if (fun h3 => ?_) (fun h3 => ?_)
  · -- Trip
    refine E_dr ?_
    refine E_nc ?_
    refine E_fad0 ?_
    refine E_ld ?_
    refine E_fad ?_
    refine E_ld' (v := I d.n) rfl ?_
    refine E_use (Disk.disk dp) (Disk.trip hd.n1 ?_)
    refine E_fa fun _ => ?_
    exact shut (av' := av) (hv' := hv) (h _ _ _ _ _ _ ((hL.trip (t := d.n)).grow (by omega) hN (by omega) (by omega))) inferInstance
  · refine E_fa fun _ => ?_
    exact shut (av' := av) (hv' := hv) same_ inferInstance
end Go.Proofs.YtinggiidkfnlkaaDoor.Jn
end
section
namespace Go.Proofs.YtinggiidkfnlkaaDoor.Jn
open Go Go.SL Go.Proofs Go.Proofs.YtinggiidkfnlkaaDoor.Sh Go.Proofs.YtinggiidkfnlkaaDoor.Oct Go.Proofs.YtinggiidkfnlkaaDoor.Disk Go.Proofs.YtinggiidkfnlkaaDoor.Slot
variable {B : World} {H : List Asrt} {K : Value → WT} {W : WT}
structure Lv where
  v : Cv
  ds : List Dd
abbrev cLv (x : Lv) : List Value := [x.v.1]
instance : Enc cLv 1 := ⟨fun _ => rfl, fun x y hy => by simp at hy; subst hy; exact x.v.2⟩
structure Cw where
  v : Cv
  c : Cr
abbrev cCw (x : Cw) : List Value := [x.v.1, I x.c.torn, I x.c.at_]
instance : Enc cCw 3 := ⟨fun _ => rfl, fun x y hy => by
  simp at hy
  rcases hy with rfl | rfl | rfl
  · exact x.v.2
  · rfl
  · rfl⟩
theorem rb_app {v : Value} {l : List UInt8} : ∀ (G : List Asrt), Rb B H v l → Rb B (G ++ H) v l
  | [], h => h
  | a :: G, h => by
    have := rb_app G h
    exact rb_there
structure LS where
  i : Nat
  D : Dk
  lp : Nat
  a : Nat
  e : Nat
  al : List (List UInt8)
  half : List (List UInt8)
  sure : Nat
structure IS where
  k : Nat
  D : Dk
  J : Jl
  al : List (List UInt8)
  half : List (List UInt8)
  sure : Nat
  br : Bool
structure OS where
  lp : Nat
  Bs : List (List UInt8)
  l : Int
  a : Nat
  e : Nat
attribute [local irreducible] S.pick S.ld S.ldN S.st S.box S.nc S.fad S.ixS S.ixA S.chr S.prt S.ext S.bin S.sh S.sbin S.beq S.neg1 S.com1 S.not1 S.cvt S.str1 S.lenS S.len S.cap S.lenM S.mx S.mn S.mkM S.cond S.gd S.fa S.dr S.rck S.join S.loop S.cvv S.eqv S.slc S.slcS S.b2s S.lk V U CF Gives E cel mpb osl ros dct dit itr lpo dfo
attribute [local irreducible] sls disk rows jr rn
set_option maxRecDepth 100000
theorem reopen {rp dp lp N m sure : Nat} {D : Dk} {c : Cr} {av hv : Value} {br : Bool} {R : List (List UInt8) → Prop} (hD : Dead nL 40 D N m R)
    (h : ∀ lp' Bs l a e recs, Opn nL 40 Bs N m a e recs → R recs → E B (jr B lp' dp ⟨40, a, e, tot recs, recs, false, l⟩ :: disk dp (cl Bs 0 l) :: cel true rp 35 (rnC dp lp av hv sure br) :: H) (K (.tuple #[ptr lp', I 0]))) :
    E B (disk dp (D.crash c) :: cel true rp 35 (rnC dp lp av hv sure br) :: H) (
 S.dr <|
 S.nc (ptr rp) fun v79 =>
 S.fad v79 0 fun v80 =>
 S.ld v80 fun v81 =>
 S.nc (ptr rp) fun v83 =>
 S.fad v83 6 fun v84 =>
 S.ixA 2 2 v84 (I 0) fun v85 =>
 S.ldN 2 v85 fun v86 =>
 S.nc (ptr rp) fun v88 =>
 S.fad v88 6 fun v89 =>
 S.ixA 2 2 v89 (I 1) fun v90 =>
 S.ldN 2 v90 fun v91 =>
 CF Tryd.prog 12 [v81, (I 0), v86, v91] K) := by
  obtain ⟨Bs, l, e1, e2, a, e, recs, o1, o2⟩ := hD c
  rw [e1]
  refine E_dr ?_
  refine E_nc ?_
  refine E_fad0 ?_
  refine E_ld ?_
  refine E_nc ?_
  refine E_fad ?_
  refine E_ixAo (by decide) (by decide) ?_
  refine E_ldN (cs := [I 2, I 40]) rfl rfl ?_
  refine E_nc ?_
  refine E_fad ?_
  refine E_ixAo (by decide) (by decide) ?_
  refine E_ldN (cs := [I 42, I 40]) rfl rfl ?_
  refine openOld (n := 40) (by decide) (by decide) o1 fun lp' => ?_
  exact h lp' Bs l a e recs o1 o2
theorem journalCrash {v0 v1 : Value} {lives : List Lv} {cs : List Cw} {kv : Cv} {c : Cr} [hv0 : BaseS B v0 cLv lives] (hds : ∀ x ∈ lives, BaseS B x.v.1 cD x.ds ∧ ∀ d ∈ x.ds, DdOk B d) [hv1 : BaseS B v1 cCw cs] (hcs : ∀ x ∈ cs, BaseX B x.v.1 x.c.keep.length (bools x.c.keep)) [hc : BaseX B kv.1 c.keep.length (bools c.keep)]
    (hl0 : lives.length ≤ 9223372036854775807) (h : E B H (K (.bool true))) : E B H (CF Tryd.prog 5 [v0, v1, .agg #[kv.1, I c.torn, I c.at_]] K) := by
  refine E_mono (W := s5 _ _ _ K) ?_ fun _ => c5
  unfold s5
  have ckv : CellI kv.1 := ⟨kv.2⟩
  refine E_box (vs := [kv.1, I c.torn, I c.at_]) fun b5 => ?_
  refine start fun rp dp lp0 => ?_
  refine E_ext ?_
  refine E_ext ?_
  refine E_notT ?_
  refine E_ff ?_
  refine E_loop (n := 5) (σ := LS) (fun s => s.i ≤ 6 ∧ Up nL 40 s.D (1 + 32 * s.i) (1 + 32 * s.i) s.a s.e s.al s.sure) (fun s => [v0, v1, ptr b5, ptr rp, I s.i])
    (fun s => rn B rp dp s.lp s.al s.half s.sure false :: jr B s.lp dp (Jl.of 40 s.a s.e s.al s.D.life) :: disk dp s.D :: cel true b5 47 [kv.1, I c.torn, I c.at_] :: H) (fun s => 6 - s.i)
    ⟨0, D1 40, lp0, 0, 1, [], [], 0⟩ (fun _ => rfl) rfl ⟨show 0 ≤ 6 by decide, up1 (n := 40) (by decide)⟩ (fun W hW => by
      refine rows_nil ?_
      refine rows_nil ?_
      refine sm (G := cel true rp 35 (rnC dp lp0 nil nil 0 false) :: rows B nil [] :: rows B nil [] :: jr B lp0 dp (Jl.of 40 0 1 [] 0) :: disk dp (D1 40) :: cel true b5 47 [kv.1, I c.torn, I c.at_] :: H) ?_
      exact E_rnS hW) ?_
  rintro ⟨i, D, lp, a, e, al, half, sure⟩ K0 ⟨hi6, hu⟩ hk
  simp only at hi6 hu hk ⊢
  refine E_fa fun _ => ?_
  refine E_join1 [v0, v1, ptr b5, ptr rp, I i, .bool (decide (i < lives.length ∧ i < cs.length ∧ i < 6))] (rn B rp dp lp al half sure false :: jr B lp dp (Jl.of 40 a e al D.life) :: disk dp D :: cel true b5 47 [kv.1, I c.torn, I c.at_] :: H) (fun q hq => ?_) ?_
  · refine E_rslen (v := v0) (l := lives) ?_
    refine E_lss ?_
    by_cases c1 : (i : Int) < (lives.length : Int)
    · rw [decide_eq_true c1]
      refine E_gtf ?_
      refine E_gtf ?_
      refine E_gtf ?_
      refine E_rslen (v := v1) (l := cs) ?_
      refine E_gtf ?_
      refine E_lss ?_
      refine E_ptt ?_
      by_cases c2 : (i : Int) < (cs.length : Int)
      · rw [decide_eq_true c2]
        refine E_gtf ?_
        refine E_gtf ?_
        refine E_lss ?_
        refine E_ptt ?_
        have e1 : decide ((i : Int) < 6) = decide (i < lives.length ∧ i < cs.length ∧ i < 6) := by rw [decide_eq_decide]; omega
        rw [e1]
        exact hq
      · rw [decide_eq_false c2]
        refine E_gff ?_
        refine E_gff ?_
        refine E_pff ?_
        rw [decide_eq_false (by omega)] at hq
        exact hq
    · rw [decide_eq_false c1]
      refine E_gff ?_
      refine E_gff ?_
      refine E_gff ?_
      refine E_gff ?_
      refine E_pff ?_
      refine E_gff ?_
      refine E_gff ?_
      refine E_pff ?_
      rw [decide_eq_false (by omega)] at hq
      exact hq
  refine E_fa fun _ => ?_
  refine E_if (fun hc3 => ?_) (fun hc3 => ?_)
  rotate_left
  · -- the end
    refine E_dr ?_
    refine live ?_
    refine fd (a := rn B rp dp lp al half sure false) (E_rn fun av hv _ _ => ?_)
    refine E_gtf ?_
    refine E_gtf ?_
    refine E_nc ?_
    refine E_gtf ?_
    refine E_fad ?_
    refine E_gtf ?_
    refine E_ld ?_
    refine E_gtf ?_
    refine E_gtf ?_
    refine E_nc ?_
    refine E_gtf ?_
    refine E_fad ?_
    refine E_gtf ?_
    refine E_ld ?_
    refine E_gtf ?_
    refine fd (a := jr B lp dp (Jl.of 40 a e al D.life)) ?_
    have hJ := hu.jok (life := D.life) (by decide)
    refine records hJ fun v201 _ => ?_
    rw [show (Jl.of 40 a e al D.life).recs = al from rfl]
    refine E_rck1 (E_gtf (E_ld (E_fact rfl))) ?_
    refine E_rck0 ?_
    refine E_gtf ?_
    refine sm (G := rows B v201 al :: rows B av al :: H) ?_
    refine same (by have := hJ.rl; show al.length ≤ _; have : al.length ≤ 2000 := hJ.rl; omega) (fun r hr => by have := hJ.rs r hr; omega) ?_
    refine E_ptt ?_
    rw [decide_eq_true rfl]
    exact sm (G := H) h
  obtain ⟨ci1, ci2, ci3⟩ := hc3
  have hxl : lives[i]? = some lives[i] := List.getElem?_eq_getElem ci1
  obtain ⟨hxd, hxo⟩ := hds lives[i] (List.getElem_mem ci1)
  generalize lives[i] = x at hxl hxd hxo
  have hyc : cs[i]? = some cs[i] := List.getElem?_eq_getElem ci2
  have hyx := hcs cs[i] (List.getElem_mem ci2)
  generalize cs[i] = y at hyc hyx
  have hL0 : Liv D (Jl.of 40 a e al D.life) al half sure false (1 + 32 * i) (1 + 32 * i) := .up a e rfl hu rfl
  refine E_loop (n := 6) (σ := IS) (fun s => s.k ≤ 30 ∧ Liv s.D s.J s.al s.half s.sure s.br (1 + 32 * i + s.k) (1 + 32 * i + s.k)) (fun s => [v0, v1, ptr b5, ptr rp, I i, I s.k])
    (fun s => rn B rp dp lp s.al s.half s.sure s.br :: jr B lp dp s.J :: disk dp s.D :: cel true b5 47 [kv.1, I c.torn, I c.at_] :: H) (fun s => 30 - s.k)
    ⟨0, D, Jl.of 40 a e al D.life, al, half, sure, false⟩ (fun _ => rfl) rfl ⟨show 0 ≤ 30 by decide, hL0⟩ (fun W hW => hW) ?_
  clear hL0 hu
  rintro ⟨k, D, J, al, half, sure, br⟩ K2 ⟨hk30, hL⟩ hk2
  simp only at hk30 hL hk2 ⊢
  refine E_fa fun _ => ?_
  refine E_join1 [v0, v1, ptr b5, ptr rp, I i, I k, .bool (decide (k < x.ds.length ∧ k < 30))] (rn B rp dp lp al half sure br :: jr B lp dp J :: disk dp D :: cel true b5 47 [kv.1, I c.torn, I c.at_] :: H) (fun q hq => ?_) ?_
  · refine E_rsix (v := v0) (l := lives) hxl fun _ _ => ?_
    refine E_ptld ?_
    refine E_rslen (v := x.v.1) (l := x.ds) ?_
    refine E_lss ?_
    by_cases c1 : (k : Int) < (x.ds.length : Int)
    · rw [decide_eq_true c1]
      refine E_gtf ?_
      refine E_gtf ?_
      refine E_lss ?_
      refine E_ptt ?_
      have e1 : decide ((k : Int) < 30) = decide (k < x.ds.length ∧ k < 30) := by rw [decide_eq_decide]; omega
      rw [e1]
      exact hq
    · rw [decide_eq_false c1]
      refine E_gff ?_
      refine E_gff ?_
      refine E_pff ?_
      rw [decide_eq_false (by omega)] at hq
      exact hq
  refine E_fa fun _ => ?_
  refine E_if (fun hck => ?_) (fun hck => ?_)
  · obtain ⟨ck1, ck2⟩ := hck
    have hxd2 : x.ds[k]? = some x.ds[k] := List.getElem?_eq_getElem ck1
    have hdo := hxo x.ds[k] (List.getElem_mem ck1)
    generalize x.ds[k] = d at hxd2 hdo
    refine E_join0 ?_
    refine E_rsix (v := v0) (l := lives) hxl fun _ _ => ?_
    refine E_ptld ?_
    refine E_rsix (v := x.v.1) (l := x.ds) hxd2 fun _ _ => ?_
    refine E_ptldN (ds := cD d) rfl rfl ?_
    refine short hdo fun q hq => ?_
    cases q with
    | false =>
      repeat (refine E_gff ?_)
      refine E_pff ?_
      refine E_fa fun _ => ?_
      refine E_ff ?_
      refine E_addI (by omega) (by omega) ?_
      exact hk2 ⟨k + 1, D, J, al, half, sure, br⟩ ⟨by simp only; omega, hL.grow (by simp only; omega) (by simp only; omega) (by simp only; omega) (by simp only; omega)⟩ (by simp only; omega)
    | true =>
      refine E_gtf ?_
      refine E_gtf ?_
      refine E_gtf ?_
      refine E_gtf ?_
      refine E_rsix (v := v0) (l := lives) hxl fun _ _ => ?_
      refine E_gtf ?_
      refine E_ptld ?_
      refine E_gtf ?_
      refine E_gtf ?_
      refine E_rsix (v := x.v.1) (l := x.ds) hxd2 fun _ _ => ?_
      refine E_gtf ?_
      refine E_ptldN (ds := cD d) rfl rfl ?_
      refine E_gtf ?_
      refine step hL hdo (hq rfl) (by omega) (by omega) fun D' J' al' half' sure' br' hL' => ?_
      refine E_gtf ?_
      refine E_notT ?_
      refine E_ptt ?_
      refine E_fa fun _ => ?_
      refine E_ff ?_
      refine E_addI (by omega) (by omega) ?_
      exact hk2 ⟨k + 1, D', J', al', half', sure', br'⟩ ⟨by simp only; omega, hL'⟩ (by simp only; omega)
  clear hk2
  have cy : CellI y.v.1 := ⟨y.v.2⟩
  refine fd (a := rn B rp dp lp al half sure br) (E_rn fun av hv _ _ => ?_)
  refine E_dr ?_
  refine E_nc ?_
  refine E_fad0 ?_
  refine E_ld ?_
  refine E_rsix (v := v1) (l := cs) hyc fun _ _ => ?_
  refine E_ptldN (ds := cCw y) rfl rfl ?_
  refine sm (G := disk dp D :: cel true rp 35 (rnC dp lp av hv sure br) :: rows B av al :: rows B hv half :: cel true b5 47 [kv.1, I c.torn, I c.at_] :: H) ?_
  refine Disk.crash (c := y.c) ?_
  refine reopen hL.dead fun lp1 Bs1 l1 a1 e1 recs o1 t1 => ?_
  have htl := tell_ok t1
  obtain ⟨_, _, _, _, hal, hsu, _⟩ := hL.jok
  clear hL t1
  have hJ1 := o1.jok (l := l1)
  have hrl : recs.length ≤ 2000 := hJ1.rl
  have hrs : ∀ r ∈ recs, r.length ≤ 16384 := hJ1.rs
  refine E_ext ?_
  refine E_ext ?_
  refine sm (G := cel true rp 35 (rnC dp lp av hv sure br) :: rows B av al :: rows B hv half :: jr B lp1 dp ⟨40, a1, e1, tot recs, recs, false, l1⟩ :: disk dp (cl Bs1 0 l1) :: cel true b5 47 [kv.1, I c.torn, I c.at_] :: H) ?_
  refine E_rnS ?_
  refine E_join1 [v0, v1, ptr b5, ptr rp, I i, ptr lp1, .bool false] (rn B rp dp lp al half sure br :: jr B lp1 dp ⟨40, a1, e1, tot recs, recs, false, l1⟩ :: disk dp (cl Bs1 0 l1) :: cel true b5 47 [kv.1, I c.torn, I c.at_] :: H) (fun q hq => ?_) ?_
  · refine E_neq ?_
    rw [decide_eq_false (by decide)]
    refine E_gft ?_
    refine E_gft ?_
    refine E_peq u_pLog ?_
    refine E_pff ?_
    refine E_gft ?_
    refine E_gft ?_
    refine fd (a := jr B lp1 dp ⟨40, a1, e1, tot recs, recs, false, l1⟩) ?_
    refine settled ?_
    refine E_pff ?_
    refine E_gft ?_
    refine E_gft ?_
    refine E_gft ?_
    refine records hJ1 fun v108 _ => ?_
    refine E_gft ?_
    refine sm (G := rows B v108 recs :: rn B rp dp lp al half sure br :: jr B lp1 dp ⟨40, a1, e1, tot recs, recs, false, l1⟩ :: disk dp (cl Bs1 0 l1) :: cel true b5 47 [kv.1, I c.torn, I c.at_] :: H) ?_
    refine tells (by omega) (fun r hr => by have := hrs r hr; omega) (by omega) ?_
    rw [htl]
    refine E_gft ?_
    refine E_notT ?_
    refine E_pff ?_
    exact sm hq
  refine E_fa fun _ => ?_
  refine E_ff ?_
  refine fd (a := jr B lp1 dp ⟨40, a1, e1, tot recs, recs, false, l1⟩) ?_
  refine records hJ1 fun v114 _ => ?_
  refine fd (a := rn B rp dp lp al half sure br) (E_rn fun av hv _ _ => ?_)
  refine E_nc ?_
  refine E_fad ?_
  refine E_st' (by simp) ?_
  refine E_nc ?_
  refine E_fad ?_
  refine E_ld' (v := v114) rfl ?_
  refine fd (a := rows B v114 recs) ?_
  refine rows_len ?_
  refine E_nc ?_
  refine E_fad ?_
  refine E_st' (by simp) ?_
  refine E_nc ?_
  refine E_fad ?_
  refine E_st' (by simp) ?_
  rw [show ((((rnC dp lp av hv sure br).set (0 + 2) v114).set (0 + 3) (I recs.length)).set (0 + 5) (.bool false)) = rnC dp lp v114 hv recs.length false from rfl]
  have hog : Opn nL 40 Bs1 (1 + 32 * i + k + 1) (1 + 32 * i + k + 1) a1 e1 recs := ⟨o1.bse.mono (by omega) (by omega) (by omega) (by omega), o1.rd, o1.fin, o1.ok, o1.le⟩
  refine E_joinC (σ := OS) (fun s => Opn nL 40 s.Bs (1 + 32 * i + k + 1) (1 + 32 * i + k + 1) s.a s.e recs) (fun s => [v0, v1, ptr b5, ptr rp, I i, ptr s.lp])
    (fun s => cel true rp 35 (rnC dp lp v114 hv recs.length false) :: rows B v114 recs :: rows B hv half :: jr B s.lp dp ⟨40, s.a, s.e, tot recs, recs, false, s.l⟩ :: disk dp (cl s.Bs 0 s.l) :: cel true b5 47 [kv.1, I c.torn, I c.at_] :: H) (fun q hq => ?_) (fun s ho => ?_)
  · refine E_remI (by omega) (by omega) ?_
    refine E_eql ?_
    refine E_if (fun hodd => ?_) (fun hodd => ?_)
    · refine E_nc ?_
      refine E_fad0 ?_
      refine E_ld ?_
      refine E_addI (by omega) (by omega) ?_
      refine E_use (Disk.disk dp) (Disk.trip (by omega) ?_)
      rw [(tr_cl (Bs := Bs1) (k := 0) (l := l1) (n := 1 + (i : Int)) (by omega)).1]
      refine E_nc ?_
      refine E_fad ?_
      refine E_ld ?_
      refine fd (a := rows B v114 recs) (E_rows fun bs L hr => ?_)
      have hbl : bs.length = recs.length := lens_of hr.e
      refine sm (G := jr B lp1 dp ⟨40, a1, e1, tot recs, recs, false, l1⟩ :: disk dp (cl Bs1 (1 + (i : Int)) l1) :: sls cV 22 1 v114 bs :: spool cB L :: cel true rp 35 (rnC dp lp v114 hv recs.length false) :: rows B hv half :: cel true b5 47 [kv.1, I c.torn, I c.at_] :: H) ?_
      refine renew (l := bs) (recs := recs) (fun Q => rs_app Q rs_sls) (fun p hp Q => rb_app Q (by
        have := hr.r p hp (cel true rp 35 (rnC dp lp v114 hv recs.length false) :: rows B hv half :: cel true b5 47 [kv.1, I c.torn, I c.at_] :: H)
        have h2 : Rb B (spool cB L :: cel true rp 35 (rnC dp lp v114 hv recs.length false) :: rows B hv half :: cel true b5 47 [kv.1, I c.torn, I c.at_] :: H) p.v p.bs := this
        exact rb_there)) hr.e hJ1 (by omega) (fun p hp => by
          have hm : p.bs ∈ recs := by rw [← hr.e]; exact List.mem_map.2 ⟨p, hp, rfl⟩
          have := hrs _ hm; omega) o1.bse.len (fun hz => ?_) ?_
      · have hb : Bse nL 40 (cl Bs1 (1 + (i : Int)) l1) (1 + 32 * i + k) (1 + 32 * i + k) a1 e1 := o1.bse.same rfl
        have := (hb.fr rfl).1
        show frN 40 (cl Bs1 (1 + (i : Int)) l1) e1 < lastE
        unfold lastE; omega
      have hdead : ∃ J', (renR (cl Bs1 (1 + (i : Int)) l1) ⟨40, a1, e1, tot recs, recs, false, l1⟩ recs).2.1 = J' ∧ Dead nL 40 (renR (cl Bs1 (1 + (i : Int)) l1) ⟨40, a1, e1, tot recs, recs, false, l1⟩ recs).1 (1 + 32 * i + k + 1) (1 + 32 * i + k + 1) fun r => r = recs := by
        refine ⟨_, rfl, ?_⟩
        rcases opn_renew (k := 1 + (i : Int)) (l := l1) o1 (by omega) (by omega) (by omega) with ⟨D', e', er, _, u1⟩ | ⟨_, D', er, _, _, u1⟩
        · rw [er]
          exact u1.dead.mono fun r hr => begin_all hr
        · rw [er]
          exact u1
      obtain ⟨J', _, hdead⟩ := hdead
      generalize (renR (cl Bs1 (1 + (i : Int)) l1) ⟨40, a1, e1, tot recs, recs, false, l1⟩ recs).1 = D' at hdead
      have a5 : AtLen [kv.1, I c.torn, I c.at_] 3 := ⟨rfl⟩
      refine E_dr ?_
      refine E_nc ?_
      refine E_fad0 ?_
      refine E_ld ?_
      refine E_ldNA (l := [kv.1, I c.torn, I c.at_]) ?_
      refine sm (G := disk dp D' :: cel true rp 35 (rnC dp lp v114 hv recs.length false) :: sls cV 22 1 v114 bs :: spool cB L :: rows B hv half :: cel true b5 47 [kv.1, I c.torn, I c.at_] :: H) ?_
      refine Disk.crash (c := c) ?_
      refine reopen hdead fun lp2 Bs2 l2 a2 e2 recs2 o2 t2 => ?_
      subst t2
      refine E_ext ?_
      refine E_ext ?_
      refine sm (G := sls cV 22 1 v114 bs :: spool cB L :: cel true rp 35 (rnC dp lp v114 hv recs2.length false) :: rows B hv half :: jr B lp2 dp ⟨40, a2, e2, tot recs2, recs2, false, l2⟩ :: disk dp (cl Bs2 0 l2) :: cel true b5 47 [kv.1, I c.torn, I c.at_] :: H) ?_
      refine E_rowsS hr ?_
      refine E_join1 [v0, v1, ptr b5, ptr rp, I i, ptr lp2, .bool false] (cel true rp 35 (rnC dp lp v114 hv recs2.length false) :: rows B v114 recs2 :: rows B hv half :: jr B lp2 dp ⟨40, a2, e2, tot recs2, recs2, false, l2⟩ :: disk dp (cl Bs2 0 l2) :: cel true b5 47 [kv.1, I c.torn, I c.at_] :: H) (fun q2 hq2 => ?_) ?_
      · refine E_dr ?_
        refine E_neq ?_
        rw [decide_eq_false (by decide)]
        refine E_gft ?_
        refine E_gft ?_
        refine E_peq u_pLog ?_
        refine E_pff ?_
        refine E_gft ?_
        refine E_gft ?_
        refine E_gft ?_
        refine E_nc ?_
        refine E_gft ?_
        refine E_fad ?_
        refine E_gft ?_
        refine E_ld ?_
        refine E_gft ?_
        refine fd (a := jr B lp2 dp ⟨40, a2, e2, tot recs2, recs2, false, l2⟩) ?_
        refine records o2.jok fun v176 _ => ?_
        refine E_rck1 (E_gft (E_ld (E_fact rfl))) ?_
        refine E_rck0 ?_
        refine E_gft ?_
        refine sm (G := rows B v176 recs2 :: rows B v114 recs2 :: cel true rp 35 (rnC dp lp v114 hv recs2.length false) :: rows B hv half :: jr B lp2 dp ⟨40, a2, e2, tot recs2, recs2, false, l2⟩ :: disk dp (cl Bs2 0 l2) :: cel true b5 47 [kv.1, I c.torn, I c.at_] :: H) ?_
        refine same (by omega) (fun r hr => by have := hrs r hr; omega) ?_
        rw [decide_eq_true rfl]
        refine E_gft ?_
        refine E_notT ?_
        refine E_pff ?_
        exact sm hq2
      refine E_fa fun _ => ?_
      refine E_ff ?_
      exact hq ⟨lp2, Bs2, l2, a2, e2⟩ o2
    · refine E_same (G := cel true rp 35 (rnC dp lp v114 hv recs.length false) :: rows B v114 recs :: rows B hv half :: jr B lp1 dp ⟨40, a1, e1, tot recs, recs, false, l1⟩ :: disk dp (cl Bs1 0 l1) :: cel true b5 47 [kv.1, I c.torn, I c.at_] :: H) (by repeat (first | exact Same.refl | (refine Same.cons (by repeat (first | exact Find.here | apply Find.there)) ?_) | (refine Same.drop ?_))) ?_
      exact hq ⟨lp1, Bs1, l1, a1, e1⟩ hog
  · obtain ⟨lp2, Bs2, l2, a2, e2⟩ := s
    simp only at ho ⊢
    refine E_fa fun _ => ?_
    refine E_nc ?_
    refine E_fad ?_
    refine E_ld ?_
    refine fd (a := rows B v114 recs) (E_rows fun bs L hr => ?_)
    have hbl : bs.length = recs.length := lens_of hr.e
    refine sm (G := jr B lp2 dp ⟨40, a2, e2, tot recs, recs, false, l2⟩ :: disk dp (cl Bs2 0 l2) :: sls cV 22 1 v114 bs :: spool cB L :: cel true rp 35 (rnC dp lp v114 hv recs.length false) :: rows B hv half :: cel true b5 47 [kv.1, I c.torn, I c.at_] :: H) ?_
    refine renew (l := bs) (recs := recs) (fun Q => rs_app Q rs_sls) (fun p hp Q => rb_app Q (by
      have := hr.r p hp (cel true rp 35 (rnC dp lp v114 hv recs.length false) :: rows B hv half :: cel true b5 47 [kv.1, I c.torn, I c.at_] :: H)
      have h2 : Rb B (spool cB L :: cel true rp 35 (rnC dp lp v114 hv recs.length false) :: rows B hv half :: cel true b5 47 [kv.1, I c.torn, I c.at_] :: H) p.v p.bs := this
      exact rb_there)) hr.e ho.jok (by omega) (fun p hp => by
        have hm : p.bs ∈ recs := by rw [← hr.e]; exact List.mem_map.2 ⟨p, hp, rfl⟩
        have := hrs _ hm; omega) ho.bse.len (fun hz => ?_) ?_
    · have hb : Bse nL 40 (cl Bs2 0 l2) (1 + 32 * i + k + 1) (1 + 32 * i + k + 1) a2 e2 := ho.bse.same rfl
      have := (hb.fr rfl).1
      show frN 40 (cl Bs2 0 l2) e2 < lastE
      unfold lastE; omega
    rcases opn_renew (k := 0) (l := l2) ho (by decide) (by omega) (by omega) with ⟨D', e', er, el, u1⟩ | ⟨hz, _⟩
    · rw [er]
      refine E_neq ?_
      refine E_ifF (by simp) ?_
      refine E_nc ?_
      refine E_fad ?_
      refine E_st' (by simp) ?_
      rw [show (rnC dp lp v114 hv recs.length false).set (0 + 1) (ptr lp2) = rnC dp lp2 v114 hv recs.length false from rfl]
      refine E_addI (by omega) (by omega) ?_
      refine sm (G := sls cV 22 1 v114 bs :: spool cB L :: cel true rp 35 (rnC dp lp2 v114 hv recs.length false) :: rows B hv half :: jr B lp2 dp (Jl.of 40 (1 - a2) e' recs l2) :: disk dp D' :: cel true b5 47 [kv.1, I c.torn, I c.at_] :: H) ?_
      refine E_rowsS hr ?_
      refine sm (G := cel true rp 35 (rnC dp lp2 v114 hv recs.length false) :: rows B v114 recs :: rows B hv half :: jr B lp2 dp (Jl.of 40 (1 - a2) e' recs l2) :: disk dp D' :: cel true b5 47 [kv.1, I c.torn, I c.at_] :: H) ?_
      refine E_rnS ?_
      have := hk ⟨i + 1, D', lp2, 1 - a2, e', recs, half, recs.length⟩ ⟨by simp only; omega, u1.grow (by simp only; omega) (by simp only; omega) (by simp only; omega) (by simp only; omega)⟩ (by simp only; omega)
      simp only [el] at this
      exact this
    · exact absurd rfl hz
end Go.Proofs.YtinggiidkfnlkaaDoor.Jn
end
section
namespace Go.Proofs.YtinggiidkfnlkaaDoor.Row
open Go Go.SL Go.Proofs Go.Proofs.YtinggiidkfnlkaaDoor Go.Proofs.YtinggiidkfnlkaaDoor.Disk
open Go.ChangeShapes Go.WideShapes Go.ChangeAt Go.RowKit
set_option maxRecDepth 100000
variable {H : Type} {enc : TypeId × Value → H} {W : World} {base : Nat} {v : Value} {d : DataW H} {p : List MemPlace}
theorem u_boolsJ : Tryd.prog.underlying 45 = some (.slice 4) := by kernel_rfl
theorem c_boolsJ : Tryd.prog.cellsOf 45 = 1 := by kernel_rfl
theorem c_bytesJ : Tryd.prog.cellsOf 22 = 1 := by kernel_rfl
theorem c_bytessJ : Tryd.prog.cellsOf 30 = 1 := by kernel_rfl
theorem c_crashJ : Tryd.prog.cellsOf 47 = 3 := by kernel_rfl
theorem c_deedJ : Tryd.prog.cellsOf 57 = 7 := by kernel_rfl
theorem elem_crashJ {n : Nat} {cs : List Value} {x : DataW H × List MemPlace} (h : DataW.trod enc Tryd.prog W 0 (fun _ => true) true n 47 cs = some x) :
    ∃ a : Jn.Cw, cs = Jn.cCw a ∧ rdX W a.v.1 a.c.keep.length (bools a.c.keep) := by
  obtain ⟨hl, m, hf⟩ := trod_fields [(45, 0), (3, 1), (3, 2)] (by kernel_rfl) h
  rw [c_crashJ] at hl
  match cs, hl with
  | [y0, y1, y2], _ =>
    obtain ⟨_, g0, _⟩ := hf 0 _ rfl
    obtain ⟨_, g1, _⟩ := hf 1 _ rfl
    obtain ⟨_, g2, _⟩ := hf 2 _ rfl
    simp only [c_intJ, c_boolsJ] at g0 g1 g2
    obtain ⟨v, bs, e0, hc, hr⟩ := trod_boolrow u_boolsJ (by kernel_rfl) (by kernel_rfl) g0
    obtain ⟨n1, e1, _⟩ := one_intJ g1
    obtain ⟨n2, e2, _⟩ := one_intJ g2
    simp at e0 e1 e2
    exact ⟨⟨⟨v, hc.pf⟩, ⟨bs, n1, n2⟩⟩, by rw [e0, e1, e2], hr⟩
theorem elem_bytesJ {n R : Nat} {cs : List Value} {x : DataW H × List MemPlace} (h : DataW.trod enc Tryd.prog W 0 (fun _ => true) true n 22 cs = some x) (hR : ∀ k ∈ x.1.weights Tryd.prog 22, k ≤ R) :
    ∃ a : Jn.Bv, cs = Jn.cV a ∧ (rdB W a.v a.bs ∧ a.bs.length ≤ R) := by
  obtain ⟨u, bs, e2, hc2, hr2, hb2⟩ := trod_bytes u_bytes u_byte (by kernel_rfl) (by kernel_rfl) h
  exact ⟨⟨u, bs, hc2.pf⟩, e2, hr2, hb2 R hR⟩
def DdP (W : World) (a : Jn.Dd) : Prop := rdB W a.bv.1 a.bytes ∧ rdX W a.rv.1 a.recs.length (a.recs.flatMap Jn.cV) ∧ (∀ q ∈ a.recs, rdB W q.v q.bs ∧ q.bs.length ≤ 140737488351232) ∧ a.n ≤ 9223372036854775807 ∧ a.bytes.length ≤ 140737488351232
theorem elem_deedJ {n : Nat} {cs : List Value} {x : DataW H × List MemPlace} (h : DataW.trod enc Tryd.prog W 0 (fun _ => true) true n 57 cs = some x) (hR : ∀ k ∈ x.1.weights Tryd.prog 57, k ≤ reachBytes) :
    ∃ a : Jn.Dd, cs = Jn.cD a ∧ DdP W a := by
  obtain ⟨hl, m, hf⟩ := trod_fields [(3, 0), (3, 1), (22, 2), (30, 3), (47, 4)] (by kernel_rfl) h
  rw [c_deedJ] at hl
  match cs, hl with
  | [y0, y1, y2, y3, y4, y5, y6], _ =>
    obtain ⟨_, g0, _⟩ := hf 0 _ rfl
    obtain ⟨_, g1, _⟩ := hf 1 _ rfl
    obtain ⟨_, g2, w2⟩ := hf 2 _ rfl
    obtain ⟨_, g3, w3⟩ := hf 3 _ rfl
    obtain ⟨_, g4, _⟩ := hf 4 _ rfl
    simp only [c_intJ, c_bytesJ, c_bytessJ, c_crashJ] at g0 g1 g2 g3 g4
    obtain ⟨n0, e0, _⟩ := one_intJ g0
    obtain ⟨n1, e1, l1⟩ := one_intJ g1
    obtain ⟨bv, bs, e2, hc2, hr2, hb2⟩ := trod_bytes u_bytes u_byte (by kernel_rfl) (by kernel_rfl) g2
    have hbl := hb2 reachBytes fun k hk => hR k (w2 k hk)
    rw [reach_eq] at hbl
    obtain ⟨rv, rl, e3, hc3, hr3, hq3, _⟩ := trod_list (encl := Jn.cV) (by_ := 24) (R := reachBytes) u_bytess (by kernel_rfl) (by kernel_rfl) (by decide) (fun b => rdB W b.v b.bs ∧ b.bs.length ≤ reachBytes) (fun n cs x h hR => elem_bytesJ h hR) (fun k hk => hR k (w3 k hk)) g3
    obtain ⟨cw, e4, hk4⟩ := elem_crashJ g4
    simp at e0 e1 e2 e3 e4
    obtain ⟨e41, e42, e43⟩ := e4
    refine ⟨⟨n0, n1, ⟨bv, hc2.pf⟩, bs, ⟨rv, hc3.pf⟩, rl, cw.v, cw.c.torn, cw.c.at_⟩, by rw [e0, e1, e2, e3, e41, e42, e43], hr2, hr3, fun q hq => ?_, l1, hbl⟩
    have := hq3 q hq
    rw [reach_eq] at this
    exact this
theorem u_deedsJ : Tryd.prog.underlying 54 = some (.slice 57) := by kernel_rfl
theorem u_livesJ : Tryd.prog.underlying 52 = some (.slice 54) := by kernel_rfl
theorem u_crashesJ : Tryd.prog.underlying 53 = some (.slice 47) := by kernel_rfl
theorem elem_deedsJ {n : Nat} {cs : List Value} {x : DataW H × List MemPlace} (h : DataW.trod enc Tryd.prog W 0 (fun _ => true) true n 54 cs = some x) (hR : ∀ k ∈ x.1.weights Tryd.prog 54, k ≤ reachBytes) :
    ∃ a : Jn.Lv, cs = Jn.cLv a ∧ (rdX W a.v.1 a.ds.length (a.ds.flatMap Jn.cD) ∧ ∀ d ∈ a.ds, DdP W d) := by
  obtain ⟨v, l, e, hc, hr, hq, _⟩ := trod_list (encl := Jn.cD) (by_ := 104) (R := reachBytes) u_deedsJ (by kernel_rfl) (by kernel_rfl) (by decide) (DdP W) (fun n cs x h hR => elem_deedJ h hR) hR h
  exact ⟨⟨⟨v, hc.pf⟩, l⟩, e, hr, hq⟩
def Q_tLives14 (w : World) (v : Value) : Prop := ∃ l : List Jn.Lv, CellI v ∧ rdX w v l.length (l.flatMap Jn.cLv) ∧ (∀ x ∈ l, rdX w x.v.1 x.ds.length (x.ds.flatMap Jn.cD) ∧ ∀ d ∈ x.ds, DdP w d) ∧ l.length ≤ 140737488351232
theorem op_tLives14 (_hok : Value.okWide Tryd.prog W .any base 52 v) (h : ∃ m, DataW.trod enc Tryd.prog W 0 (fun _ => true) true m 52 v.cells.toList = some (d, p)) (_hw : ∀ k ∈ d.weights Tryd.prog 52, k ≤ reachBytes) : Q_tLives14 W v := by
  obtain ⟨m, hm⟩ := h
  obtain ⟨u, l, hc, h1, h2, h4, h3⟩ := trod_list (encl := Jn.cLv) (by_ := 24) (R := reachBytes) u_livesJ (by kernel_rfl) (by kernel_rfl) (by decide) (fun a => rdX W a.v.1 a.ds.length (a.ds.flatMap Jn.cD) ∧ ∀ d ∈ a.ds, DdP W d) (fun n cs x h hR => elem_deedsJ h hR) _hw hm
  have := one_slice u_livesJ _hok rfl hc
  subst this
  rw [reach_eq] at h3
  exact ⟨l, h1, h2, h4, by omega⟩
def Q_tCrashes (w : World) (v : Value) : Prop := ∃ l : List Jn.Cw, CellI v ∧ rdX w v l.length (l.flatMap Jn.cCw) ∧ ∀ x ∈ l, rdX w x.v.1 x.c.keep.length (bools x.c.keep)
theorem op_tCrashes (_hok : Value.okWide Tryd.prog W .any base 53 v) (h : ∃ m, DataW.trod enc Tryd.prog W 0 (fun _ => true) true m 53 v.cells.toList = some (d, p)) (_hw : ∀ k ∈ d.weights Tryd.prog 53, k ≤ reachBytes) : Q_tCrashes W v := by
  obtain ⟨m, hm⟩ := h
  obtain ⟨u, l, hc, h1, h2, h4, h3⟩ := trod_list (encl := Jn.cCw) (by_ := 40) (R := reachBytes) u_crashesJ (by kernel_rfl) (by kernel_rfl) (by decide) (fun x => rdX W x.v.1 x.c.keep.length (bools x.c.keep)) (fun n cs x h hR => elem_crashJ h) _hw hm
  have := one_slice u_crashesJ _hok rfl hc
  subst this
  exact ⟨l, h1, h2, h4⟩
def Q_tCrash (w : World) (v : Value) : Prop := ∃ a : Jn.Cw, v = .agg #[a.v.1, .int .i64 a.c.torn, .int .i64 a.c.at_] ∧ rdX w a.v.1 a.c.keep.length (bools a.c.keep)
theorem op_tCrash (_hok : Value.okWide Tryd.prog W .any base 47 v) (h : ∃ m, DataW.trod enc Tryd.prog W 0 (fun _ => true) true m 47 v.cells.toList = some (d, p)) (_hw : ∀ k ∈ d.weights Tryd.prog 47, k ≤ reachBytes) : Q_tCrash W v := by
  obtain ⟨cs, rfl, _⟩ := okWide_struct Tryd.underlying47 _hok
  obtain ⟨m, hm⟩ := h
  have e : (Value.agg cs).cells.toList = cs.toList := rfl
  rw [e] at hm
  obtain ⟨a, e1, h1⟩ := elem_crashJ hm
  refine ⟨a, ?_, h1⟩
  obtain ⟨l, hcl⟩ : ∃ l, cs = l.toArray := ⟨cs.toList, by simp⟩
  subst hcl
  simp only at e1
  rw [e1]
theorem ddOk {w : World} {a : Jn.Dd} (h : DdP w a) : Jn.DdOk w a := ⟨⟨h.1⟩, ⟨h.2.1⟩, fun q hq => ⟨(h.2.2.1 q hq).1⟩, h.2.2.2.1, by have := h.2.2.2.2; omega, fun q hq => by have := (h.2.2.1 q hq).2; omega⟩
theorem walk_JournalCrash {w : World} {v0 v1 v2 : Value} (h0 : Q_tLives14 w v0) (h1 : Q_tCrashes w v1) (h2 : Q_tCrash w v2) : Calls Tryd.prog 5 #[v0, v1, v2] w fun e w' => e = .returned (.bool true) ∧ Below w.heap.size w w' := by
  obtain ⟨l, _, hr, hq, hl⟩ := h0
  obtain ⟨cs, _, hrc, hqc⟩ := h1
  obtain ⟨a, rfl, ha⟩ := h2
  have i1 : BaseS w v0 Jn.cLv l := ⟨hr⟩
  have i2 : BaseS w v1 Jn.cCw cs := ⟨hrc⟩
  have i3 : BaseX w a.v.1 a.c.keep.length (bools a.c.keep) := ⟨ha⟩
  exact calls_of (args := [v0, v1, .agg #[a.v.1, .int .i64 a.c.torn, .int .i64 a.c.at_]]) fun K h => Jn.journalCrash (lives := l) (cs := cs) (fun x hx => ⟨⟨(hq x hx).1⟩, fun d hd => ddOk ((hq x hx).2 d hd)⟩) (fun x hx => ⟨hqc x hx⟩) (by omega) h
end Go.Proofs.YtinggiidkfnlkaaDoor.Row
end
