/-
  Model: Same, on the program's side.
-/
import Derived.Test.YtabpaknfenpkoaaGreatLwI
set_option linter.unusedSimpArgs false
set_option linter.unusedVariables false
set_option linter.unusedSectionVars false
namespace Go.Proofs.YtabpaknfenpkoaaGreat.Mod
open Go Go.SL Go.Proofs Go.Proofs.YtabpaknfenpkoaaGreat.Sh
attribute [local irreducible] S.pick S.ld S.ldN S.st S.box S.nc S.fad S.ixS S.ixA S.chr S.prt S.ext S.bin S.sh S.sbin S.beq S.neg1 S.com1 S.not1 S.cvt S.str1 S.lenS S.len S.cap S.lenM S.mx S.mn S.mkM S.cond S.gd S.fa S.dr S.rck S.join S.loop S.cvv S.eqv S.slc S.slcS S.b2s S.lk V U CF Gives E cel mpb osl ros dct dit itr lpo dfo
set_option maxRecDepth 4000
attribute [local irreducible] mo ansH rmo
variable {B : World} {H : List Asrt} {K : Value → WT} {W : WT}
variable {a b : Nat} {M N : Mo} {n : Int}
theorem eq_ver (a b : Ver) (w : World) : (Op.equal 98 (.agg (vC a).toArray) (.agg (vC b).toArray)).run Tryz.prog w = .ok (decide (a.gen = b.gen ∧ a.time = b.time ∧ a.text = b.text ∧ a.gone = b.gone)) w := by
  rw [run_eqStruct (xs := vC a) (ys := vC b) (bs := [decide (a.gen = b.gen), decide (a.time = b.time), decide (a.text = b.text), decide (a.gone = b.gone)]) [3, 3, 9, 4] (by kernel_rfl) (by kernel_rfl) (by kernel_rfl) rfl (fun i t b' h1 h2 => by
    match i, h1, h2 with
    | 0, h1, h2 => cases h1; cases h2; exact ⟨_, _, rfl, rfl, eqV_int u_int⟩
    | 1, h1, h2 => cases h1; cases h2; exact ⟨_, _, rfl, rfl, eqV_int u_int⟩
    | 2, h1, h2 => cases h1; cases h2; exact ⟨_, _, rfl, rfl, eqV_str u_string⟩
    | 3, h1, h2 => cases h1; cases h2; exact ⟨_, _, rfl, rfl, eqV_bool (by kernel_rfl)⟩
    | n + 4, h1, h2 => simp at h1) w]
  simp [Bool.decide_and, Bool.and_assoc]
theorem ver_eq {a b : Ver} (hn : a.name = b.name) : a = b ↔ a.gen = b.gen ∧ a.time = b.time ∧ a.text = b.text ∧ a.gone = b.gone := by
  cases a; cases b; simp_all
/-- slices.Equal of two files. -/
theorem eqVers {v1 v2 : Value} {l1 l2 : List Ver} [h1 : Rs B H v1 vC l1] [h2 : Rs B H v2 vC l2] (hl : l1.length ≤ 140737488355328) (hn : ∀ (i : Nat) (x y : Ver), l1[i]? = some x → l2[i]? = some y → x.name = y.name) (h : E B H (K (.bool (decide (l1 = l2))))) :
    E B H (CF Tryz.prog 57 [v1, v2] K) := by
  refine E_mono (W := s57 _ _ K) ?_ fun _ => c57
  unfold s57
  refine E_mono (W := s58 _ _ _) ?_ fun _ => c58
  unfold s58
  refine E_rslen (v := v1) (l := l1) ?_
  refine E_rslen (v := v2) (l := l2) ?_
  refine E_neq ?_
  refine E_if (fun hc => ?_) (fun hc => ?_)
  · have e : decide (l1 = l2) = false := decide_eq_false fun e => hc (by rw [e])
    rw [e] at h; exact h
  · have hlen : l1.length = l2.length := by omega
    refine E_rslen (v := v1) (l := l1) ?_
    refine E_loop (σ := Nat) (fun i => i ≤ l1.length ∧ l1.take i = l2.take i) (fun i => [v1, v2, I l1.length, I i]) (fun _ => H) (fun i => l1.length - i) 0 (fun _ => rfl) rfl ⟨Nat.zero_le _, by simp⟩ (fun W hW => hW) ?_
    rintro i K0 ⟨hi, he⟩ hk
    refine E_fa fun _ => ?_
    refine E_lss ?_
    refine E_if (fun hc2 => ?_) (fun hc2 => ?_)
    · have hx : l1[i]? = some l1[i] := List.getElem?_eq_getElem (by omega)
      have hy : l2[i]? = some l2[i] := List.getElem?_eq_getElem (by omega)
      generalize l1[i] = x at hx
      generalize l2[i] = y at hy
      refine E_dr ?_
      refine E_rsix (v := v1) (l := l1) hx fun _ _ => ?_
      refine E_ptldA ?_
      refine E_rsix (v := v2) (l := l2) hy fun _ _ => ?_
      refine E_ptldA ?_
      refine E_ane (xs := (vC x).toArray) (ys := (vC y).toArray) (b := decide (x = y)) (by kernel_rfl) (fun w => by rw [eq_ver x y w, decide_eq_decide.2 (ver_eq (hn i x y hx hy))]) ?_
      by_cases hxy : x = y
      · rw [decide_eq_true hxy]
        refine E_ff ?_
        refine E_addI (by omega) (by omega) ?_
        refine hk (i + 1) ⟨by omega, ?_⟩ (by omega)
        rw [List.take_add_one, List.take_add_one, he, hx, hy, hxy]
      · rw [decide_eq_false hxy]
        refine E_tt ?_
        have e : decide (l1 = l2) = false := decide_eq_false fun e => hxy (by rw [e, hy] at hx; exact (Option.some.inj hx).symm)
        rw [e] at h; exact h
    · have hie : i = l1.length := by omega
      subst hie
      rw [List.take_length, hlen, List.take_length] at he
      rw [decide_eq_true he] at h
      exact h
/-- maps.EqualFunc. -/
noncomputable def eqC (ty : Nat) (z m1_0 m2_1 eq_2 : Value) (K : Value → WT) : WT :=
  S.lenM m1_0 fun v12 =>
  S.lenM m2_1 fun v14 =>
  S.bin .neq v12 v14 fun v15 =>
  S.cond v15 (
    K (.bool false)) (
    V Tryz.prog (Instr.range ty m1_0) fun v17 =>
    S.loop 3 (fun K0 => fun m2_1' eq_2' v17' => S.fa fun _ =>
      V Tryz.prog (Instr.next v17' false 0) fun v18 =>
      S.ext v18 0 fun v19 =>
      S.cond v19 (
        V Tryz.prog (Instr.entry v17') fun v20 =>
        S.ext v20 0 fun v21 =>
        S.ext v20 1 fun v22 =>
        S.lk .string z true m2_1' v21 fun v26 =>
        S.ext v26 0 fun v27 =>
        S.ext v26 1 fun v28 =>
        S.join 4 (fun K1 =>
          S.not1 v28 fun v30 =>
          S.gd v30 false (fun k => k eq_2') fun v32 =>
          S.gd v30 false (fun k => k v22) fun v33 =>
          S.gd v30 false (fun k => k v27) fun v34 =>
          S.gd v30 false (fun k => S.cvv Tryz.prog v32 [v33, v34] k) fun v35 =>
          S.gd v30 false (fun k => S.not1 v35 k) fun v36 =>
          S.pick v30 (.bool true) v36 fun v37 =>
          K1 m2_1' eq_2' v17' v37)
        <| fun m2_1'2 eq_2'2 v17'2 v37' => S.fa fun _ =>
        S.cond v37' (
          K (.bool false)) (
          K0 m2_1'2 eq_2'2 v17'2)) (
        K (.bool true)))
    [m2_1, eq_2, v17])
theorem s56_eq (x y z : Value) (K : Value → WT) : s56 x y z K = eqC 78 nil x y z K := by kernel_rfl
theorem s59_eq (x y z : Value) (K : Value → WT) : s59 x y z K = eqC 79 (.map none) x y z K := by kernel_rfl
def SameKV (kv kv' : List (List UInt8 × Value)) (R : List UInt8 → Prop) : Prop := kv.length = kv'.length ∧ ∀ p ∈ kv, (lk kv' p.1).isSome = true ∧ R p.1
instance (kv kv' : List (List UInt8 × Value)) (R : List UInt8 → Prop) [DecidablePred R] : Decidable (SameKV kv kv' R) := by unfold SameKV; infer_instance
theorem eqC_ok {ty kt el r1 r2 cf : Nat} {z : Value} {kv kv' : List (List UInt8 × Value)} {p1 p2 : Asrt} (R : List UInt8 → Prop) [DecidablePred R] (hu : Tryz.prog.underlying ty = some (.map kt el)) (hok : callOk Tryz.prog cf = true)
    (hcall : ∀ (k : List UInt8) (v v' : Value) (K : Value → WT) (G : List Asrt), lk kv k = some v → lk kv' k = some v' → E B (p1 :: p2 :: G) (K (.bool (decide (R k)))) → E B (p1 :: p2 :: G) (CF Tryz.prog cf [v, v'] K))
    (h : E B (dct kL true r1 kv :: dct kL true r2 kv' :: p1 :: p2 :: H) (K (.bool (decide (SameKV kv kv' R))))) :
    E B (dct kL true r1 kv :: dct kL true r2 kv' :: p1 :: p2 :: H) (eqC ty z (.map (some r1)) (.map (some r2)) (.func (.func cf) #[] #[]) K) := by
  unfold eqC
  refine E_dnod fun hn1 => ?_
  refine E_dlen (κ := List UInt8) ?_
  refine E_dlen (κ := List UInt8) ?_
  refine E_neq ?_
  refine E_if (fun hc => ?_) (fun hc => ?_)
  · have e : decide (SameKV kv kv' R) = false := decide_eq_false fun e => hc (by rw [e.1])
    rw [e] at h; exact sm h
  · refine E_drange (κ := List UInt8) hu fun it => ?_
    refine E_loop (n := 3) (σ := List (List UInt8 × Value) × Option (List UInt8 × Value)) (fun s => ∃ done, (done ++ s.1).Perm kv ∧ ∀ p ∈ done, (lk kv' p.1).isSome = true ∧ R p.1)
      (fun s => [.map (some r2), .func (.func cf) #[] #[], .pointer (some ⟨it, 0, none⟩)])
      (fun s => dit kL true it r1 kv s.1 s.2 :: dct kL true r2 kv' :: p1 :: p2 :: H)
      (fun s => s.1.length) (kv, none) (fun s => rfl) rfl ⟨[], by simp, by simp⟩ (fun W hW => sm hW) ?_
    rintro ⟨rest, cur⟩ K0 ⟨done, hp, hd⟩ hk
    simp only at hp hd hk ⊢
    refine E_fa fun _ => ?_
    refine E_dnext (κ := List UInt8) (fun hr0 => ?_) (fun p rest' hp' => ?_)
    · subst hr0
      (repeat first | refine gS ?_ | refine gA fun _ => ?_ | refine gX fun _ _ => ?_ | refine gT ?_ | refine gF ?_ | refine gI ?_)
      refine fd (a := dit kL true it r1 kv [] none) (E_idone ?_)
      have e : decide (SameKV kv kv' R) = true := decide_eq_true ⟨by omega, fun p hpm => hd p (by have := (hp.mem_iff (a := p)).2 hpm; simpa using this)⟩
      rw [e] at h
      exact sm h
    · (repeat first | refine gS ?_ | refine gA fun _ => ?_ | refine gX fun _ _ => ?_ | refine gT ?_ | refine gF ?_ | refine gI ?_)
      refine E_dentry (κ := List UInt8) ?_
      (repeat first | refine gS ?_ | refine gA fun _ => ?_ | refine gX fun _ _ => ?_ | refine gT ?_ | refine gF ?_ | refine gI ?_)
      obtain ⟨k, v⟩ := p
      have hm : (k, v) ∈ kv := (hp.mem_iff).1 (List.mem_append_right _ ((hp'.mem_iff).2 (by simp)))
      have hlk : lk kv k = some v := lookup_of_mem hn1 hm
      have fin : ∀ {G : List Asrt}, Same (dit kL true it r1 kv rest' (some (k, v)) :: dct kL true r2 kv' :: p1 :: p2 :: H) G → E B G (S.fa fun _ => S.cond (.bool (decide (¬ ((lk kv' k).isSome = true ∧ R k)))) (K (.bool false)) (K0 (.map (some r2)) (.func (.func cf) #[] #[]) (.pointer (some ⟨it, 0, none⟩)))) := fun hG => by
        refine E_same hG ?_
        refine E_fa fun _ => ?_
        refine E_if (fun hb => ?_) (fun hb => ?_)
        · refine E_idone ?_
          have e : decide (SameKV kv kv' R) = false := decide_eq_false fun e => hb (e.2 _ hm)
          rw [e] at h
          exact h
        · exact hk (rest', some (k, v)) ⟨done ++ [(k, v)], by
            simp only [List.append_assoc, List.singleton_append]
            exact (hp'.symm.append_left done).trans hp, fun p hpm => by
            rcases List.mem_append.1 hpm with hpm | hpm
            · exact hd p hpm
            · simp only [List.mem_singleton] at hpm
              subst hpm
              exact Decidable.not_not.1 hb⟩ (by simpa using hp'.length_eq ▸ Nat.lt_succ_self _)
      cases hl : lk kv' k with
      | none =>
        refine E_dlk0 (κ := List UInt8) hl ?_
        (repeat first | refine gS ?_ | refine gA fun _ => ?_ | refine gX fun _ _ => ?_ | refine gT ?_ | refine gF ?_ | refine gI ?_)
        refine E_join1 [.map (some r2), .func (.func cf) #[] #[], .pointer (some ⟨it, 0, none⟩), .bool (decide (¬ ((lk kv' k).isSome = true ∧ R k)))] (dit kL true it r1 kv rest' (some (k, v)) :: dct kL true r2 kv' :: p1 :: p2 :: H) (fun q hq => ?_) (fin Same.refl)
        have e : decide (¬ ((lk kv' k).isSome = true ∧ R k)) = true := decide_eq_true fun e => by rw [hl] at e; simp at e
        rw [e] at hq
        (repeat first | refine gS ?_ | refine gA fun _ => ?_ | refine gX fun _ _ => ?_ | refine gT ?_ | refine gF ?_ | refine gI ?_)
        exact sm hq
      | some v' =>
        refine E_dlk1 (κ := List UInt8) hl ?_
        (repeat first | refine gS ?_ | refine gA fun _ => ?_ | refine gX fun _ _ => ?_ | refine gT ?_ | refine gF ?_ | refine gI ?_)
        refine E_join1 [.map (some r2), .func (.func cf) #[] #[], .pointer (some ⟨it, 0, none⟩), .bool (decide (¬ ((lk kv' k).isSome = true ∧ R k)))] (dit kL true it r1 kv rest' (some (k, v)) :: dct kL true r2 kv' :: p1 :: p2 :: H) (fun q hq => ?_) (fin Same.refl)
        have e : decide (¬ ((lk kv' k).isSome = true ∧ R k)) = decide (¬ R k) := by rw [decide_eq_decide, hl]; simp
        rw [e] at hq
        (repeat first | refine gS ?_ | refine gA fun _ => ?_ | refine gX fun _ _ => ?_ | refine gT ?_ | refine gF ?_ | refine gI ?_)
        refine E_cvv hok ?_
        refine sm (G := p1 :: p2 :: dit kL true it r1 kv rest' (some (k, v)) :: dct kL true r2 kv' :: H) ?_
        refine hcall k v v' _ _ hlk hl ?_
        (repeat first | refine gS ?_ | refine gA fun _ => ?_ | refine gX fun _ _ => ?_ | refine gT ?_ | refine gF ?_ | refine gI ?_)
        exact sm hq
end Go.Proofs.YtabpaknfenpkoaaGreat.Mod
