/-
  Model: Same, on the program's side (snapshots; both).
-/
import Derived.Test.YtabpaknfenpkoaaGreatLwL
set_option linter.unusedSimpArgs false
set_option linter.unusedVariables false
set_option linter.unusedSectionVars false
namespace Go.Proofs.YtabpaknfenpkoaaGreat.Mod
open Go Go.SL Go.Proofs Go.Proofs.YtabpaknfenpkoaaGreat.Sh
variable {B : World} {H : List Asrt} {K : Value → WT} {W : WT}
variable {a b : Nat} {M N : Mo} {n m : Int}
theorem sorted_ext {α : Type} {r : α → α → Prop} (ha : ∀ a b, r a b → ¬ r b a) {l l' : List α} (h : l.Pairwise r) (h' : l'.Pairwise r) (hm : ∀ a, a ∈ l ↔ a ∈ l') : l = l' :=
  List.Perm.eq_of_pairwise (le := r) (fun a b _ _ h1 h2 => (ha a b h1 h2).elim) h h' ((List.perm_ext_iff_of_nodup (h.imp fun {a b} hr (e : a = b) => by subst e; exact ha _ _ hr hr) (h'.imp fun {a b} hr (e : a = b) => by subst e; exact ha _ _ hr hr)).2 hm)
theorem lk_ext {l l' : List (List UInt8 × Int)} (h : (l.map (·.1)).Pairwise (· < ·)) (h' : (l'.map (·.1)).Pairwise (· < ·)) (hm : ∀ k, lk l k = lk l' k) : l = l' := by
  have nd : ∀ {l : List (List UInt8 × Int)}, (l.map (·.1)).Pairwise (· < ·) → (l.map (·.1)).Nodup := fun h => h.imp fun h => slt_ne h
  refine sorted_ext (r := fun p q => p.1 < q.1) (fun a b h => slt_asymm h) (List.pairwise_map.1 h) (List.pairwise_map.1 h') fun p => ?_
  exact ⟨fun hp => lk_in (by rw [← hm]; exact lk_of (nd h) hp), fun hp => lk_in (by rw [hm]; exact lk_of (nd h') hp)⟩
theorem V_ext {V V' : List Ver} (h : SrtN V) (h' : SrtN V') (hm : ∀ k, fof V k = fof V' k) : V = V' := by
  have e : nms V = nms V' := by
    refine sorted_ext (r := fun a b => a < b) (fun a b h => slt_asymm h) (nms_lt h) (nms_lt h') fun k => ?_
    have h1 : ∀ {V : List Ver}, k ∈ nms V ↔ fof V k ≠ [] := ⟨fof_some, fun hk => Classical.byContradiction fun hn => hk (fof_none hn)⟩
    rw [h1, h1, hm]
  rw [V_flat h, V_flat h', e]
  exact flatMap_congr' fun k _ => hm k
theorem S_ext {S S' : List Sn} (h : S.Pairwise fun a b => a.name < b.name) (h' : S'.Pairwise fun a b => a.name < b.name) (hm : ∀ k, sof S k = sof S' k) : S = S' := by
  refine sorted_ext (r := fun a b => a.name < b.name) (fun a b h => slt_asymm h) h h' fun s => ?_
  exact ⟨fun hs => (sof_some (by rw [← hm]; exact sof_of h hs)).1, fun hs => (sof_some (by rw [hm]; exact sof_of h' hs)).1⟩
theorem lk_keys {kv : List (List UInt8 × Value)} {k : List UInt8} : (lk kv k).isSome = true ↔ k ∈ kv.map (·.1) := by
  cases hl : lk kv k with
  | none => simpa using lookup_none.1 hl
  | some v => simpa using ⟨v, lookup_mem hl⟩
theorem sameKV_iff {kv kv' : List (List UInt8 × Value)} {R : List UInt8 → Prop} (hn : (kv.map (·.1)).Nodup) (hn' : (kv'.map (·.1)).Nodup) (hR : ∀ k, lk kv k = none → lk kv' k = none → R k) (hR' : ∀ k, R k → ((lk kv k).isSome = true ↔ (lk kv' k).isSome = true)) :
    SameKV kv kv' R ↔ ∀ k, R k := by
  constructor
  · rintro ⟨h1, h2⟩ k
    cases hl : lk kv k with
    | some v => exact (h2 _ (lookup_mem hl)).2
    | none =>
      refine hR k hl ?_
      cases hl' : lk kv' k with
      | none => rfl
      | some v =>
        exfalso
        have hk : k ∉ kv.map (·.1) := lookup_none.1 hl
        have := len_sub (l := k :: kv.map (·.1)) (l' := kv'.map (·.1)) (List.nodup_cons.2 ⟨hk, hn⟩) fun q hq => by
          rcases List.mem_cons.1 hq with rfl | hq
          · exact List.mem_map_of_mem (f := (·.1)) (lookup_mem hl')
          · obtain ⟨p, hp, rfl⟩ := List.mem_map.1 hq
            exact lk_keys.1 (h2 p hp).1
        simp only [List.length_cons, List.length_map] at this
        omega
  · intro h
    refine ⟨?_, fun p hp => ⟨(hR' _ (h _)).1 (lk_keys.2 (List.mem_map_of_mem (f := (·.1)) hp)), h _⟩⟩
    have h1 := len_sub (l := kv.map (·.1)) (l' := kv'.map (·.1)) hn fun k hk => lk_keys.1 ((hR' k (h k)).1 (lk_keys.2 hk))
    have h2 := len_sub (l := kv'.map (·.1)) (l' := kv.map (·.1)) hn' fun k hk => lk_keys.1 ((hR' k (h k)).2 (lk_keys.2 hk))
    simp only [List.length_map] at h1 h2
    omega
attribute [local irreducible] S.pick S.ld S.ldN S.st S.box S.nc S.fad S.ixS S.ixA S.chr S.prt S.ext S.bin S.sh S.sbin S.beq S.neg1 S.com1 S.not1 S.cvt S.str1 S.lenS S.len S.cap S.lenM S.mx S.mn S.mkM S.cond S.gd S.fa S.dr S.rck S.join S.loop S.cvv S.eqv S.slc S.slcS S.b2s S.lk V U CF Gives E cel mpb osl ros dct dit itr lpo dfo
set_option maxRecDepth 4000
attribute [local irreducible] mo ansH rmo
theorem u_shot93 : Tryz.prog.underlying 93 = some (.map 9 3) := by kernel_rfl
/-- maps.Equal of two snapshots. -/
theorem eqShot {r1 r2 : Nat} {kv kv' : List (List UInt8 × Value)} {t t' : List (List UInt8 × Int)} (h1 : ∀ n, lk kv n = (lk t n).map kI) (h2 : ∀ n, lk kv' n = (lk t' n).map kI)
    (h : E B (dct kL false r1 kv :: dct kL false r2 kv' :: H) (K (.bool (decide (SameKV kv kv' fun k => lk t k = lk t' k))))) :
    E B (dct kL false r1 kv :: dct kL false r2 kv' :: H) (CF Tryz.prog 61 [.map (some r1), .map (some r2)] K) := by
  refine E_mono (W := s61 _ _ K) ?_ fun _ => c61
  unfold s61
  have hR : ∀ n, lk kv n = none ↔ lk t n = none := fun n => by rw [h1]; simp
  refine E_dnod fun hn1 => ?_
  refine E_dlen (κ := List UInt8) ?_
  refine E_dlen (κ := List UInt8) ?_
  refine E_neq ?_
  refine E_if (fun hc => ?_) (fun hc => ?_)
  · have e : decide (SameKV kv kv' fun k => lk t k = lk t' k) = false := decide_eq_false fun e => hc (by rw [e.1])
    rw [e] at h; exact sm h
  · refine E_drange (κ := List UInt8) u_shot93 fun it => ?_
    refine E_loop (n := 2) (σ := List (List UInt8 × Value) × Option (List UInt8 × Value)) (fun s => ∃ done, (done ++ s.1).Perm kv ∧ ∀ p ∈ done, (lk kv' p.1).isSome = true ∧ lk t p.1 = lk t' p.1)
      (fun s => [.map (some r2), .pointer (some ⟨it, 0, none⟩)])
      (fun s => dit kL false it r1 kv s.1 s.2 :: dct kL false r2 kv' :: H)
      (fun s => s.1.length) (kv, none) (fun s => rfl) rfl ⟨[], by simp, by simp⟩ (fun W hW => sm hW) ?_
    rintro ⟨rest, cur⟩ K0 ⟨done, hp, hd⟩ hk
    simp only at hp hd hk ⊢
    refine E_fa fun _ => ?_
    refine E_dnext (κ := List UInt8) (fun hr0 => ?_) (fun p rest' hp' => ?_)
    · subst hr0
      (repeat first | refine gS ?_ | refine gA fun _ => ?_ | refine gX fun _ _ => ?_ | refine gT ?_ | refine gF ?_ | refine gI ?_)
      refine fd (a := dit kL false it r1 kv [] none) (E_idone ?_)
      have e : decide (SameKV kv kv' fun k => lk t k = lk t' k) = true := decide_eq_true ⟨by omega, fun p hpm => hd p (by have := (hp.mem_iff (a := p)).2 hpm; simpa using this)⟩
      rw [e] at h
      exact sm h
    · (repeat first | refine gS ?_ | refine gA fun _ => ?_ | refine gX fun _ _ => ?_ | refine gT ?_ | refine gF ?_ | refine gI ?_)
      refine E_dentry (κ := List UInt8) ?_
      (repeat first | refine gS ?_ | refine gA fun _ => ?_ | refine gX fun _ _ => ?_ | refine gT ?_ | refine gF ?_ | refine gI ?_)
      obtain ⟨k, v⟩ := p
      have hm : (k, v) ∈ kv := (hp.mem_iff).1 (List.mem_append_right _ ((hp'.mem_iff).2 (by simp)))
      have hlk : lk kv k = some v := lookup_of_mem hn1 hm
      obtain ⟨z, hz, hv⟩ : ∃ z, lk t k = some z ∧ v = kI z := by
        rw [h1] at hlk
        cases hz : lk t k with
        | none => rw [hz] at hlk; cases hlk
        | some z => rw [hz] at hlk; exact ⟨z, rfl, (Option.some.inj hlk).symm⟩
      subst hv
      have fin : ∀ {G : List Asrt}, Same (dit kL false it r1 kv rest' (some (k, kI z)) :: dct kL false r2 kv' :: H) G → E B G (S.fa fun _ => S.cond (.bool (decide (¬ ((lk kv' k).isSome = true ∧ lk t k = lk t' k)))) (K (.bool false)) (K0 (.map (some r2)) (.pointer (some ⟨it, 0, none⟩)))) := fun hG => by
        refine E_same hG ?_
        refine E_fa fun _ => ?_
        refine E_if (fun hb => ?_) (fun hb => ?_)
        · refine E_idone ?_
          have e : decide (SameKV kv kv' fun k => lk t k = lk t' k) = false := decide_eq_false fun e => hb (e.2 _ hm)
          rw [e] at h
          exact h
        · exact hk (rest', some (k, kI z)) ⟨done ++ [(k, kI z)], by
            simp only [List.append_assoc, List.singleton_append]
            exact (hp'.symm.append_left done).trans hp, fun p hpm => by
            rcases List.mem_append.1 hpm with hpm | hpm
            · exact hd p hpm
            · simp only [List.mem_singleton] at hpm
              subst hpm
              exact Decidable.not_not.1 hb⟩ (by simpa using hp'.length_eq ▸ Nat.lt_succ_self _)
      cases hl : lk t' k with
      | none =>
        refine E_dlk0 (κ := List UInt8) (show lk kv' k = none by rw [h2, hl]; rfl) ?_
        (repeat first | refine gS ?_ | refine gA fun _ => ?_ | refine gX fun _ _ => ?_ | refine gT ?_ | refine gF ?_ | refine gI ?_)
        refine E_join1 [.map (some r2), .pointer (some ⟨it, 0, none⟩), .bool (decide (¬ ((lk kv' k).isSome = true ∧ lk t k = lk t' k)))] (dit kL false it r1 kv rest' (some (k, kI z)) :: dct kL false r2 kv' :: H) (fun q hq => ?_) (fin Same.refl)
        have e : decide (¬ ((lk kv' k).isSome = true ∧ lk t k = lk t' k)) = true := decide_eq_true fun e => by rw [h2, hl] at e; simp at e
        rw [e] at hq
        (repeat first | refine gS ?_ | refine gA fun _ => ?_ | refine gX fun _ _ => ?_ | refine gT ?_ | refine gF ?_ | refine gI ?_)
        exact sm hq
      | some z' =>
        refine E_dlk1 (κ := List UInt8) (v := kI z') (show lk kv' k = _ by rw [h2, hl]; rfl) ?_
        (repeat first | refine gS ?_ | refine gA fun _ => ?_ | refine gX fun _ _ => ?_ | refine gT ?_ | refine gF ?_ | refine gI ?_)
        refine E_join1 [.map (some r2), .pointer (some ⟨it, 0, none⟩), .bool (decide (¬ ((lk kv' k).isSome = true ∧ lk t k = lk t' k)))] (dit kL false it r1 kv rest' (some (k, kI z)) :: dct kL false r2 kv' :: H) (fun q hq => ?_) (fin Same.refl)
        have e : decide (¬ ((lk kv' k).isSome = true ∧ lk t k = lk t' k)) = decide (z ≠ z') := by rw [decide_eq_decide, h2, hl, hz]; simp
        rw [e] at hq
        (repeat first | refine gS ?_ | refine gA fun _ => ?_ | refine gX fun _ _ => ?_ | refine gT ?_ | refine gF ?_ | refine gI ?_)
        exact sm hq
/-- Snapshots' files by their names. -/
def HSrt (M : Mo) : Prop := ∀ s ∈ M.S, (s.held.map (·.1)).Pairwise (· < ·)
theorem same2 (hM : Wf M) (hN : Wf N) (hfM : ∀ k, (fof M.V k).length ≤ 32) (hsM : HSrt M) (hsN : HSrt N) (h : E B (mo a M :: mo b N :: H) (K (.bool (decide (M.now = N.now ∧ M.V = N.V ∧ M.S = N.S))))) :
    E B (mo a M :: mo b N :: H) (CF Tryz.prog 16 [ptr a, ptr b] K) := by
  have fin : ∀ c : Bool, decide (M.now = N.now ∧ M.V = N.V ∧ M.S = N.S) = c → E B (mo a M :: mo b N :: H) (K (.bool c)) := fun c hc => hc ▸ h
  refine E_mono (W := s16 _ _ K) ?_ fun _ => c16
  unfold s16
  refine E_dr ?_
  refine E_pne u_pModel ?_
  (repeat first | refine gS ?_ | refine gA fun _ => ?_ | refine gX fun _ _ => ?_ | refine gT ?_ | refine gF ?_ | refine gI ?_)
  refine E_pne u_pModel ?_
  refine E_mo fun r1 r2 r3 kf ks ko Lv Lh hf hs ho => ?_
  refine fd (a := mo b N) ?_
  refine E_mo fun q1 q2 q3 kf' ks' ko' Lv' Lh' hf' hs' ho' => ?_
  have hend : ∀ c : Bool, decide (M.now = N.now ∧ M.V = N.V ∧ M.S = N.S) = c → E B (cel true a 82 [.map (some r1), .map (some r2), .map (some r3), I M.began, I M.now, I M.quota] :: dct kL true r1 kf :: dct kL true r2 ks :: dct kI true r3 ko :: spool vC Lv :: dpool kL Lh :: cel true b 82 [.map (some q1), .map (some q2), .map (some q3), I N.began, I N.now, I N.quota] :: dct kL true q1 kf' :: dct kL true q2 ks' :: dct kI true q3 ko' :: spool vC Lv' :: dpool kL Lh' :: H) (K (.bool c)) := fun c hc => by
    refine E_moS (M := M) r1 r2 r3 hf hs ho rfl rfl rfl ?_
    refine sm (G := cel true b 82 [.map (some q1), .map (some q2), .map (some q3), I N.began, I N.now, I N.quota] :: dct kL true q1 kf' :: dct kL true q2 ks' :: dct kI true q3 ko' :: spool vC Lv' :: dpool kL Lh' :: mo a M :: H) ?_
    refine E_moS (M := N) q1 q2 q3 hf' hs' ho' rfl rfl rfl ?_
    exact sm (fin c hc)
  refine fd (a := dct kL true r1 kf) (E_dnod fun hnf => ?_)
  refine fd (a := dct kL true q1 kf') (E_dnod fun hnf' => ?_)
  refine fd (a := dct kL true r2 ks) (E_dnod fun hns => ?_)
  refine fd (a := dct kL true q2 ks') (E_dnod fun hns' => ?_)
  have eV : M.V = N.V ↔ ∀ k, fof M.V k = fof N.V k := ⟨fun e k => by rw [e], V_ext hM.v.n hN.v.n⟩
  have eS : M.S = N.S ↔ ∀ k, sof M.S k = sof N.S k := ⟨fun e k => by rw [e], S_ext hM.ss hN.ss⟩
  have kV : SameKV kf kf' (fun k => fof M.V k = fof N.V k) ↔ M.V = N.V := by
    rw [eV]
    refine sameKV_iff hnf hnf' (fun k g1 g2 => ?_) (fun k g => ?_)
    · rcases hf k with ⟨_, e1⟩ | ⟨v, e1, _⟩
      · rcases hf' k with ⟨_, e2⟩ | ⟨v, e2, _⟩
        · rw [e1, e2]
        · rw [g2] at e2; cases e2
      · rw [g1] at e1; cases e1
    · rcases hf k with ⟨e1, e2⟩ | ⟨v, e1, _, e2⟩ <;> rcases hf' k with ⟨e3, e4⟩ | ⟨v', e3, _, e4⟩
      · simp [e1, e3]
      · rw [g] at e2; exact (e4 e2).elim
      · rw [← g] at e4; exact (e2 e4).elim
      · simp [e1, e3]
  have kS : SameKV ks ks' (fun k => sof M.S k = sof N.S k) ↔ M.S = N.S := by
    rw [eS]
    refine sameKV_iff hns hns' (fun k g1 g2 => ?_) (fun k g => ?_)
    · rcases hs k with ⟨_, e1⟩ | ⟨r, kv, s, e1, _⟩
      · rcases hs' k with ⟨_, e2⟩ | ⟨r, kv, s, e2, _⟩
        · rw [e1, e2]
        · rw [g2] at e2; cases e2
      · rw [g1] at e1; cases e1
    · rcases hs k with ⟨e1, e2⟩ | ⟨r, kv, s, e1, _, e2, _⟩ <;> rcases hs' k with ⟨e3, e4⟩ | ⟨r', kv', s', e3, _, e4, _⟩
      · simp [e1, e3]
      · rw [g, e4] at e2; cases e2
      · rw [g, e4] at e2; cases e2
      · simp [e1, e3]
  (repeat first | refine gS ?_ | refine gA fun _ => ?_ | refine gX fun _ _ => ?_ | refine gT ?_ | refine gF ?_ | refine gI ?_)
  by_cases g1 : M.now = N.now
  · (repeat first | refine gS ?_ | refine gA fun _ => ?_ | refine gX fun _ _ => ?_ | refine gT ?_ | refine gF ?_ | refine gI ?_)
    refine E_mono (W := s56 _ _ _ _) ?_ fun _ => c56
    rw [s56_eq]
    refine sm (G := dct kL true r1 kf :: dct kL true q1 kf' :: spool vC Lv :: spool vC Lv' :: cel true a 82 [.map (some r1), .map (some r2), .map (some r3), I M.began, I M.now, I M.quota] :: dct kL true r2 ks :: dct kI true r3 ko :: dpool kL Lh :: cel true b 82 [.map (some q1), .map (some q2), .map (some q3), I N.began, I N.now, I N.quota] :: dct kL true q2 ks' :: dct kI true q3 ko' :: dpool kL Lh' :: H) ?_
    refine eqC_ok (fun k => fof M.V k = fof N.V k) u_files (by kernel_rfl) (fun k v v' K G hv hv' hK => ?_) ?_
    · rcases hf k with ⟨e1, _⟩ | ⟨u, e1, m1, _⟩
      · rw [hv] at e1; cases e1
      rcases hf' k with ⟨e2, _⟩ | ⟨u', e2, m2, _⟩
      · rw [hv'] at e2; cases e2
      rw [hv] at e1; cases e1
      rw [hv'] at e2; cases e2
      have i1 := rs_pool (B := B) (enc := vC) m1
      have i2 := rs_pool (B := B) (enc := vC) m2
      refine eqVers (l1 := fof M.V k) (l2 := fof N.V k) (Nat.le_trans (hfM k) (by decide)) (fun i x y hx hy => ?_) hK
      rw [(fof_mem.1 (List.mem_of_getElem? hx)).2, (fof_mem.1 (List.mem_of_getElem? hy)).2]
    · rw [decide_eq_decide.2 kV]
      by_cases g2 : M.V = N.V
      · rw [decide_eq_true g2]
        (repeat first | refine gS ?_ | refine gA fun _ => ?_ | refine gX fun _ _ => ?_ | refine gT ?_ | refine gF ?_ | refine gI ?_)
        refine E_mono (W := s59 _ _ _ _) ?_ fun _ => c59
        rw [s59_eq]
        refine sm (G := dct kL true r2 ks :: dct kL true q2 ks' :: dpool kL Lh :: dpool kL Lh' :: cel true a 82 [.map (some r1), .map (some r2), .map (some r3), I M.began, I M.now, I M.quota] :: dct kL true r1 kf :: dct kI true r3 ko :: spool vC Lv :: cel true b 82 [.map (some q1), .map (some q2), .map (some q3), I N.began, I N.now, I N.quota] :: dct kL true q1 kf' :: dct kI true q3 ko' :: spool vC Lv' :: H) ?_
        refine eqC_ok (fun k => sof M.S k = sof N.S k) u_shots (by kernel_rfl) (fun k v v' K G hv hv' hK => ?_) ?_
        · rcases hs k with ⟨e1, _⟩ | ⟨r, kv, s, e1, m1, e3, e5⟩
          · rw [hv] at e1; cases e1
          rcases hs' k with ⟨e2, _⟩ | ⟨r', kv', s', e2, m2, e4, e6⟩
          · rw [hv'] at e2; cases e2
          rw [hv] at e1; cases e1
          rw [hv'] at e2; cases e2
          refine E_mono (W := s60 _ _ K) ?_ fun _ => c60
          unfold s60
          refine E_pget m1 ?_
          show E B (dct kL false r kv :: _) _
          refine fd (a := dpool kL Lh') (E_pget m2 ?_)
          show E B (dct kL false r' kv' :: _) _
          refine fd (a := dct kL false r kv) (E_dnod fun n1 => ?_)
          refine fd (a := dct kL false r' kv') (E_dnod fun n2 => ?_)
          refine sm (G := dct kL false r kv :: dct kL false r' kv' :: dpool kL Lh :: dpool kL Lh' :: G) ?_
          refine eqShot e5 e6 ?_
          have e : decide (SameKV kv kv' fun n => lk s.held n = lk s'.held n) = decide (sof M.S k = sof N.S k) := by
            rw [decide_eq_decide, e3, e4]
            rw [sameKV_iff n1 n2 (fun n g1 g2 => by
              rw [e5] at g1; rw [e6] at g2
              rw [Option.map_eq_none_iff.1 g1, Option.map_eq_none_iff.1 g2]) (fun n g => by rw [e5, e6, g])]
            constructor
            · intro hall
              have := lk_ext (hsM s (sof_some e3).1) (hsN s' (sof_some e4).1) hall
              have hnm : s.name = s'.name := by rw [(sof_some e3).2, (sof_some e4).2]
              cases s; cases s'
              simp_all
            · intro e n
              cases e; rfl
          rw [e]
          exact sm hK
        · rw [show decide (SameKV ks ks' fun k => sof M.S k = sof N.S k) = decide (M.S = N.S) from decide_eq_decide.2 kS]
          (repeat first | refine gS ?_ | refine gA fun _ => ?_ | refine gX fun _ _ => ?_ | refine gT ?_ | refine gF ?_ | refine gI ?_)
          refine sm (hend _ ?_)
          simp [g1, g2]
      · rw [decide_eq_false g2]
        (repeat first | refine gS ?_ | refine gA fun _ => ?_ | refine gX fun _ _ => ?_ | refine gT ?_ | refine gF ?_ | refine gI ?_)
        exact sm (hend false (decide_eq_false fun e => g2 e.2.1))
  · (repeat first | refine gS ?_ | refine gA fun _ => ?_ | refine gX fun _ _ => ?_ | refine gT ?_ | refine gF ?_ | refine gI ?_)
    exact sm (hend false (decide_eq_false fun e => g1 e.1))
theorem same_nil1 (v : Value) (h : E B H (K (.bool false))) : E B H (CF Tryz.prog 16 [.pointer none, v] K) := by
  refine E_mono (W := s16 _ _ K) ?_ fun _ => c16
  unfold s16
  refine E_dr ?_
  refine E_pne0 u_pModel ?_
  (repeat first | refine gS ?_ | refine gA fun _ => ?_ | refine gX fun _ _ => ?_ | refine gT ?_ | refine gF ?_ | refine gI ?_)
  exact h
theorem same_nil2 (h : E B H (K (.bool false))) : E B H (CF Tryz.prog 16 [ptr a, .pointer none] K) := by
  refine E_mono (W := s16 _ _ K) ?_ fun _ => c16
  unfold s16
  refine E_dr ?_
  refine E_pne u_pModel ?_
  (repeat first | refine gS ?_ | refine gA fun _ => ?_ | refine gX fun _ _ => ?_ | refine gT ?_ | refine gF ?_ | refine gI ?_)
  refine E_pne0 u_pModel ?_
  (repeat first | refine gS ?_ | refine gA fun _ => ?_ | refine gX fun _ _ => ?_ | refine gT ?_ | refine gF ?_ | refine gI ?_)
  exact h
end Go.Proofs.YtabpaknfenpkoaaGreat.Mod
