/-
  Model: size; answers; what a model has of sessions.
-/
import Derived.Test.YtabpaknfenpkoaaGreatModF
set_option linter.unusedSimpArgs false
set_option linter.unusedVariables false
set_option linter.unusedSectionVars false
namespace Go.Proofs.YtabpaknfenpkoaaGreat.Mod
open Go Go.SL Go.Proofs Go.Proofs.YtabpaknfenpkoaaGreat.Sh
variable {B : World} {H : List Asrt} {K : Value → WT} {W : WT}
theorem sumL_append (a b : List Nat) : sumL (a ++ b) = sumL a + sumL b := by
  unfold sumL
  induction a with
  | nil => simp
  | cons x a ih => simp only [List.cons_append, List.foldr_cons, ih]; omega
theorem sumL_perm {a b : List Nat} (h : a.Perm b) : sumL a = sumL b := by
  unfold sumL
  induction h with
  | nil => rfl
  | cons x _ ih => simp only [List.foldr_cons, ih]
  | swap x y l => simp only [List.foldr_cons]; omega
  | trans _ _ h1 h2 => rw [h1, h2]
theorem sumL_le {l : List Nat} {c : Nat} (h : ∀ x ∈ l, x ≤ c) : sumL l ≤ l.length * c := by
  induction l with
  | nil => simp [sumL]
  | cons x l ih =>
    have h1 := ih fun y hy => h y (List.mem_cons_of_mem _ hy)
    have h2 := h x (by simp)
    show x + sumL l ≤ (l.length + 1) * c
    rw [Nat.add_mul, Nat.one_mul]; omega
theorem sumL_cons (x : Nat) (l : List Nat) : sumL (x :: l) = x + sumL l := rfl
theorem sumL_flat {α : Type} {f : α → List Nat} : ∀ l : List α, sumL (l.flatMap f) = sumL (l.map fun a => sumL (f a))
  | [] => rfl
  | a :: l => by rw [List.flatMap_cons, sumL_append, List.map_cons, sumL_cons, sumL_flat l]
def szk (V : List Ver) (k : List UInt8) : Nat := sumL ((fof V k).map fun v => v.text.length)
theorem szk_sum {V : List Ver} (h : SrtN V) : sumL ((nms V).map (szk V)) = sumL (V.map fun v => v.text.length) := by
  conv => rhs; rw [V_flat h]
  rw [List.map_flatMap, sumL_flat]
  rfl
theorem oof_some {O : List Se} {n : Int} {s : Se} (h : oof O n = some s) : s ∈ O ∧ s.n = n := by
  unfold oof at h
  exact ⟨List.mem_of_find?_eq_some h, by simpa using List.find?_some h⟩
theorem oof_of {O : List Se} (h : O.Pairwise fun a b => a.n < b.n) {s : Se} (hs : s ∈ O) : oof O s.n = some s := by
  induction O with
  | nil => cases hs
  | cons c t ih =>
    have hc := (List.pairwise_cons.1 h).1
    unfold oof
    rw [List.find?_cons]
    rcases List.mem_cons.1 hs with e | hs'
    · subst e; simp
    · have : ¬ c.n = s.n := by have := hc s hs'; omega
      simp only [this, decide_false]
      exact ih (List.pairwise_cons.1 h).2 hs'
theorem nodup_of_map {α β : Type} {f : α → β} {l : List α} (h : (l.map f).Nodup) : l.Nodup := by
  rw [List.nodup_iff_pairwise_ne] at h ⊢
  rw [List.pairwise_map] at h
  exact h.imp fun {a b} h (e : a = b) => h (by rw [e])
theorem ook_perm {ko : List (Int × Value)} {O : List Se} (h : OOk ko O) (hd : (ko.map (·.1)).Nodup) (ho : O.Pairwise fun a b => a.n < b.n) : ko.Perm (O.map fun s => (s.n, sAgg s)) := by
  have hd2 : (O.map fun s => (s.n, sAgg s)).Nodup := by
    refine nodup_of_map (f := fun p => p.1) ?_
    rw [List.map_map]
    show ((O.map fun s => s.n)).Nodup
    rw [List.nodup_iff_pairwise_ne, List.pairwise_map]
    exact ho.imp fun h => by omega
  have hd1 : ko.Nodup := nodup_of_map (f := fun p => p.1) hd
  refine (List.perm_ext_iff_of_nodup hd1 hd2).2 fun p => ?_
  obtain ⟨n, v⟩ := p
  constructor
  · intro hm
    have h1 : lk ko n = some v := lookup_of_mem hd hm
    rw [h n] at h1
    cases hs : oof O n with
    | none => rw [hs] at h1; cases h1
    | some s =>
      rw [hs] at h1
      obtain ⟨hso, hsn⟩ := oof_some hs
      refine List.mem_map.2 ⟨s, hso, ?_⟩
      rw [hsn]
      simp only [Option.map_some, Option.some.injEq] at h1
      rw [h1]
  · intro hm
    obtain ⟨s, hs, he⟩ := List.mem_map.1 hm
    cases he
    have h1 := h s.n
    rw [oof_of ho hs] at h1
    exact lookup_mem h1
theorem sok_keys {Lh : List (Nat × List (List UInt8 × Value))} {ks : List (List UInt8 × Value)} {S : List Sn} (h : SOk Lh ks S) (hd : (ks.map (·.1)).Nodup) (hs : S.Pairwise fun a b => a.name < b.name) : ks.length = S.length := by
  have : (ks.map (·.1)).Perm (S.map (·.name)) := by
    refine (List.perm_ext_iff_of_nodup hd ?_).2 fun k => ?_
    · rw [List.nodup_iff_pairwise_ne, List.pairwise_map]
      exact hs.imp fun h => slt_ne h
    · rw [lk_mem]
      rcases h k with ⟨h1, h2⟩ | ⟨r, kv, s, h1, h2, h3, h4⟩
      · rw [h1]
        constructor
        · exact fun h => (h rfl).elim
        · intro hm
          obtain ⟨s, hsm, rfl⟩ := List.mem_map.1 hm
          rw [sof_of hs hsm] at h2; cases h2
      · rw [h1]
        constructor
        · intro _
          obtain ⟨hsm, hsn⟩ := sof_some h3
          exact List.mem_map.2 ⟨s, hsm, hsn⟩
        · intro _ he; cases he
  have := this.length_eq
  simpa using this
attribute [local irreducible] S.pick S.ld S.ldN S.st S.box S.nc S.fad S.ixS S.ixA S.chr S.prt S.ext S.bin S.sh S.sbin S.beq S.neg1 S.com1 S.not1 S.cvt S.str1 S.lenS S.len S.cap S.lenM S.mx S.mn S.mkM S.cond S.gd S.fa S.dr S.rck S.join S.loop S.cvv S.eqv S.slc S.slcS S.b2s S.lk V U CF Gives E cel mpb osl ros dct dit itr lpo dfo
set_option maxRecDepth 4000
attribute [local irreducible] mo
theorem size {a : Nat} {M : Mo} (hw : Wf M) (h : sizeM M ≤ 9000000000 → E B (mo a M :: H) (K (I (sizeM M : Nat)))) : E B (mo a M :: H) (CF Tryz.prog 71 [ptr a] K) := by
  have hV : sumL (M.V.map fun v => v.text.length) ≤ 8192000000 := by
    have := sumL_le (l := M.V.map fun v => v.text.length) (c := 8192) (fun x hx => by obtain ⟨v, hv, rfl⟩ := List.mem_map.1 hx; exact (hw.vt v hv).1)
    have h2 := hw.n
    rw [List.length_map] at this; omega
  have hO : sumL (M.O.map fun v => v.text.length) ≤ 32768 := by
    have := sumL_le (l := M.O.map fun v => v.text.length) (c := 8192) (fun x hx => by obtain ⟨v, hv, rfl⟩ := List.mem_map.1 hx; exact (hw.ob v hv).2)
    have h2 := hw.ol
    rw [List.length_map] at this; omega
  replace h := h (by unfold sizeM; omega)
  refine E_mono (W := s71 _ K) ?_ fun _ => c71
  unfold s71
  refine E_mo fun r1 r2 r3 kf ks ko Lv Lh hf hs ho => ?_
  have hend := E_moS r1 r2 r3 hf hs ho (b := M.began) (n := M.now) (q := M.quota) rfl rfl rfl h
  refine fd (a := dct kL true r1 kf) (E_dnod fun hnod => ?_)
  refine fd (a := dct kI true r3 ko) (E_dnod fun hnod3 => ?_)
  have hperm := fok_keys hf hnod hw.v.n
  have hpO := ook_perm ho hnod3 hw.o
  have htot : sumL (kf.map fun p => szk M.V p.1) = sumL (M.V.map fun v => v.text.length) := by
    rw [← szk_sum hw.v.n, ← sumL_perm (hperm.map (szk M.V)), List.map_map]; rfl
  (repeat first | refine gS ?_ | refine gA fun _ => ?_ | refine gX fun _ _ => ?_ | refine gT ?_ | refine gF ?_ | refine gI ?_)
  refine E_drange (κ := List UInt8) u_files fun it => ?_
  refine E_loop (σ := List (List UInt8 × Value) × Option (List UInt8 × Value) × Nat) (fun s => ∃ done, (done ++ s.1).Perm kf ∧ s.2.2 = sumL (done.map fun p => szk M.V p.1))
    (fun s => [ptr a, I s.2.2, .pointer (some ⟨it, 0, none⟩)])
    (fun s => dit kL true it r1 kf s.1 s.2.1 :: cel true a 82 [.map (some r1), .map (some r2), .map (some r3), I M.began, I M.now, I M.quota] :: dct kL true r2 ks :: dct kI true r3 ko :: spool vC Lv :: dpool kL Lh :: H)
    (fun s => s.1.length) (kf, none, 0) (fun s => rfl) rfl ⟨[], by simp, rfl⟩ (fun W hW => sm hW) ?_
  rintro ⟨rest, cur, n⟩ K0 ⟨done, hp, hd⟩ hk
  simp only at hp hd hk ⊢
  have hpt : sumL (done.map fun p => szk M.V p.1) + sumL (rest.map fun p => szk M.V p.1) = sumL (M.V.map fun v => v.text.length) := by
    rw [← sumL_append, ← List.map_append, ← htot]; exact sumL_perm (hp.map _)
  refine E_fa fun _ => ?_
  refine E_dnext (κ := List UInt8) (fun hr0 => ?_) (fun p rest' hp' => ?_)
  · subst hr0
    (repeat first | refine gS ?_ | refine gA fun _ => ?_ | refine gX fun _ _ => ?_ | refine gT ?_ | refine gF ?_ | refine gI ?_)
    refine fd (a := dit kL true it r1 kf [] none) (E_idone ?_)
    (repeat first | refine gS ?_ | refine gA fun _ => ?_ | refine gX fun _ _ => ?_ | refine gT ?_ | refine gF ?_ | refine gI ?_)
    refine E_drange (κ := Int) u_sess fun it2 => ?_
    have hn : n = sumL (M.V.map fun v => v.text.length) := by simp [sumL] at hpt; rw [hd]; exact hpt
    clear hk hp hd hpt
    subst hn
    refine E_loop (σ := List (Int × Value) × Option (Int × Value) × List Se) (fun s => ∃ todo, (s.2.2 ++ todo).Perm M.O ∧ s.1.Perm (todo.map fun t => (t.n, sAgg t)))
      (fun s => [I (sumL (M.V.map fun v => v.text.length) + sumL (s.2.2.map fun v => v.text.length) : Nat), .pointer (some ⟨it2, 0, none⟩)])
      (fun s => dit kI true it2 r3 ko s.1 s.2.1 :: cel true a 82 [.map (some r1), .map (some r2), .map (some r3), I M.began, I M.now, I M.quota] :: dct kL true r1 kf :: dct kL true r2 ks :: spool vC Lv :: dpool kL Lh :: H)
      (fun s => s.1.length) (ko, none, []) (fun s => rfl) rfl ⟨M.O, by simp, hpO⟩ (fun W hW => sm hW) ?_
    rintro ⟨rest, cur, ds⟩ K1 ⟨todo, hp, hq⟩ hk
    simp only at hp hq hk ⊢
    have hpt : sumL (ds.map fun v => v.text.length) + sumL (todo.map fun v => v.text.length) = sumL (M.O.map fun v => v.text.length) := by
      rw [← sumL_append, ← List.map_append]; exact sumL_perm (hp.map _)
    refine E_fa fun _ => ?_
    refine E_dnext (κ := Int) (fun hr0 => ?_) (fun p rest' hp' => ?_)
    · subst hr0
      (repeat first | refine gS ?_ | refine gA fun _ => ?_ | refine gX fun _ _ => ?_ | refine gT ?_ | refine gF ?_ | refine gI ?_)
      refine fd (a := dit kI true it2 r3 ko [] none) (E_idone ?_)
      have : todo = [] := by simpa using hq.length_eq.symm
      subst this
      have e : sizeM M = sumL (M.V.map fun v => v.text.length) + sumL (ds.map fun v => v.text.length) := by
        unfold sizeM; rw [← hpt]; rfl
      rw [e] at hend
      exact sm hend
    · (repeat first | refine gS ?_ | refine gA fun _ => ?_ | refine gX fun _ _ => ?_ | refine gT ?_ | refine gF ?_ | refine gI ?_)
      refine E_dentry (κ := Int) ?_
      (repeat first | refine gS ?_ | refine gA fun _ => ?_ | refine gX fun _ _ => ?_ | refine gT ?_ | refine gF ?_ | refine gI ?_)
      have hm : p ∈ todo.map fun t => (t.n, sAgg t) := (hq.mem_iff).1 ((hp'.mem_iff).2 (by simp))
      obtain ⟨t, ht, rfl⟩ := List.mem_map.1 hm
      unfold sAgg
      (repeat first | refine gS ?_ | refine gA fun _ => ?_ | refine gX fun _ _ => ?_ | refine gT ?_ | refine gF ?_ | refine gI ?_)
      obtain ⟨t1, t2, rfl⟩ := List.append_of_mem ht
      have hpt2 : sumL ((t1 ++ t :: t2).map fun v => v.text.length) = t.text.length + sumL ((t1 ++ t2).map fun v => v.text.length) := by
        simp only [List.map_append, List.map_cons, sumL_append, sumL_cons]; omega
      rw [hpt2] at hpt
      refine E_addI (by omega) (by omega) ?_
      have hk' := hk (rest', some (t.n, sAgg t), ds ++ [t]) ⟨t1 ++ t2, ?_, ?_⟩ (by simpa using hp'.length_eq ▸ Nat.lt_succ_self _)
      · have e : ((sumL (M.V.map fun v => v.text.length) + sumL ((ds ++ [t]).map fun v => v.text.length) : Nat) : Int) = ((sumL (M.V.map fun v => v.text.length) + sumL (ds.map fun v => v.text.length) : Nat) : Int) + (t.text.length : Int) := by
          rw [List.map_append, sumL_append]
          simp [sumL]; omega
        simp only [e] at hk'
        exact E_same (by repeat (first | exact Same.refl | (refine Same.cons (by repeat (first | exact Find.here | apply Find.there)) ?_) | (refine Same.drop ?_))) hk'
      · simp only [List.append_assoc, List.singleton_append]
        refine List.Perm.trans ?_ hp
        exact (List.perm_middle.symm).append_left ds
      · have h1 : ((t.n, sAgg t) :: rest').Perm ((t1 ++ t :: t2).map fun t => (t.n, sAgg t)) := hp'.symm.trans hq
        have h2 : ((t1 ++ t :: t2).map fun t => (t.n, sAgg t)).Perm ((t.n, sAgg t) :: (t1 ++ t2).map fun t => (t.n, sAgg t)) := by
          simp only [List.map_append, List.map_cons]; exact List.perm_middle
        exact (h1.trans h2).cons_inv
  · (repeat first | refine gS ?_ | refine gA fun _ => ?_ | refine gX fun _ _ => ?_ | refine gT ?_ | refine gF ?_ | refine gI ?_)
    refine E_dentry (κ := List UInt8) ?_
    (repeat first | refine gS ?_ | refine gA fun _ => ?_ | refine gX fun _ _ => ?_ | refine gT ?_ | refine gF ?_ | refine gI ?_)
    obtain ⟨k, v⟩ := p
    have hm : (k, v) ∈ kf := (hp.mem_iff).1 (List.mem_append_right _ ((hp'.mem_iff).2 (by simp)))
    have hlk : lk kf k = some v := lookup_of_mem hnod hm
    rcases hf k with ⟨h1, _⟩ | ⟨u, h1, h2, h3⟩
    · rw [hlk] at h1; cases h1
    have hv : v = u := by rw [hlk] at h1; exact Option.some.inj h1
    subst hv
    have hrs := rs_pool (B := B) (enc := vC) h2
    have hpt2 : sumL (rest.map fun p => szk M.V p.1) = szk M.V k + sumL (rest'.map fun p => szk M.V p.1) := by
      rw [sumL_perm (hp'.map _)]; rfl
    rw [hpt2, ← hd] at hpt
    have hfl := fof_len M.V k
    have hMn := hw.n
    (repeat first | refine gS ?_ | refine gA fun _ => ?_ | refine gX fun _ _ => ?_ | refine gT ?_ | refine gF ?_ | refine gI ?_)
    refine E_loop (σ := Nat) (fun i => i ≤ (fof M.V k).length) (fun i => [ptr a, I (n + sumL (((fof M.V k).take i).map fun v => v.text.length) : Nat), .pointer (some ⟨it, 0, none⟩), v, I (fof M.V k).length, I i])
      (fun _ => dit kL true it r1 kf rest' (some (k, v)) :: cel true a 82 [.map (some r1), .map (some r2), .map (some r3), I M.began, I M.now, I M.quota] :: dct kL true r2 ks :: dct kI true r3 ko :: spool vC Lv :: dpool kL Lh :: H)
      (fun i => (fof M.V k).length - i) 0 (fun _ => rfl) (by simp [sumL]) (Nat.zero_le _) (fun W hW => sm hW) ?_
    intro i K1 hi hk1
    refine E_fa fun _ => ?_
    (repeat first | refine gS ?_ | refine gA fun _ => ?_ | refine gX fun _ _ => ?_ | refine gT ?_ | refine gF ?_ | refine gI ?_)
    refine E_if (fun hc => ?_) (fun hc => ?_)
    · have hx : (fof M.V k)[i]? = some (fof M.V k)[i] := List.getElem?_eq_getElem (by omega)
      generalize (fof M.V k)[i] = x at hx
      (repeat first | refine gS ?_ | refine gA fun _ => ?_ | refine gX fun _ _ => ?_ | refine gT ?_ | refine gF ?_ | refine gI ?_)
      unfold vC
      (repeat first | refine gS ?_ | refine gA fun _ => ?_ | refine gX fun _ _ => ?_ | refine gT ?_ | refine gF ?_ | refine gI ?_)
      have e1 : sumL (((fof M.V k).take (i + 1)).map fun v => v.text.length) = sumL (((fof M.V k).take i).map fun v => v.text.length) + x.text.length := by
        rw [List.take_add_one, hx, List.map_append, sumL_append]; simp [sumL]
      have e2 : sumL (((fof M.V k).take (i + 1)).map fun v => v.text.length) + sumL (((fof M.V k).drop (i + 1)).map fun v => v.text.length) = szk M.V k := by
        unfold szk
        rw [← sumL_append, ← List.map_append, List.take_append_drop]
      refine E_addI (by omega) (by omega) ?_
      refine E_addI (by omega) (by omega) ?_
      have hk' := hk1 (i + 1) (by omega) (by omega)
      have e : ((n + sumL (((fof M.V k).take (i + 1)).map fun v => v.text.length) : Nat) : Int) = ((n + sumL (((fof M.V k).take i).map fun v => v.text.length) : Nat) : Int) + (x.text.length : Int) := by rw [e1]; omega
      simp only [e] at hk'
      exact E_same (by repeat (first | exact Same.refl | (refine Same.cons (by repeat (first | exact Find.here | apply Find.there)) ?_) | (refine Same.drop ?_))) hk'
    · have hin : i = (fof M.V k).length := by omega
      subst hin
      rw [List.take_length]
      have hk' := hk (rest', some (k, v), n + szk M.V k) ⟨done ++ [(k, v)], by
        simp only [List.append_assoc, List.singleton_append]
        exact (hp'.symm.append_left done).trans hp, by
        simp only [List.map_append, sumL_append, ← hd]; simp [sumL]⟩ (by simpa using hp'.length_eq ▸ Nat.lt_succ_self _)
      exact sm hk'
end Go.Proofs.YtabpaknfenpkoaaGreat.Mod
