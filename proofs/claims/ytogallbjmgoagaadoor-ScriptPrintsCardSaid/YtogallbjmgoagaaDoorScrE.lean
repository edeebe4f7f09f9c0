/-
  Script: a reading's steps by their plain forms; a crash.
-/
import Derived.Test.YtogallbjmgoagaaDoorScrD
import Derived.Test.YtogallbjmgoagaaDoorScrP
set_option linter.unusedSimpArgs false
set_option linter.unusedVariables false
set_option linter.unusedSectionVars false
namespace Go.Proofs.YtogallbjmgoagaaDoor.Scr
open Go Go.SL Go.Proofs Go.Proofs.YtogallbjmgoagaaDoor.Sh
variable {B : World} {H : List Asrt} {K : Value → WT} {W : WT}
theorem u_bools : Tryd.prog.underlying 26 = some (.slice 4) := by kernel_rfl
theorem elt_bool : Elt Tryd.prog 4 1 1 [.bool false] := elt_of (zv := .bool false) (by kernel_rfl) rfl rfl
abbrev rdg (r : Nat) (st : St) : Asrt := cel true r 50 [str st.1, .bool st.2]
attribute [local irreducible] S.pick S.ld S.ldN S.st S.box S.nc S.fad S.ixS S.ixA S.chr S.prt S.ext S.bin S.sh S.sbin S.beq S.neg1 S.com1 S.not1 S.cvt S.str1 S.lenS S.len S.cap S.lenM S.mx S.mn S.mkM S.cond S.gd S.fa S.dr S.rck S.join S.loop S.cvv S.eqv S.slc S.slcS S.b2s S.lk V U CF Gives E cel mpb osl ros dct dit itr lpo dfo
attribute [local irreducible] sls
set_option maxRecDepth 4000
theorem wordS [A : Amb] {r : Nat} {st : St} (hm : st.1.length ≤ 1000000)
    (h1 : ∀ w st', wordP st = some (w, st') → w.length ≤ 1000000 → st'.1.length ≤ 1000000 → E B (rdg r st' :: H) (K (str w))) (h2 : wordP st = none → E B H (A.pn fault)) :
    E B (rdg r st :: H) (CF Tryd.prog 33 [ptr r] K) := by
  obtain ⟨s, more⟩ := st
  obtain ⟨l1, l2⟩ := cut_len s
  simp only at hm
  exact word (s := s) (more := more) (by omega) (fun hb => h1 _ _ (by subst hb; rfl) (by omega) (by omega)) fun hb => h2 (by subst hb; rfl)
theorem numS [A : Amb] {r : Nat} {st : St} (hm : st.1.length ≤ 1000000)
    (h1 : ∀ n st', numP st = some (n, st') → n ≤ 9007199254740991 → st'.1.length ≤ 1000000 → E B (rdg r st' :: H) (K (I n))) (h2 : numP st = none → E B H (A.pn fault)) :
    E B (rdg r st :: H) (CF Tryd.prog 36 [ptr r] K) := by
  obtain ⟨s, more⟩ := st
  obtain ⟨l1, l2⟩ := cut_len s
  simp only at hm
  refine num (s := s) (more := more) (by omega) (fun n hb hn hl => h1 n _ (by subst hb; simp [numP, wordP, hn]) hl (by omega)) fun hb => h2 ?_
  rcases hb with hb | hb
  · subst hb; rfl
  · cases more
    · rfl
    · simp [numP, wordP, hb]
theorem nameS [A : Amb] {r : Nat} {st : St} (hm : st.1.length ≤ 1000000)
    (h1 : ∀ n st', nameP st = some (n, st') → n.length ≤ 1000000 → st'.1.length ≤ 1000000 → E B (rdg r st' :: H) (K (str n))) (h2 : nameP st = none → E B H (A.pn fault)) :
    E B (rdg r st :: H) (CF Tryd.prog 35 [ptr r] K) := by
  obtain ⟨s, more⟩ := st
  obtain ⟨l1, l2⟩ := cut_len s
  simp only at hm
  refine name (s := s) (more := more) (by omega) (fun hb hn => h1 _ _ (by subst hb; simp [nameP, wordP, hn]) (by omega) (by omega)) fun hb => h2 ?_
  rcases hb with hb | hb
  · subst hb; rfl
  · cases more
    · rfl
    · simp [nameP, wordP, hb]
theorem bytesS [A : Amb] {r : Nat} {st : St} (hm : st.1.length ≤ 1000000)
    (h1 : ∀ b st', bytesP st = some (b, st') → st'.1.length ≤ 1000000 → ∀ v [CellI v], E B (sls cB 5 1 v b :: rdg r st' :: H) (K v)) (h2 : bytesP st = none → E B H (A.pn fault)) :
    E B (rdg r st :: H) (CF Tryd.prog 37 [ptr r] K) := by
  obtain ⟨s, more⟩ := st
  simp only at hm
  refine bytes (s := s) (more := more) (by omega) (fun hb bs hbs v _ => h1 bs ([], false) (by subst hb; simp [bytesP, hbs]) (by simp) v) fun hb => h2 ?_
  rcases hb with hb | hb
  · subst hb; rfl
  · cases more
    · rfl
    · simp [bytesP, hb]
theorem hasPrefix [Amb] {s p : List UInt8} (h : E B H (K (.bool (Lib.hasPrefix s p)))) : E B H (CF Tryd.prog 52 [str s, str p] K) :=
  E_callSame (fun w => Tryd.strings_HasPrefix ⟨s.toArray⟩ ⟨p.toArray⟩ w) h
theorem crash [A : Amb] {r : Nat} {st : St} (hm : st.1.length ≤ 1000000)
    (h1 : ∀ l t a st', crashP st = some ((l, t, a), st') → st'.1.length ≤ 1000000 → ∀ v [CellI v], E B (sls cL 4 1 v l :: rdg r st' :: H) (K (.agg #[v, I t, I a]))) (h2 : crashP st = none → E B H (A.pn fault)) :
    E B (rdg r st :: H) (CF Tryd.prog 38 [ptr r] K) := by
  refine E_mono (W := s38 _ K) ?_ fun _ => c38
  unfold s38
  refine E_box (vs := [.slice none 0 0, I 0, I 0]) fun b2 => ?_
  refine E_box (vs := [.slice none 0 0, I 0, I 0]) fun b3 => ?_
  refine E_find (a := rdg r st) (by repeat (first | exact Find.here | apply Find.there)) ?_
  refine wordS hm (fun k s1 hk hl1 hl2 => ?_) fun hn => E_drop (E_drop (h2 (by simp [crashP, hn])))
  have bad1 : keepW k = none → E B H (A.pn fault) := fun hn => h2 (by simp [crashP, hk, hn])
  refine hasPrefix ?_
  cases k with
  | nil =>
    refine must (fun h => by simp [Lib.hasPrefix] at h) fun _ => E_drop (E_drop (E_drop (bad1 rfl)))
  | cons c t =>
    by_cases hc : c = 107
    rotate_left
    · refine must (fun h => ?_) fun _ => E_drop (E_drop (E_drop (bad1 ?_)))
      · exfalso; simp [Lib.hasPrefix] at h; exact hc h.symm
      · unfold keepW; simp only; rw [if_neg (fun h => hc h.1)]
    subst hc
    refine must (fun _ => ?_) fun h => by simp [Lib.hasPrefix] at h
    have hlt : t.length ≤ 1000000 := by simp at hl1; omega
    refine E_lenstr ?_
    refine E_subI (by simp <;> omega) (by simp <;> omega) ?_
    rw [show (((107 :: t : List UInt8).length : Int) - 1) = (t.length : Int) by simp]
    refine sls_nil (T := 4) cL 1 ?_
    refine E_loop (σ := Nat × Value) (fun z => z.1 ≤ t.length ∧ CellI z.2 ∧ ∀ d ∈ t.take z.1, d = 48 ∨ d = 49) (fun z => [ptr r, ptr b2, ptr b3, str (107 :: t), I t.length, I z.1])
      (fun z => sls cL 4 1 z.2 ((t.take z.1).map fun d => decide (d = 49)) :: cel true b3 28 [z.2, I 0, I 0] :: cel true b2 28 [.slice none 0 0, I 0, I 0] :: rdg r s1 :: H) (fun z => t.length - z.1) (0, .slice none 0 0) (fun _ => rfl) rfl ⟨by omega, ⟨rfl⟩, by simp⟩ (fun W hW => E_same (by repeat (first | exact Same.refl | (refine Same.cons (by repeat (first | exact Find.here | apply Find.there)) ?_) | (refine Same.drop ?_))) hW) ?_
    rintro ⟨i, v⟩ K0 ⟨hi, hcv, ha⟩ hk0
    simp only at hi hcv ha
    refine E_fa fun _ => ?_
    refine E_lss ?_
    refine E_if (fun hcl => ?_) (fun hcl => ?_)
    · have hs : t[i]? = some t[i] := List.getElem?_eq_getElem (by omega)
      generalize t[i] = d at hs
      have hs2 : (107 :: t)[i + 1]? = some d := by simpa using hs
      have hall : ¬ (d = 48 ∨ d = 49) → keepW (107 :: t) = none := fun hd => by
        unfold keepW; simp only; rw [if_neg (fun h => hd (h.2 d (List.mem_of_getElem? hs)))]
      have d48 : ((d.toNat : Int) = 48) ↔ d = 48 := ⟨fun h => UInt8.toNat_inj.1 (by rw [show d.toNat = 48 by omega]; rfl), fun h => by rw [h]; rfl⟩
      have d49 : ((d.toNat : Int) = 49) ↔ d = 49 := ⟨fun h => UInt8.toNat_inj.1 (by rw [show d.toNat = 49 by omega]; rfl), fun h => by rw [h]; rfl⟩
      by_cases hd : d = 48 ∨ d = 49
      rotate_left
      · have n48 : ¬ ((d.toNat : Int) = 48) := fun h => hd (.inl (d48.1 h))
        have n49 : ¬ ((d.toNat : Int) = 49) := fun h => hd (.inr (d49.1 h))
        refine E_join0 ?_
        refine E_addI (by omega) (by omega) ?_
        rw [show ((i : Int) + 1) = ((i + 1 : Nat) : Int) by omega]
        refine E_chrL hs2 ?_
        (repeat (first | refine goS ?_ | refine E_box fun _ => ?_ | refine E_fa fun _ => ?_ | refine E_ptfad0 fun _ _ => ?_ | refine E_ptfad fun _ _ => ?_ | refine E_rsix (by assumption) fun _ _ => ?_ | refine E_ifT (by first | assumption | decide) ?_ | refine E_ifF (by first | assumption | decide) ?_ | refine E_gdT (by first | assumption | decide) ?_ | refine E_gdF (by first | assumption | decide) ?_ | refine E_gdnT (by first | assumption | decide) ?_ | refine E_gdnF (by first | assumption | decide) ?_ | refine E_pickT (by first | assumption | decide) ?_ | refine E_pickF (by first | assumption | decide) ?_ | refine E_ixN (by omega) ?_ | refine E_ld' (by assumption) ?_ | refine E_addI (by omega) (by omega) ?_ | refine E_subI (by omega) (by omega) ?_ | refine E_mulI (by omega) (by omega) ?_))
        rw [show ((i : Int) + 1) = ((i + 1 : Nat) : Int) by omega]
        refine E_chrL hs2 ?_
        (repeat (first | refine goS ?_ | refine E_box fun _ => ?_ | refine E_fa fun _ => ?_ | refine E_ptfad0 fun _ _ => ?_ | refine E_ptfad fun _ _ => ?_ | refine E_rsix (by assumption) fun _ _ => ?_ | refine E_ifT (by first | assumption | decide) ?_ | refine E_ifF (by first | assumption | decide) ?_ | refine E_gdT (by first | assumption | decide) ?_ | refine E_gdF (by first | assumption | decide) ?_ | refine E_gdnT (by first | assumption | decide) ?_ | refine E_gdnF (by first | assumption | decide) ?_ | refine E_pickT (by first | assumption | decide) ?_ | refine E_pickF (by first | assumption | decide) ?_ | refine E_ixN (by omega) ?_ | refine E_ld' (by assumption) ?_ | refine E_addI (by omega) (by omega) ?_ | refine E_subI (by omega) (by omega) ?_ | refine E_mulI (by omega) (by omega) ?_))
        rw [decide_eq_false n49]
        exact must (fun h => by simp at h) fun _ => E_drop (E_drop (E_drop (E_drop (bad1 (hall hd)))))
      refine E_join1 [ptr r, ptr b2, ptr b3, str (107 :: t), I i, I t.length, I i] (sls cL 4 1 v ((t.take i).map fun d => decide (d = 49)) :: cel true b3 28 [v, I 0, I 0] :: cel true b2 28 [.slice none 0 0, I 0, I 0] :: rdg r s1 :: H) (fun q hq => ?_) ?_
      · refine E_addI (by omega) (by omega) ?_
        rw [show ((i : Int) + 1) = ((i + 1 : Nat) : Int) by omega]
        refine E_chrL hs2 ?_
        by_cases g : (d.toNat : Int) = 48
        · (repeat (first | refine goS ?_ | refine E_box fun _ => ?_ | refine E_fa fun _ => ?_ | refine E_ptfad0 fun _ _ => ?_ | refine E_ptfad fun _ _ => ?_ | refine E_rsix (by assumption) fun _ _ => ?_ | refine E_ifT (by first | assumption | decide) ?_ | refine E_ifF (by first | assumption | decide) ?_ | refine E_gdT (by first | assumption | decide) ?_ | refine E_gdF (by first | assumption | decide) ?_ | refine E_gdnT (by first | assumption | decide) ?_ | refine E_gdnF (by first | assumption | decide) ?_ | refine E_pickT (by first | assumption | decide) ?_ | refine E_pickF (by first | assumption | decide) ?_ | refine E_ixN (by omega) ?_ | refine E_ld' (by assumption) ?_ | refine E_addI (by omega) (by omega) ?_ | refine E_subI (by omega) (by omega) ?_ | refine E_mulI (by omega) (by omega) ?_))
          exact must (fun _ => hq) fun h => by simp at h
        · have g2 : (d.toNat : Int) = 49 := d49.2 (hd.resolve_left fun h => g (d48.2 h))
          (repeat (first | refine goS ?_ | refine E_box fun _ => ?_ | refine E_fa fun _ => ?_ | refine E_ptfad0 fun _ _ => ?_ | refine E_ptfad fun _ _ => ?_ | refine E_rsix (by assumption) fun _ _ => ?_ | refine E_ifT (by first | assumption | decide) ?_ | refine E_ifF (by first | assumption | decide) ?_ | refine E_gdT (by first | assumption | decide) ?_ | refine E_gdF (by first | assumption | decide) ?_ | refine E_gdnT (by first | assumption | decide) ?_ | refine E_gdnF (by first | assumption | decide) ?_ | refine E_pickT (by first | assumption | decide) ?_ | refine E_pickF (by first | assumption | decide) ?_ | refine E_ixN (by omega) ?_ | refine E_ld' (by assumption) ?_ | refine E_addI (by omega) (by omega) ?_ | refine E_subI (by omega) (by omega) ?_ | refine E_mulI (by omega) (by omega) ?_))
          rw [show ((i : Int) + 1) = ((i + 1 : Nat) : Int) by omega]
          refine E_chrL hs2 ?_
          (repeat (first | refine goS ?_ | refine E_box fun _ => ?_ | refine E_fa fun _ => ?_ | refine E_ptfad0 fun _ _ => ?_ | refine E_ptfad fun _ _ => ?_ | refine E_rsix (by assumption) fun _ _ => ?_ | refine E_ifT (by first | assumption | decide) ?_ | refine E_ifF (by first | assumption | decide) ?_ | refine E_gdT (by first | assumption | decide) ?_ | refine E_gdF (by first | assumption | decide) ?_ | refine E_gdnT (by first | assumption | decide) ?_ | refine E_gdnF (by first | assumption | decide) ?_ | refine E_pickT (by first | assumption | decide) ?_ | refine E_pickF (by first | assumption | decide) ?_ | refine E_ixN (by omega) ?_ | refine E_ld' (by assumption) ?_ | refine E_addI (by omega) (by omega) ?_ | refine E_subI (by omega) (by omega) ?_ | refine E_mulI (by omega) (by omega) ?_))
          rw [decide_eq_true g2]
          exact must (fun _ => hq) fun h => by simp at h
      refine E_fa fun _ => ?_
      refine E_dr ?_
      (repeat (first | refine goS ?_ | refine E_box fun _ => ?_ | refine E_fa fun _ => ?_ | refine E_ptfad0 fun _ _ => ?_ | refine E_ptfad fun _ _ => ?_ | refine E_rsix (by assumption) fun _ _ => ?_ | refine E_ifT (by first | assumption | decide) ?_ | refine E_ifF (by first | assumption | decide) ?_ | refine E_gdT (by first | assumption | decide) ?_ | refine E_gdF (by first | assumption | decide) ?_ | refine E_gdnT (by first | assumption | decide) ?_ | refine E_gdnF (by first | assumption | decide) ?_ | refine E_pickT (by first | assumption | decide) ?_ | refine E_pickF (by first | assumption | decide) ?_ | refine E_ixN (by omega) ?_ | refine E_ld' (by assumption) ?_ | refine E_addI (by omega) (by omega) ?_ | refine E_subI (by omega) (by omega) ?_ | refine E_mulI (by omega) (by omega) ?_))
      rw [show ((i : Int) + 1) = ((i + 1 : Nat) : Int) by omega]
      refine E_chrL hs2 ?_
      (repeat (first | refine goS ?_ | refine E_box fun _ => ?_ | refine E_fa fun _ => ?_ | refine E_ptfad0 fun _ _ => ?_ | refine E_ptfad fun _ _ => ?_ | refine E_rsix (by assumption) fun _ _ => ?_ | refine E_ifT (by first | assumption | decide) ?_ | refine E_ifF (by first | assumption | decide) ?_ | refine E_gdT (by first | assumption | decide) ?_ | refine E_gdF (by first | assumption | decide) ?_ | refine E_gdnT (by first | assumption | decide) ?_ | refine E_gdnF (by first | assumption | decide) ?_ | refine E_pickT (by first | assumption | decide) ?_ | refine E_pickF (by first | assumption | decide) ?_ | refine E_ixN (by omega) ?_ | refine E_ld' (by assumption) ?_ | refine E_addI (by omega) (by omega) ?_ | refine E_subI (by omega) (by omega) ?_ | refine E_mulI (by omega) (by omega) ?_))
      rw [show decide ((d.toNat : Int) = 49) = decide (d = 49) from decide_eq_decide.2 d49]
      refine E_sapp1R (decide (d = 49)) u_bools elt_bool rfl (by decide) (by simp; omega) (by simp; omega) (fun b W hW => by (repeat (refine E_rck1 (by first | exact E_ld (E_fact rfl) | exact E_ld' (by assumption) (E_fact rfl) | exact E_b2sR (E_fact rfl) | exact E_gdnF (by assumption) (E_ld (E_fact rfl)) | exact E_gdT (by assumption) (E_ld (E_fact rfl)) | exact E_gtf (E_ld (E_fact rfl)) | exact E_gft (E_ld (E_fact rfl)) | exact E_ldNA (E_fact rfl) | exact E_ptld (E_fact rfl) | exact E_gtf (E_ldNA (E_fact rfl))) ?_)); (first | (refine E_rck0 ?_) | skip); exact hW) fun v' _ => ?_
      (repeat (first | refine goS ?_ | refine E_box fun _ => ?_ | refine E_fa fun _ => ?_ | refine E_ptfad0 fun _ _ => ?_ | refine E_ptfad fun _ _ => ?_ | refine E_rsix (by assumption) fun _ _ => ?_ | refine E_ifT (by first | assumption | decide) ?_ | refine E_ifF (by first | assumption | decide) ?_ | refine E_gdT (by first | assumption | decide) ?_ | refine E_gdF (by first | assumption | decide) ?_ | refine E_gdnT (by first | assumption | decide) ?_ | refine E_gdnF (by first | assumption | decide) ?_ | refine E_pickT (by first | assumption | decide) ?_ | refine E_pickF (by first | assumption | decide) ?_ | refine E_ixN (by omega) ?_ | refine E_ld' (by assumption) ?_ | refine E_addI (by omega) (by omega) ?_ | refine E_subI (by omega) (by omega) ?_ | refine E_mulI (by omega) (by omega) ?_))
      have hk' := hk0 (i + 1, v') ⟨by simp only; omega, inferInstance, by
        simp only
        rw [List.take_add_one, hs]
        intro x hx
        rcases List.mem_append.1 hx with hx | hx
        · exact ha x hx
        · have : x = d := by simpa using hx
          rw [this]; exact hd⟩ (by simp only; omega)
      simp only at hk'
      rw [List.take_add_one, hs] at hk'
      simp only [Option.toList_some, List.map_append, List.map_cons, List.map_nil] at hk'
      rw [show ((i : Int) + 1) = ((i + 1 : Nat) : Int) by omega]
      exact E_same (by repeat (first | exact Same.refl | (refine Same.cons (by repeat (first | exact Find.here | apply Find.there)) ?_) | (refine Same.drop ?_))) hk'
    · have ei : i = t.length := by omega
      subst ei
      rw [List.take_length] at ha
      rw [List.take_length]
      have hkw : keepW (107 :: t) = some (t.map fun d => decide (d = 49)) := by unfold keepW; simp only; rw [if_pos ⟨trivial, ha⟩]
      generalize (t.map fun d => decide (d = 49)) = l at hkw
      (repeat (first | refine goS ?_ | refine E_box fun _ => ?_ | refine E_fa fun _ => ?_ | refine E_ptfad0 fun _ _ => ?_ | refine E_ptfad fun _ _ => ?_ | refine E_rsix (by assumption) fun _ _ => ?_ | refine E_ifT (by first | assumption | decide) ?_ | refine E_ifF (by first | assumption | decide) ?_ | refine E_gdT (by first | assumption | decide) ?_ | refine E_gdF (by first | assumption | decide) ?_ | refine E_gdnT (by first | assumption | decide) ?_ | refine E_gdnF (by first | assumption | decide) ?_ | refine E_pickT (by first | assumption | decide) ?_ | refine E_pickF (by first | assumption | decide) ?_ | refine E_ixN (by omega) ?_ | refine E_ld' (by assumption) ?_ | refine E_addI (by omega) (by omega) ?_ | refine E_subI (by omega) (by omega) ?_ | refine E_mulI (by omega) (by omega) ?_))
      refine E_joinC (σ := Int × St) (fun z => (∃ w, wordP s1 = some (w, z.2) ∧ tornW w = some z.1) ∧ z.2.1.length ≤ 1000000) (fun z => [ptr r, ptr b2, ptr b3]) (fun z => sls cL 4 1 v l :: cel true b3 28 [v, I z.1, I 0] :: cel true b2 28 [.slice none 0 0, I 0, I 0] :: rdg r z.2 :: H) (fun q hq => ?_) ?_
      · refine E_find (a := rdg r s1) (by repeat (first | exact Find.here | apply Find.there)) ?_
        refine wordS hl2 (fun w s2 hw hl3 hl4 => ?_) fun hn => E_drop (E_drop (E_drop (h2 (by simp [crashP, hk, hkw, hn]))))
        refine E_strne (b := [45]) ?_
        by_cases h45 : w ≠ [45]
        · (repeat (first | refine goS ?_ | refine E_box fun _ => ?_ | refine E_fa fun _ => ?_ | refine E_ptfad0 fun _ _ => ?_ | refine E_ptfad fun _ _ => ?_ | refine E_rsix (by assumption) fun _ _ => ?_ | refine E_ifT (by first | assumption | decide) ?_ | refine E_ifF (by first | assumption | decide) ?_ | refine E_gdT (by first | assumption | decide) ?_ | refine E_gdF (by first | assumption | decide) ?_ | refine E_gdnT (by first | assumption | decide) ?_ | refine E_gdnF (by first | assumption | decide) ?_ | refine E_pickT (by first | assumption | decide) ?_ | refine E_pickF (by first | assumption | decide) ?_ | refine E_ixN (by omega) ?_ | refine E_ld' (by assumption) ?_ | refine E_addI (by omega) (by omega) ?_ | refine E_subI (by omega) (by omega) ?_ | refine E_mulI (by omega) (by omega) ?_))
          refine parsed (by omega) (fun n hn _ => ?_) fun hn => E_drop (E_drop (E_drop (E_drop (h2 (by simp [crashP, hk, hkw, hw, tornW, h45, hn])))))
          (repeat (first | refine goS ?_ | refine E_box fun _ => ?_ | refine E_fa fun _ => ?_ | refine E_ptfad0 fun _ _ => ?_ | refine E_ptfad fun _ _ => ?_ | refine E_rsix (by assumption) fun _ _ => ?_ | refine E_ifT (by first | assumption | decide) ?_ | refine E_ifF (by first | assumption | decide) ?_ | refine E_gdT (by first | assumption | decide) ?_ | refine E_gdF (by first | assumption | decide) ?_ | refine E_gdnT (by first | assumption | decide) ?_ | refine E_gdnF (by first | assumption | decide) ?_ | refine E_pickT (by first | assumption | decide) ?_ | refine E_pickF (by first | assumption | decide) ?_ | refine E_ixN (by omega) ?_ | refine E_ld' (by assumption) ?_ | refine E_addI (by omega) (by omega) ?_ | refine E_subI (by omega) (by omega) ?_ | refine E_mulI (by omega) (by omega) ?_))
          refine E_same (by repeat (first | exact Same.refl | (refine Same.cons (by repeat (first | exact Find.here | apply Find.there)) ?_) | (refine Same.drop ?_))) (hq (n, s2) ⟨⟨w, hw, by simp [tornW, h45, hn]⟩, hl4⟩)
        · (repeat (first | refine goS ?_ | refine E_box fun _ => ?_ | refine E_fa fun _ => ?_ | refine E_ptfad0 fun _ _ => ?_ | refine E_ptfad fun _ _ => ?_ | refine E_rsix (by assumption) fun _ _ => ?_ | refine E_ifT (by first | assumption | decide) ?_ | refine E_ifF (by first | assumption | decide) ?_ | refine E_gdT (by first | assumption | decide) ?_ | refine E_gdF (by first | assumption | decide) ?_ | refine E_gdnT (by first | assumption | decide) ?_ | refine E_gdnF (by first | assumption | decide) ?_ | refine E_pickT (by first | assumption | decide) ?_ | refine E_pickF (by first | assumption | decide) ?_ | refine E_ixN (by omega) ?_ | refine E_ld' (by assumption) ?_ | refine E_addI (by omega) (by omega) ?_ | refine E_subI (by omega) (by omega) ?_ | refine E_mulI (by omega) (by omega) ?_))
          refine E_same (by repeat (first | exact Same.refl | (refine Same.cons (by repeat (first | exact Find.here | apply Find.there)) ?_) | (refine Same.drop ?_))) (hq (-1, s2) ⟨⟨w, hw, by simp only [ne_eq, Decidable.not_not] at h45; simp [tornW, h45]⟩, hl4⟩)
      rintro ⟨tn, s2⟩ ⟨⟨w, hw, htn⟩, hl3⟩
      simp only at hw htn hl3
      refine E_fa fun _ => ?_
      refine E_find (a := rdg r s2) (by repeat (first | exact Find.here | apply Find.there)) ?_
      refine numS hl3 (fun n s3 hn _ hl4 => ?_) fun hn => E_drop (E_drop (E_drop (h2 (by simp [crashP, hk, hkw, hw, htn, hn]))))
      (repeat (first | refine goS ?_ | refine E_box fun _ => ?_ | refine E_fa fun _ => ?_ | refine E_ptfad0 fun _ _ => ?_ | refine E_ptfad fun _ _ => ?_ | refine E_rsix (by assumption) fun _ _ => ?_ | refine E_ifT (by first | assumption | decide) ?_ | refine E_ifF (by first | assumption | decide) ?_ | refine E_gdT (by first | assumption | decide) ?_ | refine E_gdF (by first | assumption | decide) ?_ | refine E_gdnT (by first | assumption | decide) ?_ | refine E_gdnF (by first | assumption | decide) ?_ | refine E_pickT (by first | assumption | decide) ?_ | refine E_pickF (by first | assumption | decide) ?_ | refine E_ixN (by omega) ?_ | refine E_ld' (by assumption) ?_ | refine E_addI (by omega) (by omega) ?_ | refine E_subI (by omega) (by omega) ?_ | refine E_mulI (by omega) (by omega) ?_))
      exact E_same (by repeat (first | exact Same.refl | (refine Same.cons (by repeat (first | exact Find.here | apply Find.there)) ?_) | (refine Same.drop ?_))) (h1 l tn n s3 (by simp [crashP, hk, hkw, hw, htn, hn]) hl4 v)
end Go.Proofs.YtogallbjmgoagaaDoor.Scr
