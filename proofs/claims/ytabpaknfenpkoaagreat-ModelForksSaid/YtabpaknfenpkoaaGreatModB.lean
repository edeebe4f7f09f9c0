/-
  Model: held, at.
-/
import Derived.Test.YtabpaknfenpkoaaGreatModA
set_option linter.unusedSimpArgs false
set_option linter.unusedVariables false
set_option linter.unusedSectionVars false
namespace Go.Proofs.YtabpaknfenpkoaaGreat.Mod
open Go Go.SL Go.Proofs Go.Proofs.YtabpaknfenpkoaaGreat.Sh
variable {B : World} {H : List Asrt} {K : Value → WT} {W : WT}
attribute [local irreducible] S.pick S.ld S.ldN S.st S.box S.nc S.fad S.ixS S.ixA S.chr S.prt S.ext S.bin S.sh S.sbin S.beq S.neg1 S.com1 S.not1 S.cvt S.str1 S.lenS S.len S.cap S.lenM S.mx S.mn S.mkM S.cond S.gd S.fa S.dr S.rck S.join S.loop S.cvv S.eqv S.slc S.slcS S.b2s S.lk V U CF Gives E cel mpb osl ros dct dit itr lpo dfo
set_option maxRecDepth 4000
attribute [local irreducible] mo
/-- Names are unlike. -/
def SU (S : List Sn) : Prop := ∀ s ∈ S, sof S s.name = some s
def heldB (S : List Sn) (n : List UInt8) (g : Int) : Bool := S.any fun s => decide (lk s.held n = some g)
theorem sof_some {S : List Sn} {k : List UInt8} {s : Sn} (h : sof S k = some s) : s ∈ S ∧ s.name = k := by
  unfold sof at h
  exact ⟨List.mem_of_find?_eq_some h, by simpa using List.find?_some h⟩
theorem E_dnod {κ : Type} [DecidableEq κ] {enc : κ → Value} {o : Bool} {r : Nat} {kv : List (κ × Value)} (h : (kv.map (·.1)).Nodup → E B (dct enc o r kv :: H) W) : E B (dct enc o r kv :: H) W :=
  E_dopen fun _ _ hd => E_dshut hd (h hd.nod)
theorem held {a : Nat} {M : Mo} {n : List UInt8} {g : Int} (hS : SU M.S) (hg : 1 ≤ g) (h : E B (mo a M :: H) (K (.bool (heldB M.S n g)))) : E B (mo a M :: H) (CF Tryz.prog 95 [ptr a, str n, I g] K) := by
  refine E_mo fun r1 r2 r3 kf ks ko Lv Lh hf hs ho => ?_
  have hend := E_moS r1 r2 r3 hf hs ho (b := M.began) (n := M.now) (q := M.quota) rfl rfl rfl h
  refine fd (a := dct kL true r2 ks) (E_dnod fun hnod => ?_)
  refine E_mono (W := s95 _ _ _ K) ?_ fun _ => c95
  unfold s95
  (repeat first | refine gS ?_ | refine gA fun _ => ?_ | refine gX fun _ _ => ?_ | refine gT ?_ | refine gF ?_ | refine gI ?_)
  refine E_drange (κ := List UInt8) u_shots fun it => ?_
  refine E_loop (σ := List (List UInt8 × Value) × Option (List UInt8 × Value)) (fun s => ∃ done, (done ++ s.1).Perm ks ∧ ∀ p ∈ done, ∀ t, sof M.S p.1 = some t → lk t.held n ≠ some g)
    (fun s => [str n, I g, .pointer (some ⟨it, 0, none⟩)])
    (fun s => dit kL true it r2 ks s.1 s.2 :: spool vC Lv :: dpool kL Lh :: cel true a 82 [.map (some r1), .map (some r2), .map (some r3), I M.began, I M.now, I M.quota] :: dct kL true r1 kf :: dct kI true r3 ko :: H)
    (fun s => s.1.length) (ks, none) (fun s => rfl) rfl ⟨[], by simp, by simp⟩ (fun W hW => sm hW) ?_
  rintro ⟨rest, cur⟩ K0 ⟨done, hp, hd⟩ hk
  simp only at hp hd hk ⊢
  refine E_fa fun _ => ?_
  refine E_dnext (κ := List UInt8) (fun hr0 => ?_) (fun p rest' hp' => ?_)
  · subst hr0
    (repeat first | refine gS ?_ | refine gA fun _ => ?_ | refine gX fun _ _ => ?_ | refine gT ?_ | refine gF ?_ | refine gI ?_)
    refine fd (a := dit kL true it r2 ks [] none) (E_idone ?_)
    have e : heldB M.S n g = false := by
      unfold heldB
      rw [List.any_eq_false]
      intro t hts
      simp only [decide_eq_true_eq]
      intro hl
      have hsf := hS t hts
      rcases hs t.name with ⟨_, h2⟩ | ⟨r, kv, u, h1, _, h3, _⟩
      · rw [h2] at hsf; cases hsf
      · have hm : (t.name, Value.map (some r)) ∈ done := by
          have := (hp.mem_iff (a := (t.name, Value.map (some r)))).2 (lookup_mem h1)
          simpa using this
        exact hd _ hm t hsf hl
    rw [e] at hend
    exact sm hend
  · (repeat first | refine gS ?_ | refine gA fun _ => ?_ | refine gX fun _ _ => ?_ | refine gT ?_ | refine gF ?_ | refine gI ?_)
    refine E_dentry (κ := List UInt8) ?_
    (repeat first | refine gS ?_ | refine gA fun _ => ?_ | refine gX fun _ _ => ?_ | refine gT ?_ | refine gF ?_ | refine gI ?_)
    obtain ⟨k, v⟩ := p
    have hm : (k, v) ∈ ks := (hp.mem_iff).1 (List.mem_append_right _ ((hp'.mem_iff).2 (by simp)))
    have hlk : lk ks k = some v := lookup_of_mem hnod hm
    rcases hs k with ⟨h1, _⟩ | ⟨r, kv, t, h1, h2, h3, h4⟩
    · rw [hlk] at h1; cases h1
    · have hv : v = .map (some r) := by rw [hlk] at h1; exact Option.some.inj h1
      subst hv
      refine fd (a := dpool kL Lh) (E_pget h2 ?_)
      show E B (dct kL false r kv :: _) _
      have fin : ∀ z : Int, (z = g ↔ lk t.held n = some g) → E B (dct kL false r kv :: dpool kL Lh :: dit kL true it r2 ks rest' (some (k, .map (some r))) :: spool vC Lv :: cel true a 82 [.map (some r1), .map (some r2), .map (some r3), I M.began, I M.now, I M.quota] :: dct kL true r1 kf :: dct kI true r3 ko :: H)
          (S.bin .eql (I z) (I g) fun v22 => S.cond v22 (K (.bool true)) (K0 (str n) (I g) (.pointer (some ⟨it, 0, none⟩)))) := fun z hz => by
        refine E_eql ?_
        refine E_if (fun hc => ?_) (fun hc => ?_)
        · have e : heldB M.S n g = true := by
            unfold heldB
            rw [List.any_eq_true]
            exact ⟨t, (sof_some h3).1, decide_eq_true (hz.1 hc)⟩
          rw [e] at hend
          refine fd (a := dit kL true it r2 ks rest' (some (k, .map (some r)))) (E_idone ?_)
          exact sm hend
        · have hk' := hk (rest', some (k, .map (some r))) ⟨done ++ [(k, .map (some r))], by
            simp only [List.append_assoc, List.singleton_append]
            exact (hp'.symm.append_left done).trans hp, fun p hpm u hu => by
            rcases List.mem_append.1 hpm with hpm | hpm
            · exact hd p hpm u hu
            · simp only [List.mem_singleton] at hpm
              subst hpm
              rw [h3] at hu
              cases hu
              exact fun hh => hc (hz.2 hh)⟩ (by simpa using hp'.length_eq ▸ Nat.lt_succ_self _)
          exact sm hk'
      cases hl : lk t.held n with
      | none =>
        refine E_dlk0 (κ := List UInt8) (show lk kv n = _ by rw [h4, hl]; rfl) ?_
        exact sm (fin 0 ⟨fun e => by omega, fun e => by cases hl.symm.trans e⟩)
      | some z =>
        refine E_dlk1 (κ := List UInt8) (v := kI z) (show lk kv n = _ by rw [h4, hl]; rfl) ?_
        exact sm (fin z ⟨fun e => by rw [hl, e], fun e => by rw [hl] at e; exact Option.some.inj e⟩)
end Go.Proofs.YtabpaknfenpkoaaGreat.Mod
