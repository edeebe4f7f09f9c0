/-
  Model: at.
-/
import Derived.Test.YtabpaknfenpkoaaGreatModB
set_option linter.unusedSimpArgs false
set_option linter.unusedVariables false
set_option linter.unusedSectionVars false
namespace Go.Proofs.YtabpaknfenpkoaaGreat.Mod
open Go Go.SL Go.Proofs Go.Proofs.YtabpaknfenpkoaaGreat.Sh
variable {B : World} {H : List Asrt} {K : Value → WT} {W : WT}
attribute [local irreducible] S.pick S.ld S.ldN S.st S.box S.nc S.fad S.ixS S.ixA S.chr S.prt S.ext S.bin S.sh S.sbin S.beq S.neg1 S.com1 S.not1 S.cvt S.str1 S.lenS S.len S.cap S.lenM S.mx S.mn S.mkM S.cond S.gd S.fa S.dr S.rck S.join S.loop S.cvv S.eqv S.slc S.slcS S.b2s S.lk V U CF Gives E cel mpb osl ros dct dit itr lpo dfo
set_option maxRecDepth 4000
attribute [local irreducible] mo
def liveP (g : Int) (v : Ver) : Bool := !v.gone && (decide (g = 0) || decide (v.gen = g))
def idxI : Option Nat → Int | none => -1 | some i => i
theorem E_notB {c : Bool} (h : E B H (K (.bool (!c)))) : E B H (S.not1 (.bool c) K) := E_notb h
/-- Where a live generation stands in a slice: the loop of 'at'. -/
theorem backLoop {v : Value} {l : List Ver} {g : Int} {bg b6 : Nat} [hv : Rs B H v vC l] (hn : l.length ≤ 1048576)
    (h : E B H (K (I (idxI (lastIdx (liveP g) l))))) :
    E B (cel true b6 3 [I 0] :: cel true bg 3 [I g] :: H) (CF Tryz.prog 90 [v] fun v17 =>
      S.rf Tryz.prog v17 undef 2 (fun l0 go0 Z0 => fun v18 v19 =>
    S.box 98 (.agg #[(.int .i64 0), (.int .i64 0), (.string ⟨#[]⟩), (.bool false)]) fun v_9 =>
    S.st 4 v_9 v19 fun _ =>
    go0 <|
    S.join 3 (fun K1 =>
      S.fad v_9 3 fun v20 =>
      S.ld v20 fun v21 =>
      S.not1 v21 fun v22 =>
      S.gd v22 true (fun k => S.ld (ptr bg) k) fun v24 =>
      S.gd v22 true (fun k => S.bin .eql v24 (I 0) k) fun v25 =>
      S.gd v22 true (fun k => k v25) fun v26 =>
      S.gd v26 false (fun k => S.fad v_9 0 k) fun v27 =>
      S.gd v26 false (fun k => S.ld v27 k) fun v28 =>
      S.gd v26 false (fun k => S.ld (ptr bg) k) fun v29 =>
      S.gd v26 false (fun k => S.bin .eql v28 v29 k) fun v30 =>
      S.gd v22 true (fun k => S.pick v26 (.bool true) v30 k) fun v31 =>
      S.pick v22 v31 (.bool false) fun v32 =>
      K1 (ptr b6) v18 v32)
    <| fun v6' i_8 v32' => S.fa fun _ =>
    S.cond v32' (
      S.st 1 v6' i_8 fun _ =>
      Z0 .rt) (
      Z0 .nrm))
    (fun m2 =>
    S.st 1 (ptr b6) (I (-1)) fun _ =>
    S.done m2 <|
    S.ld (ptr b6) fun v6'2 =>
    K v6'2)
    (fun m3 =>
    S.done m3 <|
    S.ld (ptr b6) fun v6'3 =>
    K v6'3)
  [
  ]) := by
  refine rs_cell (v := v) (l := l) fun hcv => ?_
  have : CellI v := ⟨hcv⟩
  refine E_mono (W := s90 _ _) ?_ fun _ => c90
  unfold s90
  (repeat first | refine gS ?_ | refine gA fun _ => ?_ | refine gX fun _ _ => ?_ | refine gT ?_ | refine gF ?_ | refine gI ?_)
  rename_i bs
  refine E_rf (by kernel_rfl) fun l0 dl L hY => ?_
  refine E_mono (W := s101 _ _ _) ?_ fun _ => c101
  unfold s101
  (repeat first | refine gS ?_ | refine gA fun _ => ?_ | refine gX fun _ _ => ?_ | refine gT ?_ | refine gF ?_ | refine gI ?_)
  refine E_loop (σ := Nat) (fun j => j ≤ l.length ∧ ∀ i x, j ≤ i → l[i]? = some x → liveP g x = false)
    (fun j => [.func (.yield l0) #[] #[], .pointer (some ⟨bs, 0, none⟩), I ((j : Int) - 1)])
    (fun _ => lpo l0 L .ready .nrm :: dfo dl :: cel true bs 90 [v] :: cel true b6 3 [I 0] :: cel true bg 3 [I g] :: H) (fun j => j) l.length (fun _ => rfl) rfl
    ⟨Nat.le_refl _, fun i x hi hx => by rw [List.getElem?_eq_none (by omega)] at hx; cases hx⟩ (fun W hW => sm hW) ?_
  rintro j K0 ⟨hj, ha⟩ hk
  refine E_fa fun _ => ?_
  refine E_geq ?_
  refine E_if (fun hc => ?_) (fun hc => ?_)
  · obtain ⟨i, rfl⟩ : ∃ i, j = i + 1 := ⟨j - 1, by omega⟩
    have hx : l[i]? = some l[i] := List.getElem?_eq_getElem (by omega)
    generalize l[i] = x at hx
    rw [show ((i + 1 : Nat) : Int) - 1 = (i : Int) by omega]
    (repeat first | refine gS ?_ | refine gA fun _ => ?_ | refine gX fun _ _ => ?_ | refine gT ?_ | refine gF ?_ | refine gI ?_)
    refine fd (a := lpo l0 L .ready .nrm) (hY _ _ _ rfl ?_)
    unfold vC
    (repeat (first | refine goS ?_ | refine E_box fun _ => ?_ | refine E_fa fun _ => ?_ | refine E_ptfad0 fun _ _ => ?_ | refine E_ptfad fun _ _ => ?_ | refine E_rsix (by assumption) fun _ _ => ?_ | refine goT (by first | assumption | decide) ?_ | refine goF (by first | assumption | decide) ?_ | refine E_ixN (by omega) ?_ | refine E_ld' (by assumption) ?_ | refine E_addI (by omega) (by omega) ?_ | refine E_subI (by omega) (by omega) ?_ | refine E_mulI (by omega) (by omega) ?_))
    rename_i b9
    refine E_find (a := lpo l0 L .ready .nrm) (by repeat (first | exact Find.here | apply Find.there)) (E_begun ?_)
    refine E_join1 [.pointer (some ⟨b6, 0, none⟩), I i, .bool (liveP g x)] (lpo l0 L .busy .nrm :: dfo dl :: cel true bs 90 [v] :: cel true b6 3 [I 0] :: cel true bg 3 [I g] :: H) (fun q hq => ?_) ?_
    · have fin : ∀ q' : Bool, liveP g x = q' → E B (lpo l0 L .busy .nrm :: dfo dl :: cel true bs 90 [v] :: cel true b6 3 [I 0] :: cel true bg 3 [I g] :: H) (app 3 q [.pointer (some ⟨b6, 0, none⟩), I i, .bool q']) := fun q' h => h ▸ hq
      (repeat first | refine gS ?_ | refine gA fun _ => ?_ | refine gX fun _ _ => ?_ | refine gT ?_ | refine gF ?_ | refine gI ?_)
      cases hgo : x.gone with
      | true =>
        (repeat first | refine gS ?_ | refine gA fun _ => ?_ | refine gX fun _ _ => ?_ | refine gT ?_ | refine gF ?_ | refine gI ?_)
        exact sm (fin false (by simp [liveP, hgo]))
      | false =>
        (repeat first | refine gS ?_ | refine gA fun _ => ?_ | refine gX fun _ _ => ?_ | refine gT ?_ | refine gF ?_ | refine gI ?_)
        by_cases h0 : g = 0
        · (repeat first | refine gS ?_ | refine gA fun _ => ?_ | refine gX fun _ _ => ?_ | refine gT ?_ | refine gF ?_ | refine gI ?_)
          refine sm (fin true (by simp [liveP, hgo, h0]))
        · (repeat first | refine gS ?_ | refine gA fun _ => ?_ | refine gX fun _ _ => ?_ | refine gT ?_ | refine gF ?_ | refine gI ?_)
          refine sm (fin _ ?_)
          simp [liveP, hgo, h0]
    refine E_fa fun _ => ?_
    cases hl : liveP g x with
    | true =>
      (repeat first | refine gS ?_ | refine gA fun _ => ?_ | refine gX fun _ _ => ?_ | refine gT ?_ | refine gF ?_ | refine gI ?_)
      refine fd (a := lpo l0 L .busy .nrm) (E_ended_rt ?_)
      (repeat first | refine gS ?_ | refine gA fun _ => ?_ | refine gX fun _ _ => ?_ | refine gT ?_ | refine gF ?_ | refine gI ?_)
      refine fd (a := lpo l0 L .done .rt) (E_over (by simp) ?_)
      unfold aft
      refine fd (a := dfo dl) (E_done1 ?_)
      (repeat first | refine gS ?_ | refine gA fun _ => ?_ | refine gX fun _ _ => ?_ | refine gT ?_ | refine gF ?_ | refine gI ?_)
      have e : lastIdx (liveP g) l = some i := lastIdx_of hx hl fun i' y hi hy => ha i' y (by omega) hy
      have h' := h
      rw [e] at h'
      exact sm h'
    | false =>
      (repeat first | refine gS ?_ | refine gA fun _ => ?_ | refine gX fun _ _ => ?_ | refine gT ?_ | refine gF ?_ | refine gI ?_)
      refine fd (a := lpo l0 L .busy .nrm) (E_ended ?_)
      (repeat first | refine gS ?_ | refine gA fun _ => ?_ | refine gX fun _ _ => ?_ | refine gT ?_ | refine gF ?_ | refine gI ?_)
      have hk' := hk i ⟨by omega, fun i' y hi hy => by
        by_cases hii : i' = i
        · subst hii; rw [hx] at hy; cases hy; exact hl
        · exact ha i' y (by omega) hy⟩ (by simp)
      exact sm hk'
  · have hj0 : j = 0 := by omega
    subst hj0
    refine fd (a := lpo l0 L .ready .nrm) (E_over (by simp) ?_)
    unfold aft
    (repeat first | refine gS ?_ | refine gA fun _ => ?_ | refine gX fun _ _ => ?_ | refine gT ?_ | refine gF ?_ | refine gI ?_)
    refine fd (a := dfo dl) (E_done1 ?_)
    (repeat first | refine gS ?_ | refine gA fun _ => ?_ | refine gX fun _ _ => ?_ | refine gT ?_ | refine gF ?_ | refine gI ?_)
    have e : lastIdx (liveP g) l = none := lastIdx_of_none fun x hx => by
      obtain ⟨i, hi, rfl⟩ := List.getElem_of_mem hx
      exact ha i _ (by omega) (List.getElem?_eq_getElem hi)
    have h' := h
    rw [e] at h'
    exact sm h'
theorem at_ {a : Nat} {M : Mo} {n : List UInt8} {g : Int} (hn : (fof M.V n).length ≤ 1048576) (h : E B (mo a M :: H) (K (I (idxI (lastIdx (liveP g) (fof M.V n)))))) :
    E B (mo a M :: H) (CF Tryz.prog 64 [ptr a, str n, I g] K) := by
  refine E_mo fun r1 r2 r3 kf ks ko Lv Lh hf hs ho => ?_
  have hend := E_moS r1 r2 r3 hf hs ho (b := M.began) (n := M.now) (q := M.quota) rfl rfl rfl h
  refine E_mono (W := s64 _ _ _ K) ?_ fun _ => c64
  unfold s64
  (repeat first | refine gS ?_ | refine gA fun _ => ?_ | refine gX fun _ _ => ?_ | refine gT ?_ | refine gF ?_ | refine gI ?_)
  rename_i bg b6
  have fin : ∀ v : Value, (∀ H, Rs B (spool vC Lv :: H) v vC (fof M.V n)) → E B (cel true b6 3 [I 0] :: cel true bg 3 [I g] :: cel true a 82 [.map (some r1), .map (some r2), .map (some r3), I M.began, I M.now, I M.quota] :: dct kL true r1 kf :: dct kL true r2 ks :: dct kI true r3 ko :: spool vC Lv :: dpool kL Lh :: H) _ := fun v hv => backLoop (v := v) hn hend
  rcases hf n with ⟨h1, h2⟩ | ⟨v, h1, h2, h3⟩
  · refine E_dlk0 (κ := List UInt8) h1 ?_
    exact sm (fin nil fun H => ⟨fun _ => .inl ⟨rfl, by rw [h2]; rfl, by rw [h2]; rfl⟩⟩)
  · refine E_dlk1 (κ := List UInt8) h1 ?_
    exact sm (fin v (rs_pool h2))
end Go.Proofs.YtabpaknfenpkoaaGreat.Mod
