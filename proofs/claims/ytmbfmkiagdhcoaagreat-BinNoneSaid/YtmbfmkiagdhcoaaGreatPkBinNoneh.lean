/-
  Part 8: BnK, BnL, BnN, BnP, BnQ, BnR, BnS, BnT, BnU, BnV, BnW, BnY, BoA, BoB, BoC, BoD, BoE, BoF, BoG, BoH, BoI, BoJ, BoL, BoN, BoT, BoU, BoV, BoW, BoX, BoY, BoZ, BpC, BoK, BpD, BpE, BpF, BpG.
-/
import Derived.Test.YtmbfmkiagdhcoaaGreatPkBinNoneb
import Derived.Test.YtmbfmkiagdhcoaaGreatPkBinNonec
import Derived.Test.YtmbfmkiagdhcoaaGreatPkBinNonef
import Derived.Test.YtmbfmkiagdhcoaaGreatPkBinNoneg
set_option linter.unusedSimpArgs false
set_option linter.unusedVariables false
set_option linter.unusedSectionVars false
section
namespace Go.Proofs.YtmbfmkiagdhcoaaGreat.Ext
open Go Go.SL Go.Proofs Go.Proofs.YtmbfmkiagdhcoaaGreat.Sh Go.Proofs.YtmbfmkiagdhcoaaGreat.Oct Go.Proofs.YtmbfmkiagdhcoaaGreat.Disk Go.Proofs.YtmbfmkiagdhcoaaGreat.Slot
variable {B : World} {H : List Asrt} {K : Value → WT} {W : WT}
abbrev nil : Value := .slice none 0 0
abbrev Cv := { v : Value // isCell v = true }
abbrev Rn := Nat × Nat
abbrev cR (p : Rn) : List Value := [I p.1, I p.2]
instance encR : Enc cR 2 := ⟨fun _ => rfl, fun x y hy => by simp at hy; rcases hy with rfl | rfl <;> rfl⟩
abbrev pv (p : Rn) : Value := .agg #[I p.1, I p.2]
theorem u_runs : Tryz.prog.underlying 125 = some (.slice 32) := by kernel_rfl
theorem u_int : Tryz.prog.underlying 3 = some (.int .i64) := by kernel_rfl
theorem elt_run : Elt Tryz.prog 32 2 16 [I 0, I 0] := elt_of (zv := .agg #[I 0, I 0]) (by kernel_rfl) rfl rfl
theorem size_run (w : World) : (sizeOf 32).run Tryz.prog w = .ok 2 w := by kernel_rfl
theorem setMid {A X R Y : List Value} {a : Nat} (ha : A.length = a) (h : X.length = Y.length) : setAll (A ++ (X ++ R)) a Y = A ++ (Y ++ R) := by
  subst ha
  unfold setAll
  have e : (A ++ (X ++ R)).drop (A.length + Y.length) = R := by
    rw [← h, ← List.append_assoc, ← List.length_append, List.drop_left]
  rw [e, List.take_left, List.append_assoc]
theorem setGrow {A Z C S rc : List Value} {a : Nat} (ha : A.length = a) (hr : rc.length = 2) (hz : Z.length = 2 + C.length) : setAll (setAll (A ++ Z ++ S) a rc) (a + 2) C = A ++ rc ++ C ++ S := by
  have e : A ++ Z ++ S = A ++ (Z.take 2 ++ (Z.drop 2 ++ S)) := by rw [List.append_assoc, ← List.append_assoc (Z.take 2), List.take_append_drop]
  rw [e, setMid ha (by rw [List.length_take, hr]; omega), ← List.append_assoc, setMid (by rw [List.length_append]; omega) (by rw [List.length_drop]; omega)]
  simp only [List.append_assoc]
theorem setRoom {A C S rc : List Value} {a : Nat} (ha : A.length = a) (hr : rc.length = 2) (hs : 2 ≤ S.length) : setAll (setAll (A ++ C ++ S) (a + 2) C) a rc = A ++ rc ++ C ++ S.drop 2 := by
  have e1 : (C ++ S).drop 2 = ((C ++ S).drop 2).take C.length ++ S.drop 2 := by
    conv => lhs; rw [← List.take_append_drop C.length ((C ++ S).drop 2)]
    rw [List.drop_drop, Nat.add_comm 2, ← List.drop_drop, List.drop_left]
  have hl : (((C ++ S).drop 2).take C.length).length = C.length := by rw [List.length_take, List.length_drop, List.length_append]; omega
  have e : A ++ C ++ S = (A ++ (C ++ S).take 2) ++ (((C ++ S).drop 2).take C.length ++ S.drop 2) := by rw [← e1, List.append_assoc, List.append_assoc, List.take_append_drop]
  have h2 : ((C ++ S).take 2).length = 2 := by rw [List.length_take, List.length_append]; omega
  rw [e, setMid (by rw [List.length_append]; omega) hl, List.append_assoc, setMid ha (by omega)]
  simp only [List.append_assoc]
theorem shape_of {w : World} {b : Nat} {T : TypeId} {l : List Value} {fr : Nat × Nat} (h : w.heap[b]? = some (.cells l.toArray T fr)) : w.shape? b = some (T, l.length) := by
  unfold World.shape?; rw [h]; simp
@[irreducible] noncomputable def fovl : Func := match Tryz.prog.funcs[111]? with
  | some f => f
  | none => default
theorem func_ovl : Tryz.prog.funcs[111]? = some fovl := by kernel_rfl
theorem ovl_ne {a b : Nat} {T1 : TypeId} {la lb : List Value} {κ : Bool} {T2 : TypeId} {w : World} [hb : HasC H b κ T2 lb] (hw : sat B (raw a T1 la :: H) w) : a ≠ b := by
  obtain ⟨H', hf⟩ := hb.pf
  obtain ⟨_, l, ⟨l1, l2, e, e1, ⟨l3, l4, e2, ⟨fr', _, e3⟩, _⟩⟩, hc⟩ := sat_perm (hf.perm.cons _) hw
  subst e e2
  have e1 : l1 = [⟨true, a, .cells la.toArray T1 (0, 0)⟩] := e1
  have e3 : l3 = [⟨κ, b, .cells lb.toArray T2 fr'⟩] := e3
  subst e1 e3
  exact (List.pairwise_cons.1 hc.2).1 ⟨κ, b, .cells lb.toArray T2 fr'⟩ (by simp) (.inl rfl)
theorem ovl_run {a b n c m d o : Nat} {la lb : List Value} {T2 : TypeId} {w : World} (h1 : w.heap[a]? = some (.cells la.toArray 32 (0, 0))) (h2 : ∃ fr, w.heap[b]? = some (.cells lb.toArray T2 fr)) (hl : lb ≠ []) (hne : a ≠ b) :
    (callFunc 111 #[.slice (some ⟨a, 0, none⟩) n c, .slice (some ⟨b, o, none⟩) m d]).run Tryz.prog w = .ok (.value (.bool false)) w := by
  obtain ⟨fr, h2⟩ := h2
  rw [run_callFunc_extern func_ovl (by kernel_rfl) (by kernel_rfl) (by kernel_rfl) (e := Extern.SlicesOverlaps.overlaps #[125, 125] #[4]) (by kernel_rfl),
    Lib.run_overlaps_apart w 125 4 32 u_runs 2 size_run ⟨a, 0, none⟩ ⟨b, o, none⟩ n c m d hne _ _ _ _ (shape_of h1) (shape_of h2) (by simpa using hl) (by unfold World.frozen?; rw [h1]; simp) (by unfold World.frozen?; rw [h1]; simp)]
  rfl
theorem E_gvR {P : Program} {s : Sem Next} {v : Value} (hr : ∀ w, sat B H w → s.run P w = .ok (.value v) w) (h : E B H (K v)) : E B H (Gives P s K) := fun w hw => by
  unfold Gives
  rw [hr w hw]
  exact h w hw
theorem E_ovl {a b n c m d o : Nat} {la lb : List Value} {κ : Bool} {T2 : TypeId} [hb : HasC H b κ T2 lb] (hl : lb ≠ []) (h : E B (raw a 32 la :: H) (K (.bool false))) :
    E B (raw a 32 la :: H) (Gives Tryz.prog (callFunc 111 #[.slice (some ⟨a, 0, none⟩) n c, .slice (some ⟨b, o, none⟩) m d]) K) :=
  @E_gvR B (raw a 32 la :: H) K Tryz.prog _ (.bool false) (fun w hw => @ovl_run a b n c m d o la lb T2 w (sat.get hw) (@sat_has B H w κ b T2 lb hb (sat.tail hw)) hl (@ovl_ne B H a b 32 la lb κ T2 w hb hw)) h
end Go.Proofs.YtmbfmkiagdhcoaaGreat.Ext
end
section
namespace Go.Proofs.YtmbfmkiagdhcoaaGreat.Ext
open Go Go.SL Go.Proofs Go.Proofs.YtmbfmkiagdhcoaaGreat.Sh Go.Proofs.YtmbfmkiagdhcoaaGreat.Oct Go.Proofs.YtmbfmkiagdhcoaaGreat.Disk Go.Proofs.YtmbfmkiagdhcoaaGreat.Slot
variable {B : World} {H : List Asrt} {K : Value → WT} {W : WT}
abbrev rns (v : Value) (R : List Rn) : Asrt := sls cR 32 2 v R
theorem rs_app {B : World} {H : List Asrt} {α : Type} {enc : α → List Value} {v : Value} {l : List α} : ∀ (G : List Asrt), Rs B H v enc l → Rs B (G ++ H) v enc l
  | [], h => h
  | a :: G, h => by
    have := rs_app G h
    exact rs_there
theorem E_rsC {α : Type} {enc : α → List Value} {v : Value} {l : List α} [hf : Rs B H v enc l] (h0 : v = nil → l = [] → E B H W) (h : ∀ a cap, v = .slice (some a) l.length cap → l.length ≤ cap → E B H W) : E B H W := fun w hw => by
  rcases hf.pf hw with ⟨h1, h2, _⟩ | ⟨a, cap, h1, h2, _⟩
  · exact h0 h1 (List.length_eq_zero_iff.1 h2) w hw
  · exact h a cap h1 h2 w hw
theorem E_slcM {α : Type} {enc : α → List Value} {sz : Nat} [hE : Enc enc sz] {v : Value} {l : List α} {i : Nat} [hf : Rs B H v enc l] (hi : i ≤ l.length)
    (h : ∀ v' [∀ H' [Rs B H' v enc l], Rs B H' v' enc (l.take i)] [CellI v'], E B H (K v')) : E B H (S.slc sz v none (some (I i)) (some (I i)) K) := by
  have hb : ∀ d, S.bound (some (I i)) d = some i := fun d => by simp [S.bound]
  intro w hw
  rcases hf.pf hw with ⟨hv, h1, hbb⟩ | ⟨a, cap, hv, hle, _⟩
  · subst hv
    have hi' : i = 0 := by omega
    subst hi'
    have hl : l = [] := List.length_eq_zero_iff.1 h1
    subst hl
    refine ⟨0, 0, 0, rfl, rfl, rfl, Nat.le_refl _, Nat.le_refl _, Nat.le_refl _, (fun _ => rfl), ?_⟩
    have hr : ∀ H' [Rs B H' (.slice none 0 0) enc ([] : List α)], Rs B H' (.slice none 0 0) enc (([] : List α).take 0) := fun _ _ => ⟨fun _ => .inl ⟨rfl, rfl, rfl⟩⟩
    exact @h (.slice none 0 0) hr ⟨rfl⟩ w hw
  · subst hv
    refine ⟨0, i, i, hb _, hb _, rfl, Nat.zero_le _, Nat.le_refl _, by omega, (fun _ => rfl), ?_⟩
    have hlen : (l.take i).length = i := by simp; omega
    have hr : ∀ H' [Rs B H' (.slice (some a) l.length cap) enc l], Rs B H' (.slice (if i = 0 then (some a : Option Addr) else (some a).map (·.add (0 * sz))) (i - 0) (i - 0)) enc (l.take i) := fun H' hf' => ⟨fun {w'} hw' => by
      rcases hf'.pf hw' with ⟨h0, _⟩ | ⟨a', cap', hv', _, hc⟩
      · cases h0
      · cases hv'
        have ea : a.add (0 * sz) = a := by rw [Nat.zero_mul]; rfl
        refine .inr ⟨a, i, ?_, by rw [hlen]; omega, fun m hm => ?_⟩
        · rw [hlen]; simp only [Option.map_some, ea, ite_self]; rfl
        · rw [enc_length, hlen] at hm
          have hle3 : i * sz ≤ l.length * sz := Nat.mul_le_mul_right _ (by omega)
          rw [hc m (by rw [enc_length]; omega), ← enc_take, List.getElem?_take_of_lt hm]⟩
    have hcl : CellI (.slice (if i = 0 then (some a : Option Addr) else (some a).map (·.add (0 * sz))) (i - 0) (i - 0)) := ⟨rfl⟩
    exact @h _ hr hcl w hw
theorem cR_cells (R : List Rn) : ∀ v ∈ R.flatMap cR, isCell v = true := fun v hv => by
  obtain ⟨p, _, hp⟩ := List.mem_flatMap.1 hv
  simp at hp
  rcases hp with rfl | rfl <;> rfl
theorem cR_len (R : List Rn) : (R.flatMap cR).length = R.length * 2 := enc_length R
theorem cR_ins (R : List Rn) (i : Nat) (r : Rn) (S : List Value) : (R.take i).flatMap cR ++ cR r ++ (R.drop i).flatMap cR ++ S = (R.take i ++ r :: R.drop i).flatMap cR ++ S := by
  simp [List.flatMap_append]
attribute [local irreducible] S.pick S.ld S.ldN S.st S.box S.nc S.fad S.ixS S.ixA S.chr S.prt S.ext S.bin S.sh S.sbin S.beq S.neg1 S.com1 S.not1 S.cvt S.str1 S.lenS S.len S.cap S.lenM S.mx S.mn S.mkM S.cond S.gd S.fa S.dr S.rck S.join S.loop S.cvv S.eqv S.slc S.slcS S.b2s S.lk V U CF Gives E cel mpb osl ros dct dit itr lpo dfo
theorem cloneR {v : Value} {R : List Rn} [hv : Rs B H v cR R] (hl : R.length ≤ 1000000) (h : ∀ v' [CellI v'], E B (rns v' R :: H) (K v')) : E B H (CF Tryz.prog 77 [v] K) := by
  refine E_mono (W := s77 _ K) ?_ fun _ => c77
  unfold s77
  refine E_rsC (hf := hv) (fun hv0 hl0 => ?_) (fun a cap hv0 hle => ?_)
  · subst hv0 hl0
    refine E_sleq u_runs ?_
    refine E_tt ?_
    exact sls_nil cR 2 (T := 32) (h nil)
  · subst hv0
    refine E_sleq u_runs ?_
    refine E_ff ?_
    refine E_sbsl0 cR u_runs elt_run fun v5 _ => ?_
    refine E_sapps (enc := cR) (u := .slice (some a) R.length cap) (m := R) u_runs elt_run (by simp; omega) (by simp; omega) fun v7 _ => ?_
    rw [List.nil_append]
    exact h v7
theorem insertR {v : Value} {R : List Rn} {i bv : Nat} {r : Rn} (hi : i ≤ R.length) (hl : R.length ≤ 1000000) (h : ∀ v' [CellI v'], E B (rns v' (R.take i ++ r :: R.drop i) :: H) (K v')) :
    E B (rns v R :: raw bv 32 (cR r) :: H) (CF Tryz.prog 76 [v, I i, .slice (some ⟨bv, 0, none⟩) 1 1] K) := by
  refine E_mono (W := s76 _ _ _ K) ?_ fun _ => c76
  unfold s76
  refine E_slcS2 (enc := cR) (sz := 2) (v := v) (l := R) (i := i) (j := R.length) rfl (Dig.bndN rfl) hi (Nat.le_refl _) fun _ _ _ => ?_
  refine E_len ?_
  refine E_eql ?_
  refine E_ifF (by omega) ?_
  refine E_rslen (v := v) (l := R) ?_
  refine E_eql ?_
  refine E_if (fun he => ?_) (fun he => ?_)
  · have he' : i = R.length := by omega
    subst he'
    refine fd (a := raw bv 32 (cR r)) (E_raw ?_)
    refine fd (a := rns v R) ?_
    have : Rs B (cel true bv 32 (cR r) :: H) (.slice (some ⟨bv, 0, none⟩) 1 1) cR [r] := rs_cel (xs := cR r) (by simp) rfl
    refine E_sapps (enc := cR) (u := .slice (some ⟨bv, 0, none⟩) 1 1) (m := [r]) u_runs elt_run (by simp; omega) (by simp; omega) fun v' _ => ?_
    have h' := h v'
    rw [List.take_length, List.drop_length] at h'
    exact sm (G := rns v' (R ++ [r]) :: H) h'
  · have hi' : i < R.length := by omega
    refine E_addI (by omega) (by omega) ?_
    refine E_oslo (by omega) fun b cap spare hv hle hxl hsl => ?_
    subst hv
    have hA : ((R.take i).flatMap cR).length = i * 2 := by rw [cR_len, List.length_take]; omega
    have hC : ((R.drop i).flatMap cR).length = (R.length - i) * 2 := by rw [cR_len, List.length_drop]
    have hAC : R.flatMap cR = (R.take i).flatMap cR ++ (R.drop i).flatMap cR := by rw [← List.flatMap_append, List.take_append_drop]
    refine E_cap ?_
    refine E_gtr ?_
    refine E_if (fun hg => ?_) (fun hg => ?_)
    · refine E_slc (sz := 2) (o := 0) (l := 0) (hh := i) (m := cap) rfl (Dig.bndN rfl) rfl (by omega) (by omega) (Nat.le_refl _) (fun h => by cases h) ?_
      rw [if_neg (by omega), Nat.zero_mul, Nat.add_zero, Nat.sub_zero, Nat.sub_zero]
      refine E_addI (by omega) (by omega) ?_
      refine E_subI (by omega) (by omega) ?_
      rw [show (R.length : Int) + ((1 : Nat) : Int) - (i : Int) = ((R.length + 1 - i : Nat) : Int) by omega]
      refine E_appzF (sz := 2) (n := i) (cap := cap) (b := b) (l := R.flatMap cR ++ spare) u_runs u_int elt_run (by omega) (by rw [Int.toNat_natCast]; omega) (by rw [Int.toNat_natCast]; omega) (by omega) (by rw [Int.toNat_natCast]; omega) (by rw [List.length_append, hxl]; omega) fun v40 _ => ?_
      rw [Int.toNat_natCast, hAC, List.append_assoc ((R.take i).flatMap cR), List.take_left' hA]
      refine E_oslo (by omega) fun b' cap' spare' hv' hle' hxl' hsl' => ?_
      subst hv'
      refine E_slc (sz := 2) (o := 0) (l := i) (hh := i + (R.length + 1 - i)) (m := cap') rfl rfl (Dig.bndN rfl) (by omega) (by omega) (Nat.le_refl _) (fun h => by cases h) ?_
      rw [if_neg (by omega), Nat.zero_add]
      refine fd (a := raw bv 32 (cR r)) (E_raw ?_)
      refine E_copyC (sz := 2) (n := 1) (cs := cR r) (b := b') (b2 := bv) (o2 := 0) u_runs elt_run (by show min _ _ = 1; omega) rfl rfl (by simp [isCell]) (by rw [List.length_append, hxl']; omega) ?_
      refine E_dr ?_
      refine E_addI (by omega) (by omega) ?_
      rw [show (i : Int) + ((1 : Nat) : Int) = ((i + 1 : Nat) : Int) by omega]
      refine E_slc (sz := 2) (o := 0) (l := i + 1) (hh := i + (R.length + 1 - i)) (m := cap') rfl rfl (Dig.bndN rfl) (by omega) (by omega) (Nat.le_refl _) (fun h => by cases h) ?_
      rw [if_neg (by omega), Nat.zero_add]
      refine E_slc (sz := 2) (o := 0) (l := i) (hh := R.length) (m := cap) rfl rfl (Dig.bndN rfl) (by omega) (by omega) (Nat.le_refl _) (fun h => by cases h) ?_
      rw [if_neg (by omega), Nat.zero_add]
      have hz : (rep (R.length + 1 - i) [I 0, I 0]).length = 2 + ((R.drop i).flatMap cR).length := by rw [rep_length, hC]; show (R.length + 1 - i) * 2 = _; omega
      refine E_copyC (sz := 2) (n := R.length - i) (cs := (R.drop i).flatMap cR) (b := b') (b2 := b) (o2 := i * 2) u_runs elt_run (by show min _ _ = _; omega) (by rw [← hA, List.drop_left, ← hC, List.take_left]) hC (cR_cells _) (by
        have h1 : (setAll ((R.take i).flatMap cR ++ rep (R.length + 1 - i) [I 0, I 0] ++ spare') (i * 2) (cR r)).length = ((R.take i).flatMap cR ++ rep (R.length + 1 - i) [I 0, I 0] ++ spare').length := by
          unfold setAll
          simp only [List.length_append, List.length_take, List.length_drop, hA, hz, hC]
          simp; omega
        rw [h1, List.length_append, hxl']; omega) ?_
      rw [show (i + 1) * 2 = i * 2 + 2 by omega, setGrow hA rfl hz, cR_ins]
      refine E_osls (n := i + (R.length + 1 - i)) (cap := cap') (sz := 2) hle' (by rw [cR_len]; simp; omega) hsl' ?_
      have hlen : i + (R.length + 1 - i) = (R.take i ++ r :: R.drop i).length := by simp; omega
      rw [hlen]
      change E B (rns (.slice (some ⟨b', 0, none⟩) (R.take i ++ r :: R.drop i).length cap') (R.take i ++ r :: R.drop i) :: _) _
      exact sm (h (.slice (some ⟨b', 0, none⟩) (R.take i ++ r :: R.drop i).length cap'))
    · have hs2 : 2 ≤ spare.length := by rw [hsl]; omega
      refine E_addI (by omega) (by omega) ?_
      rw [show (R.length : Int) + ((1 : Nat) : Int) = ((R.length + 1 : Nat) : Int) by omega]
      refine E_slc (sz := 2) (o := 0) (l := 0) (hh := R.length + 1) (m := cap) rfl (Dig.bndN rfl) rfl (by omega) (by omega) (Nat.le_refl _) (fun h => by cases h) ?_
      rw [if_neg (by omega), Nat.zero_mul, Nat.add_zero, Nat.sub_zero, Nat.sub_zero]
      refine E_addI (by omega) (by omega) ?_
      rw [show (i : Int) + ((1 : Nat) : Int) = ((i + 1 : Nat) : Int) by omega]
      refine E_slc (sz := 2) (o := 0) (l := i + 1) (hh := R.length + 1) (m := cap) rfl rfl (Dig.bndN rfl) (by omega) (by omega) (Nat.le_refl _) (fun h => by cases h) ?_
      rw [if_neg (by omega), Nat.zero_add]
      refine fd (a := raw bv 32 (cR r)) ?_
      refine E_ovl (b := b) (lb := R.flatMap cR ++ spare) (fun e => by rw [List.append_eq_nil_iff] at e; rw [e.2] at hs2; simp at hs2) ?_
      refine E_notb ?_
      refine E_tt ?_
      refine E_raw ?_
      refine E_dr ?_
      refine E_addI (by omega) (by omega) ?_
      rw [show (i : Int) + ((1 : Nat) : Int) = ((i + 1 : Nat) : Int) by omega]
      refine E_slc (sz := 2) (o := 0) (l := i + 1) (hh := R.length + 1) (m := cap) rfl rfl (Dig.bndN rfl) (by omega) (by omega) (Nat.le_refl _) (fun h => by cases h) ?_
      rw [if_neg (by omega), Nat.zero_add]
      refine E_slc (sz := 2) (o := 0) (l := i) (hh := R.length + 1) (m := cap) rfl rfl (Dig.bndN rfl) (by omega) (by omega) (Nat.le_refl _) (fun h => by cases h) ?_
      rw [if_neg (by omega), Nat.zero_add, hAC]
      refine E_copyC (sz := 2) (n := R.length - i) (cs := (R.drop i).flatMap cR) (b := b) (b2 := b) (o2 := i * 2) u_runs elt_run (by show min _ _ = _; omega) (by rw [← hA, List.append_assoc, List.drop_left, ← hC, List.take_left]) hC (cR_cells _) (by
        rw [List.length_append, List.length_append, hA, hC]; omega) ?_
      refine E_slc (sz := 2) (o := 0) (l := i) (hh := R.length + 1) (m := cap) rfl rfl (Dig.bndN rfl) (by omega) (by omega) (Nat.le_refl _) (fun h => by cases h) ?_
      rw [if_neg (by omega), Nat.zero_add]
      refine E_copyC (sz := 2) (n := 1) (cs := cR r) (b := b) (b2 := bv) (o2 := 0) u_runs elt_run (by show min _ _ = 1; omega) rfl rfl (by simp [isCell]) (by
        unfold setAll
        simp only [List.length_append, List.length_take, List.length_drop, hA, hC]; omega) ?_
      rw [show (i + 1) * 2 = i * 2 + 2 by omega, setRoom hA rfl hs2, cR_ins]
      refine E_osls (n := R.length + 1) (cap := cap) (sz := 2) (by omega) (by rw [cR_len]; simp; omega) (by rw [List.length_drop, hsl]; omega) ?_
      have hlen : R.length + 1 = (R.take i ++ r :: R.drop i).length := by simp; omega
      rw [hlen]
      change E B (rns (.slice (some ⟨b, 0, none⟩) (R.take i ++ r :: R.drop i).length cap) (R.take i ++ r :: R.drop i) :: _) _
      exact sm (h (.slice (some ⟨b, 0, none⟩) (R.take i ++ r :: R.drop i).length cap))
end Go.Proofs.YtmbfmkiagdhcoaaGreat.Ext
end
section
namespace Go.Proofs.YtmbfmkiagdhcoaaGreat.Ext
open Go Go.SL Go.Proofs Go.Proofs.YtmbfmkiagdhcoaaGreat.Sh Go.Proofs.YtmbfmkiagdhcoaaGreat.Oct Go.Proofs.YtmbfmkiagdhcoaaGreat.Disk Go.Proofs.YtmbfmkiagdhcoaaGreat.Slot
variable {B : World} {H : List Asrt} {K : Value → WT} {W : WT}
theorem E_appS {P : Program} {ty t0 t1 T sz by_ n m cap b : Nat} {z l ys : List Value} {x : Value} (hu : P.underlying t0 = some (.slice T))
    (he : Elt P T sz by_ z) (hs : Rd P B (cel true b T l :: H) t1 x sz m ys) (hroom : n + m ≤ cap) (hl : cap * sz ≤ l.length)
    (h : E B (cel true b T (setAll l (n * sz) ys) :: H) (K (.slice (some ⟨b, 0, none⟩) (n + m) cap))) :
    E B (cel true b T l :: H) (V P (Builtin.append_ #[t0, t1] ty #[.slice (some ⟨b, 0, none⟩) n cap, x]) K) := by
  obtain ⟨i, zv, hinfo, hsz, hby, hzv, hzl, hzn⟩ := he.pf
  subst hsz
  refine E_Vok fun w hw => ?_
  have hsrc := hs w hw
  have hyl : ys.length = m * i.size := hsrc.newsLen
  have hle2 : n * i.size + ys.length ≤ l.length := by
    rw [hyl, ← Nat.add_mul]; exact Nat.le_trans (Nat.mul_le_mul_right _ hroom) hl
  obtain ⟨h1, h2⟩ := sat_setCells ys l (n * i.size) w hw hle2
  refine ⟨_, _, run_append_room_src w t0 t1 ty T i hu hinfo b 0 n cap x m ys hsrc hroom (fun j hj => ?_) (fun j hj => ?_), ?_⟩
  · simpa using (h2 j hj).1
  · simpa using (h2 j hj).2
  · refine h _ ?_
    simpa using h1
theorem setDel {A X C S Z : List Value} {a : Nat} (ha : A.length = a) (hx : X.length = 2) (hz : Z.length = 2) : setAll (setAll (A ++ (X ++ C) ++ S) a C) (a + C.length) Z = A ++ C ++ (Z ++ S) := by
  have e : A ++ (X ++ C) ++ S = A ++ ((X ++ C).take C.length ++ ((X ++ C).drop C.length ++ S)) := by
    rw [← List.append_assoc ((X ++ C).take C.length), List.take_append_drop, List.append_assoc]
  rw [e, setMid ha (by rw [List.length_take, List.length_append]; omega), ← List.append_assoc, setMid (by rw [List.length_append]; omega) (by rw [List.length_drop, List.length_append]; omega)]
theorem cR_set {R : List Rn} {i a n m : Nat} (h : R[i]? = some (a, n)) (S : List Value) : (R.flatMap cR ++ S).set (i * 2 + 1) (I m) = (R.set i (a, m)).flatMap cR ++ S := by
  induction R generalizing i with
  | nil => simp at h
  | cons p R ih =>
    cases i with
    | zero =>
      simp only [List.getElem?_cons_zero, Option.some.injEq] at h
      subst h
      simp
    | succ i =>
      simp only [List.getElem?_cons_succ] at h
      have := ih h
      have e : (i + 1) * 2 + 1 = (i * 2 + 1) + 1 + 1 := by omega
      rw [e]
      simp only [List.flatMap_cons, List.cons_append, List.nil_append, List.set_cons_succ, List.append_assoc]
      rw [this]
attribute [local irreducible] S.pick S.ld S.ldN S.st S.box S.nc S.fad S.ixS S.ixA S.chr S.prt S.ext S.bin S.sh S.sbin S.beq S.neg1 S.com1 S.not1 S.cvt S.str1 S.lenS S.len S.cap S.lenM S.mx S.mn S.mkM S.cond S.gd S.fa S.dr S.rck S.join S.loop S.cvv S.eqv S.slc S.slcS S.b2s S.lk V U CF Gives E cel mpb osl ros dct dit itr lpo dfo
theorem deleteR {v : Value} {R : List Rn} {j : Nat} (hj : j < R.length) (hl : R.length ≤ 1000000) (h : ∀ v' [CellI v'], E B (rns v' (R.take j ++ R.drop (j + 1)) :: H) (K v')) :
    E B (rns v R :: H) (CF Tryz.prog 113 [v, I j, I ((j + 1 : Nat) : Int)] K) := by
  refine E_mono (W := s113 _ _ _ K) ?_ fun _ => c113
  unfold s113
  refine E_oslo (by omega) fun b cap spare hv hle hxl hsl => ?_
  subst hv
  refine E_len ?_
  refine E_slc (sz := 2) (o := 0) (l := j) (hh := j + 1) (m := R.length) (Dig.bndN rfl) (Dig.bndN rfl) (Dig.bndN rfl) (by omega) (by omega) hle (fun _ => rfl) ?_
  refine E_eql ?_
  refine E_ifF (by omega) ?_
  refine E_len ?_
  refine E_dr ?_
  refine E_slc (sz := 2) (o := 0) (l := 0) (hh := j) (m := cap) rfl (Dig.bndN rfl) rfl (by omega) (by omega) (Nat.le_refl _) (fun h => by cases h) ?_
  rw [if_neg (by omega), Nat.zero_mul, Nat.add_zero, Nat.sub_zero, Nat.sub_zero]
  refine E_slc (sz := 2) (o := 0) (l := j + 1) (hh := R.length) (m := cap) rfl rfl (Dig.bndN rfl) (by omega) (by omega) (Nat.le_refl _) (fun h => by cases h) ?_
  have hA : ((R.take j).flatMap cR).length = j * 2 := by rw [cR_len, List.length_take]; omega
  have hx : R[j]? = some R[j] := List.getElem?_eq_getElem hj
  have hAC : R.flatMap cR = (R.take j).flatMap cR ++ (cR R[j] ++ (R.drop (j + 1)).flatMap cR) := by
    conv => lhs; rw [← List.take_append_drop j R, List.drop_eq_getElem_cons hj]
    rw [List.flatMap_append, List.flatMap_cons]
  have hC : ((R.drop (j + 1)).flatMap cR).length = (R.length - (j + 1)) * 2 := by rw [cR_len, List.length_drop]
  rw [hAC]
  generalize hL : (R.take j).flatMap cR ++ (cR R[j] ++ (R.drop (j + 1)).flatMap cR) ++ spare = L
  have hLl : L.length = cap * 2 := by rw [← hL, ← hAC, List.length_append, hxl, hsl]; omega
  have hsrc : Rd Tryz.prog B (cel true b 32 L :: H) 125 (.slice (if cap = j + 1 then some ⟨b, 0, none⟩ else some ⟨b, 0 + (j + 1) * 2, none⟩) (R.length - (j + 1)) (cap - (j + 1))) 2 (R.length - (j + 1)) ((R.drop (j + 1)).flatMap cR) := by
    by_cases hc : cap = j + 1
    · rw [if_pos hc]
      have h0 : R.length - (j + 1) = 0 := by omega
      have h1 : (R.drop (j + 1)).flatMap cR = [] := by rw [List.drop_of_length_le (by omega)]; rfl
      rw [h1, h0]
      exact rd_slice (l := L) (sz := 2) u_runs (by simp) (by simp) (by simp)
    · rw [if_neg hc]
      refine rd_slice (l := L) (sz := 2) u_runs ?_ (by rw [hC]) (cR_cells _)
      have e2 : (R.take j).flatMap cR ++ (cR R[j] ++ (R.drop (j + 1)).flatMap cR) ++ spare = ((R.take j).flatMap cR ++ cR R[j]) ++ ((R.drop (j + 1)).flatMap cR ++ spare) := by simp only [List.append_assoc]
      have e : (j + 1) * 2 = ((R.take j).flatMap cR ++ cR R[j]).length := by rw [List.length_append, hA]; simp; omega
      rw [← hL, Nat.zero_add, e2, e, List.drop_left, ← hC, List.take_left]
  refine E_appS (n := j) (m := R.length - (j + 1)) (sz := 2) (cap := cap) u_runs elt_run hsrc (by omega) (by omega) ?_
  refine E_len ?_
  refine E_slc (sz := 2) (o := 0) (l := R.length - 1) (hh := R.length) (m := cap) rfl (Dig.bndN rfl) (Dig.bndN (by omega)) (by omega) (by omega) (Nat.le_refl _) (fun h => by cases h) ?_
  rw [if_neg (by omega), Nat.zero_add, show R.length - (R.length - 1) = 1 by omega]
  have hL2 : (setAll L (j * 2) ((R.drop (j + 1)).flatMap cR)).length = cap * 2 := by
    unfold setAll
    simp only [List.length_append, List.length_take, List.length_drop, hC, hLl]; omega
  refine E_clear (sz := 2) (z := [I 0, I 0]) rfl u_runs elt_run (by simp [isCell]) (by omega) (by rw [hL2]; omega) ?_
  rw [← hL, show (R.length - 1) * 2 = j * 2 + ((R.drop (j + 1)).flatMap cR).length by rw [hC]; omega, setDel hA rfl rfl, ← List.flatMap_append]
  have hlen : j + (R.length - (j + 1)) = (R.take j ++ R.drop (j + 1)).length := by simp; omega
  refine E_osls (n := j + (R.length - (j + 1))) (cap := cap) (sz := 2) (by omega) (by rw [cR_len, ← hlen]) (by rw [List.length_append, hsl]; show 2 + _ = _; omega) ?_
  rw [hlen]
  change E B (rns (.slice (some ⟨b, 0, none⟩) (R.take j ++ R.drop (j + 1)).length cap) (R.take j ++ R.drop (j + 1)) :: _) _
  exact sm (h (.slice (some ⟨b, 0, none⟩) (R.take j ++ R.drop (j + 1)).length cap))
end Go.Proofs.YtmbfmkiagdhcoaaGreat.Ext
end
section
namespace Go.Proofs.YtmbfmkiagdhcoaaGreat.Ext
abbrev Rx := Nat × Nat
def Canon : Nat → List Rx → Prop
  | _, [] => True
  | lo, p :: R => lo ≤ p.1 ∧ 1 ≤ p.2 ∧ Canon (p.1 + p.2 + 1) R
def In (R : List Rx) (x : Nat) : Prop := ∃ p ∈ R, p.1 ≤ x ∧ x < p.1 + p.2
theorem in_nil (x : Nat) : ¬ In [] x := fun ⟨_, h, _⟩ => by simp at h
theorem in_cons {p : Rx} {R : List Rx} {x : Nat} : In (p :: R) x ↔ (p.1 ≤ x ∧ x < p.1 + p.2) ∨ In R x := by
  unfold In
  simp only [List.mem_cons, exists_eq_or_imp]
theorem in_app {R S : List Rx} {x : Nat} : In (R ++ S) x ↔ In R x ∨ In S x := by
  unfold In
  simp only [List.mem_append]
  constructor
  · rintro ⟨p, h | h, k⟩
    · exact .inl ⟨p, h, k⟩
    · exact .inr ⟨p, h, k⟩
  · rintro (⟨p, h, k⟩ | ⟨p, h, k⟩)
    · exact ⟨p, .inl h, k⟩
    · exact ⟨p, .inr h, k⟩
theorem Canon.mono {lo lo' : Nat} {R : List Rx} (h : Canon lo R) (hl : lo' ≤ lo) : Canon lo' R := by
  cases R with
  | nil => trivial
  | cons p R => exact ⟨by have := h.1; omega, h.2⟩
theorem Canon.mem {lo : Nat} {R : List Rx} (h : Canon lo R) {p : Rx} (hp : p ∈ R) : lo ≤ p.1 ∧ 1 ≤ p.2 := by
  induction R generalizing lo with
  | nil => simp at hp
  | cons q R ih =>
    rcases List.mem_cons.1 hp with rfl | hp
    · exact ⟨h.1, h.2.1⟩
    · have := ih h.2.2 hp
      have := h.1
      omega
theorem Canon.ge {lo : Nat} {R : List Rx} (h : Canon lo R) {x : Nat} (hx : In R x) : lo ≤ x := by
  obtain ⟨p, hp, h1, _⟩ := hx
  have := h.mem hp
  omega
theorem Canon.hole {lo : Nat} {R : List Rx} (h : Canon lo R) {p : Rx} (hp : p ∈ R) : ¬ In R (p.1 + p.2) := by
  induction R generalizing lo with
  | nil => simp at hp
  | cons q R ih =>
    intro hx0
    rcases in_cons.1 hx0 with hx | hx
    · rcases List.mem_cons.1 hp with rfl | hp
      · omega
      · have := h.2.2.mem hp
        omega
    · rcases List.mem_cons.1 hp with rfl | hp
      · have := h.2.2.ge hx
        omega
      · exact ih h.2.2 hp hx
theorem Canon.one {lo : Nat} {R : List Rx} (h : Canon lo R) {b k : Nat} (hk : 1 ≤ k) (ha : ∀ x, b ≤ x → x < b + k → In R x) : ∃ p ∈ R, p.1 ≤ b ∧ b + k ≤ p.1 + p.2 := by
  obtain ⟨p, hp, h1, h2⟩ := ha b (Nat.le_refl _) (by omega)
  refine ⟨p, hp, h1, ?_⟩
  rcases Nat.lt_or_ge (p.1 + p.2) (b + k) with hl | hl
  · exact (h.hole hp (ha _ (by omega) hl)).elim
  · exact hl
def leftsL (p : Rx) (b k : Nat) : List Rx := (if p.1 < b then [(p.1, b - p.1)] else []) ++ (if b + k < p.1 + p.2 then [(b + k, p.1 + p.2 - (b + k))] else [])
def cutL (R : List Rx) (i b k : Nat) : List Rx := R.take i ++ leftsL (R.getD i (0, 0)) b k ++ R.drop (i + 1)
theorem canon_lefts {lo : Nat} {p : Rx} {R : List Rx} {b k : Nat} (h : Canon lo (p :: R)) (h1 : p.1 ≤ b) (h2 : b + k ≤ p.1 + p.2) (hk : 1 ≤ k) : Canon lo (leftsL p b k ++ R) := by
  obtain ⟨r1, r2, r3⟩ := h
  unfold leftsL
  split
  · split
    · refine ⟨r1, by simp only; omega, by simp only; omega, by simp only; omega, ?_⟩
      exact r3.mono (by simp only; omega)
    · exact ⟨r1, by simp only; omega, r3.mono (by simp only; omega)⟩
  · split
    · exact ⟨by simp only; omega, by simp only; omega, r3.mono (by simp only; omega)⟩
    · exact r3.mono (by omega)
theorem in_lefts {p : Rx} {b k x : Nat} (h1 : p.1 ≤ b) (h2 : b + k ≤ p.1 + p.2) : In (leftsL p b k) x ↔ (p.1 ≤ x ∧ x < p.1 + p.2) ∧ ¬ (b ≤ x ∧ x < b + k) := by
  unfold leftsL
  rw [in_app]
  split <;> split <;> (constructor <;> intro h <;> (try simp only [in_cons, in_nil, or_false, false_or] at h) <;> (try simp only [in_cons, in_nil, or_false, false_or]) <;> omega)
theorem cut_canon {R : List Rx} {b k : Nat} (hk : 1 ≤ k) : ∀ {lo i : Nat} {p : Rx}, Canon lo R → R[i]? = some p → p.1 ≤ b → b + k ≤ p.1 + p.2 → Canon lo (cutL R i b k) := by
  induction R with
  | nil => intro lo i p _ h; simp at h
  | cons q R ih =>
    intro lo i p hc h h1 h2
    cases i with
    | zero =>
      simp only [List.getElem?_cons_zero, Option.some.injEq] at h
      subst h
      simpa [cutL] using canon_lefts hc h1 h2 hk
    | succ i =>
      simp only [List.getElem?_cons_succ] at h
      have := ih hc.2.2 h h1 h2
      simp only [cutL, List.take_succ_cons, List.getD_cons_succ, List.drop_succ_cons, List.cons_append]
      exact ⟨hc.1, hc.2.1, this⟩
theorem cut_in {R : List Rx} {b k : Nat} : ∀ {lo i : Nat} {p : Rx}, Canon lo R → R[i]? = some p → p.1 ≤ b → b + k ≤ p.1 + p.2 → ∀ x, In (cutL R i b k) x ↔ In R x ∧ ¬ (b ≤ x ∧ x < b + k) := by
  induction R with
  | nil => intro lo i p _ h; simp at h
  | cons q R ih =>
    intro lo i p hc h h1 h2 x
    cases i with
    | zero =>
      simp only [List.getElem?_cons_zero, Option.some.injEq] at h
      subst h
      have e : cutL (q :: R) 0 b k = leftsL q b k ++ R := by simp [cutL]
      rw [e, in_app, in_lefts h1 h2, in_cons]
      constructor
      · rintro (⟨h3, h4⟩ | h3)
        · exact ⟨.inl h3, h4⟩
        · have := hc.2.2.ge h3
          exact ⟨.inr h3, by omega⟩
      · rintro ⟨h3 | h3, h4⟩
        · exact .inl ⟨h3, h4⟩
        · exact .inr h3
    | succ i =>
      simp only [List.getElem?_cons_succ] at h
      have := ih hc.2.2 h h1 h2 x
      have hp := hc.2.2.mem (List.mem_of_getElem? h)
      have e : cutL (q :: R) (i + 1) b k = q :: cutL R i b k := by simp [cutL]
      rw [e, in_cons, in_cons, this]
      constructor
      · rintro (h3 | ⟨h3, h4⟩)
        · exact ⟨.inl h3, by omega⟩
        · exact ⟨.inr h3, h4⟩
      · rintro ⟨h3 | h3, h4⟩
        · exact .inl h3
        · exact .inr ⟨h3, h4⟩
def joinL (R : List Rx) (i : Nat) : List Rx := match R[i]?, R[i + 1]? with
  | some p, some q => if p.1 + p.2 = q.1 then R.take i ++ (p.1, p.2 + q.2) :: R.drop (i + 2) else R
  | _, _ => R
theorem join_succ (p : Rx) (R : List Rx) (i : Nat) : joinL (p :: R) (i + 1) = p :: joinL R i := by
  unfold joinL
  simp only [List.getElem?_cons_succ]
  cases R[i]? with
  | none => rfl
  | some a =>
    cases R[i + 1]? with
    | none => rfl
    | some c =>
      simp only
      split <;> simp
theorem join_two (p q : Rx) (R : List Rx) : joinL (p :: q :: R) 0 = if p.1 + p.2 = q.1 then (p.1, p.2 + q.2) :: R else p :: q :: R := rfl
theorem in_join (R : List Rx) (i x : Nat) : In (joinL R i) x ↔ In R x := by
  induction R generalizing i with
  | nil => rfl
  | cons p R ih =>
    cases i with
    | succ i => rw [join_succ, in_cons, in_cons, ih]
    | zero =>
      cases R with
      | nil => rfl
      | cons q R =>
        rw [join_two]
        split
        · rename_i h
          rw [in_cons, in_cons, in_cons, ← or_assoc]
          refine or_congr ?_ Iff.rfl
          simp only
          omega
        · rfl
def posL (R : List Rx) (b : Nat) : Nat := (R.takeWhile fun p => p.1 < b).length
def giveL (R : List Rx) (b k : Nat) : List Rx := if posL R b = 0 then joinL ((b, k) :: R) 0 else joinL (joinL (R.take (posL R b) ++ (b, k) :: R.drop (posL R b)) (posL R b)) (posL R b - 1)
theorem pos_lt {p : Rx} {R : List Rx} {b : Nat} (h : p.1 < b) : posL (p :: R) b = posL R b + 1 := by simp [posL, h]
theorem pos_ge {p : Rx} {R : List Rx} {b : Nat} (h : ¬ p.1 < b) : posL (p :: R) b = 0 := by simp [posL, h]
theorem pos_le (R : List Rx) (b : Nat) : posL R b ≤ R.length := by
  induction R with
  | nil => exact Nat.zero_le _
  | cons p R ih =>
    by_cases h : p.1 < b
    · rw [pos_lt h, List.length_cons]; omega
    · rw [pos_ge h]; exact Nat.zero_le _
theorem pos_at {R : List Rx} {b i : Nat} (h : i < posL R b) : ∃ p, R[i]? = some p ∧ p.1 < b := by
  induction R generalizing i with
  | nil => simp [posL] at h
  | cons p R ih =>
    by_cases hp : p.1 < b
    · rw [pos_lt hp] at h
      cases i with
      | zero => exact ⟨p, rfl, hp⟩
      | succ i => exact ih (by omega)
    · rw [pos_ge hp] at h; omega
theorem pos_end {R : List Rx} {b : Nat} {p : Rx} (h : R[posL R b]? = some p) : ¬ p.1 < b := by
  induction R with
  | nil => simp at h
  | cons q R ih =>
    by_cases hp : q.1 < b
    · rw [pos_lt hp] at h
      exact ih (by simpa using h)
    · rw [pos_ge hp] at h
      simp only [List.getElem?_cons_zero, Option.some.injEq] at h
      subst h; exact hp
theorem pre_canon {lo b k : Nat} {R : List Rx} (hk : 1 ≤ k) (hb : lo ≤ b) (hR : Canon (b + k) R) : Canon lo (joinL ((b, k) :: R) 0) := by
  cases R with
  | nil => exact ⟨hb, hk, trivial⟩
  | cons q R =>
    rw [join_two]
    obtain ⟨q1, q2, q3⟩ := hR
    split
    · rename_i h
      exact ⟨hb, by simp only; omega, q3.mono (by simp only at h ⊢; omega)⟩
    · rename_i h
      exact ⟨hb, hk, by simp only at h ⊢; omega, q2, q3⟩
theorem canon_up {lo c : Nat} {R : List Rx} (h : Canon lo R) (hc : ∀ p, R[0]? = some p → c ≤ p.1) : Canon c R := by
  cases R with
  | nil => trivial
  | cons p R => exact ⟨hc p rfl, h.2⟩
theorem give_cons {p : Rx} {R : List Rx} {b k : Nat} (h : p.1 < b) : giveL (p :: R) b k = if posL R b = 0 then joinL (p :: joinL ((b, k) :: R) 0) 0 else p :: giveL R b k := by
  unfold giveL
  rw [pos_lt h, if_neg (by omega)]
  by_cases h0 : posL R b = 0
  · rw [if_pos h0, h0]
    simp only [Nat.zero_add, List.take_succ_cons, List.take_zero, List.drop_succ_cons, List.drop_zero, List.cons_append, List.nil_append, Nat.sub_self]
    rw [join_succ]
  · rw [if_neg h0, if_neg h0]
    simp only [List.take_succ_cons, List.drop_succ_cons, List.cons_append]
    rw [join_succ]
    obtain ⟨j, hj⟩ : ∃ j, posL R b = j + 1 := ⟨posL R b - 1, by omega⟩
    rw [hj, Nat.add_sub_cancel, Nat.add_sub_cancel, join_succ]
theorem give_canon {R : List Rx} {b k : Nat} (hk : 1 ≤ k) : ∀ {lo : Nat}, Canon lo R → lo ≤ b → (∀ x, b ≤ x → x < b + k → ¬ In R x) → Canon lo (giveL R b k) := by
  induction R with
  | nil => intro lo _ hb _; exact ⟨hb, hk, trivial⟩
  | cons p R ih =>
    intro lo hc hb hd
    have hd2 : ∀ x, b ≤ x → x < b + k → ¬ In R x := fun x h1 h2 h3 => hd x h1 h2 (in_cons.2 (.inr h3))
    have hd1 : ∀ x, b ≤ x → x < b + k → ¬ (p.1 ≤ x ∧ x < p.1 + p.2) := fun x h1 h2 h3 => hd x h1 h2 (in_cons.2 (.inl h3))
    obtain ⟨r1, r2, r3⟩ := hc
    by_cases hp : p.1 < b
    · have hpe : p.1 + p.2 ≤ b := by
        have := hd1 b (Nat.le_refl _) (by omega)
        omega
      rw [give_cons hp]
      split
      · rename_i h0
        have hup : Canon (b + k) R := canon_up r3 fun q hq => by
          have h1 := pos_end (R := R) (b := b) (p := q) (by rw [h0]; exact hq)
          have h2 := r3.mem (List.mem_of_getElem? hq)
          rcases Nat.lt_or_ge q.1 (b + k) with hl | hl
          · exact (hd2 q.1 (by omega) hl ⟨q, List.mem_of_getElem? hq, Nat.le_refl _, by omega⟩).elim
          · exact hl
        have h3 : Canon b (joinL ((b, k) :: R) 0) := pre_canon hk (Nat.le_refl _) hup
        have h4 := pre_canon (k := p.2) (b := p.1) r2 r1 (h3.mono hpe)
        exact h4
      · rename_i h0
        obtain ⟨q, hq, hqb⟩ := pos_at (R := R) (b := b) (i := 0) (by omega)
        have := r3.mem (List.mem_of_getElem? hq)
        exact ⟨r1, r2, ih r3 (by omega) hd2⟩
    · have : giveL (p :: R) b k = joinL ((b, k) :: p :: R) 0 := by unfold giveL; rw [pos_ge hp, if_pos rfl]
      rw [this]
      refine pre_canon hk hb ⟨?_, r2, r3⟩
      rcases Nat.lt_or_ge p.1 (b + k) with hl | hl
      · exact (hd1 p.1 (by omega) hl ⟨Nat.le_refl _, by omega⟩).elim
      · exact hl
theorem give_in (R : List Rx) (b k x : Nat) : In (giveL R b k) x ↔ In R x ∨ (b ≤ x ∧ x < b + k) := by
  unfold giveL
  split
  · rw [in_join, in_cons, or_comm]
  · rw [in_join, in_join, in_app, in_cons]
    conv => rhs; rw [← List.take_append_drop (posL R b) R, in_app]
    constructor
    · rintro (h | h | h)
      · exact .inl (.inl h)
      · exact .inr h
      · exact .inl (.inr h)
    · rintro ((h | h) | h)
      · exact .inl h
      · exact .inr (.inr h)
      · exact .inr (.inl h)
end Go.Proofs.YtmbfmkiagdhcoaaGreat.Ext
end
section
namespace Go.Proofs.YtmbfmkiagdhcoaaGreat.Ext
open Go Go.SL Go.Proofs Go.Proofs.YtmbfmkiagdhcoaaGreat.Sh Go.Proofs.YtmbfmkiagdhcoaaGreat.Oct Go.Proofs.YtmbfmkiagdhcoaaGreat.Disk Go.Proofs.YtmbfmkiagdhcoaaGreat.Slot
variable {B : World} {H : List Asrt} {K : Value → WT} {W : WT}
def wI (f t : Nat) (a n : Int) : Bool := decide (1 ≤ n ∧ (f : Int) ≤ a ∧ a < (t : Int) ∧ n ≤ (t : Int) - a)
abbrev pI (a n : Int) : Value := .agg #[I a, I n]
abbrev idxI (o : Option Nat) : Int := match o with
  | some i => (i : Int)
  | none => -1
theorem u_runss : Tryz.prog.underlying 195 = some (.slice 125) := by kernel_rfl
theorem elt_runs : Elt Tryz.prog 125 1 24 [nil] := elt_of (zv := nil) (by kernel_rfl) rfl rfl
theorem ok_take : callOk Tryz.prog 70 = true := by kernel_rfl
theorem ok_give : callOk Tryz.prog 75 = true := by kernel_rfl
theorem rep_cR (n : Nat) : rep n [I 0, I 0] = (List.replicate n ((0, 0) : Rn)).flatMap cR := by
  induction n with
  | zero => rfl
  | succ n ih => rw [List.replicate_succ, List.flatMap_cons, ← ih]; rfl
attribute [local irreducible] S.pick S.ld S.ldN S.st S.box S.nc S.fad S.ixS S.ixA S.chr S.prt S.ext S.bin S.sh S.sbin S.beq S.neg1 S.com1 S.not1 S.cvt S.str1 S.lenS S.len S.cap S.lenM S.mx S.mn S.mkM S.cond S.gd S.fa S.dr S.rck S.join S.loop S.cvv S.eqv S.slc S.slcS S.b2s S.lk V U CF Gives E cel mpb osl ros dct dit itr lpo dfo
theorem within {a f t : Nat} {κ : Bool} {v : Value} {x n : Int} [HasC H a κ 127 [I f, I t, v]] (ht : t ≤ 4096) (h : E B H (K (.bool (wI f t x n)))) : E B H (CF Tryz.prog 73 [ptr a, pI x n] K) := by
  refine E_mono (W := s73 _ _ K) ?_ fun _ => c73
  unfold s73
  unfold wI at h
  by_cases h1 : 1 ≤ n
  · by_cases h2 : (f : Int) ≤ x
    · by_cases h3 : x < (t : Int)
      · simp only [h1, h2, h3, true_and] at h
        (repeat first | refine gS ?_ | refine gA fun _ => ?_ | refine gX fun _ _ => ?_ | refine gT ?_ | refine gF ?_ | refine gI ?_)
        exact sm h
      · simp only [h1, h2, h3, true_and, false_and, decide_false] at h
        (repeat first | refine gS ?_ | refine gA fun _ => ?_ | refine gX fun _ _ => ?_ | refine gT ?_ | refine gF ?_ | refine gI ?_)
        exact sm h
    · simp only [h1, h2, true_and, false_and, decide_false] at h
      (repeat first | refine gS ?_ | refine gA fun _ => ?_ | refine gX fun _ _ => ?_ | refine gT ?_ | refine gF ?_ | refine gI ?_)
      exact sm h
  · simp only [h1, false_and, decide_false] at h
    (repeat first | refine gS ?_ | refine gA fun _ => ?_ | refine gX fun _ _ => ?_ | refine gT ?_ | refine gF ?_ | refine gI ?_)
    exact sm h
theorem idxR {v f : Value} {R : List Rn} {P : Rn → Bool} [hv : Rs B H v cR R] (hl : R.length ≤ 1000000) (hf : ∀ p ∈ R, ∀ (K' : Value → WT), E B H (K' (.bool (P p))) → E B H (S.cvv Tryz.prog f [pv p] K'))
    (h : E B H (K (I (idxI (R.findIdx? P))))) : E B H (CF Tryz.prog 69 [v, f] K) := by
  refine E_mono (W := s69 _ _ K) ?_ fun _ => c69
  unfold s69
  refine E_rslen (v := v) (l := R) ?_
  refine E_loop (n := 4) (σ := Nat) (fun i => i ≤ R.length ∧ ∀ j (hj : j < R.length), j < i → P R[j] = false) (fun i => [v, f, I R.length, I i]) (fun _ => H) (fun i => R.length - i) 0 (fun _ => rfl) rfl ⟨Nat.zero_le _, fun j _ hj => by omega⟩ (fun W hW => hW) ?_
  rintro i K0 ⟨hi, hp⟩ hk
  refine E_fa fun _ => ?_
  refine E_lss ?_
  refine E_if (fun hc => ?_) (fun hc => ?_)
  · have hlt : i < R.length := by omega
    have hx : R[i]? = some R[i] := List.getElem?_eq_getElem hlt
    refine E_rsix (v := v) (l := R) hx fun _ _ => ?_
    refine E_ptldA ?_
    refine hf R[i] (List.getElem_mem hlt) _ ?_
    refine E_ifb (fun hb => ?_) (fun hb => ?_)
    · have e : R.findIdx? P = some i := List.findIdx?_eq_some_iff_getElem.2 ⟨hlt, hb, fun j hj => by rw [hp j (by omega) hj]; simp⟩
      rw [e] at h
      exact h
    · refine E_addI (by omega) (by omega) ?_
      refine hk (i + 1) ⟨by omega, fun j hj hji => ?_⟩ (by omega)
      rcases Nat.lt_or_ge j i with h' | h'
      · exact hp j hj h'
      · have : j = i := by omega
        subst this
        exact hb
  · have hie : i = R.length := by omega
    subst hie
    have e : R.findIdx? P = none := List.findIdx?_eq_none_iff.2 fun x hx => by
      obtain ⟨j, hj, rfl⟩ := List.mem_iff_getElem.1 hx
      exact hp j hj hj
    rw [e] at h
    exact h
theorem takeC {nb : Nat} {κ : Bool} {n : Int} {p : Rn} [HasC H nb κ 3 [I n]] (h : E B H (K (.bool (decide (n ≤ (p.2 : Int)))))) : E B H (S.cvv Tryz.prog (.func (.func 70) #[] #[ptr nb]) [pv p] K) := by
  refine E_cvv ok_take ?_
  refine E_mono (W := s70 _ _ K) ?_ fun _ => c70
  unfold s70
  (repeat first | refine gS ?_ | refine gA fun _ => ?_ | refine gX fun _ _ => ?_ | refine gT ?_ | refine gF ?_ | refine gI ?_)
  exact sm h
theorem giveC {nb : Nat} {κ : Bool} {a n : Int} {p : Rn} [HasC H nb κ 32 [I a, I n]] (hp : p.1 + p.2 ≤ 1000000) (ha : -1000000 ≤ a + n ∧ a + n ≤ 1000000) (h : E B H (K (.bool (decide ((p.1 : Int) < a + n) && decide (a < (p.1 : Int) + p.2))))) : E B H (S.cvv Tryz.prog (.func (.func 75) #[] #[ptr nb]) [pv p] K) := by
  refine E_cvv ok_give ?_
  refine E_mono (W := s75 _ _ K) ?_ fun _ => c75
  unfold s75
  by_cases h1 : (p.1 : Int) < a + n
  · rw [decide_eq_true h1, Bool.true_and] at h
    (repeat first | refine gS ?_ | refine gA fun _ => ?_ | refine gX fun _ _ => ?_ | refine gT ?_ | refine gF ?_ | refine gI ?_)
    exact sm h
  · rw [decide_eq_false h1, Bool.false_and] at h
    (repeat first | refine gS ?_ | refine gA fun _ => ?_ | refine gX fun _ _ => ?_ | refine gT ?_ | refine gF ?_ | refine gI ?_)
    exact sm h
structure Rv where
  v : Value
  l : List Rn
  cell : isCell v = true
abbrev cV (b : Rv) : List Value := [b.v]
instance encV : Enc cV 1 := ⟨fun _ => rfl, fun x y hy => by simp at hy; subst hy; exact x.cell⟩
theorem growR {n : Nat} (hn : n ≤ 1000000) (h : ∀ v [CellI v], E B (rns v [] :: H) (K v)) : E B H (CF Tryz.prog 132 [nil, I n] K) := by
  refine E_mono (W := s132 _ _ K) ?_ fun _ => c132
  unfold s132
  refine E_join1 [nil, I n] H (fun q hq => ?_) ?_
  · refine E_lss ?_
    refine E_ifF (by omega) ?_
    exact hq
  refine E_fa fun _ => ?_
  refine E_joinC (σ := Cv) (fun _ => True) (fun v => [v.1]) (fun v => rns v.1 [] :: H) (fun q hq => ?_) (fun v _ => ?_)
  · (repeat first | refine gS ?_ | refine gA fun _ => ?_ | refine gX fun _ _ => ?_ | refine gT ?_ | refine gF ?_ | refine gI ?_)
    refine E_if (fun hc => ?_) (fun hc => ?_)
    · (repeat first | refine gS ?_ | refine gA fun _ => ?_ | refine gX fun _ _ => ?_ | refine gT ?_ | refine gF ?_ | refine gI ?_)
      refine sls_nil cR 2 (T := 32) ?_
      refine fd (a := rns nil []) ?_
      refine E_stake (k := 0) (Nat.zero_le _) fun v0 _ => ?_
      have e : ((n : Int) - (((0 : Nat) : Int) - ((0 : Nat) : Int))) = (n : Int) := by omega
      rw [e]
      show E B (osl 32 2 v0 0 [] :: H) _
      refine E_appz (k := (n : Int)) u_runs u_int elt_run (by simp [isCell]) (by omega) (by rw [Int.toNat_natCast]; omega) (by rw [Int.toNat_natCast]; omega) (by omega) (by omega) fun v' _ => ?_
      have e2 := rep_cR n
      rw [Int.toNat_natCast, e2, List.nil_append]
      have hl : (0 + n) = (List.replicate n ((0, 0) : Rn)).length := by simp
      rw [hl]
      show E B (rns v' (List.replicate n ((0, 0) : Rn)) :: H) _
      (repeat first | refine gS ?_ | refine gA fun _ => ?_ | refine gX fun _ _ => ?_ | refine gT ?_ | refine gF ?_ | refine gI ?_)
      refine E_stake (k := 0) (Nat.zero_le _) fun v2 hv2 => ?_
      exact hq ⟨v2, hv2.pf⟩ trivial
    · refine sls_nil cR 2 (T := 32) ?_
      exact hq ⟨nil, rfl⟩ trivial
  · refine E_fa fun _ => ?_
    have : CellI v.1 := ⟨v.2⟩
    exact h v.1
end Go.Proofs.YtmbfmkiagdhcoaaGreat.Ext
end
section
namespace Go.Proofs.YtmbfmkiagdhcoaaGreat.Ext
open Go Go.SL Go.Proofs Go.Proofs.YtmbfmkiagdhcoaaGreat.Sh Go.Proofs.YtmbfmkiagdhcoaaGreat.Oct Go.Proofs.YtmbfmkiagdhcoaaGreat.Disk Go.Proofs.YtmbfmkiagdhcoaaGreat.Slot
variable {B : World} {H : List Asrt} {K : Value → WT} {W : WT}
def catR (l : List Rv) : List Rn := l.flatMap (·.l)
theorem catR_suc {l : List Rv} {i : Nat} {x : Rv} (h : l[i]? = some x) : catR (l.take (i + 1)) = catR (l.take i) ++ x.l := by
  unfold catR
  rw [List.take_add_one, h, List.flatMap_append]; simp
theorem catR_le (l : List Rv) (i : Nat) : (catR (l.take i)).length ≤ (catR l).length := by
  conv => rhs; rw [← List.take_append_drop i l]
  unfold catR
  rw [List.flatMap_append, List.length_append]; omega
theorem buildRun (a n : Int) (w : World) : (Instr.build 32 #[(0, I a), (1, I n)]).run Tryz.prog w = .ok (.agg #[I a, I n]) w := by kernel_rfl
theorem fill2 (a n c m : Int) : Instr.fill (fun i => some (i * 2, 2)) (rep 2 [I 0, I 0]).toArray [(0, .agg #[I a, I n]), (1, .agg #[I c, I m])] = some #[I a, I n, I c, I m] := by kernel_rfl
theorem fill1 (a n : Int) : Instr.fill (fun i => some (i * 2, 2)) (rep 1 [I 0, I 0]).toArray [(0, .agg #[I a, I n])] = some #[I a, I n] := by kernel_rfl
theorem cells_one {v : Value} (h : isCell v = true) : v.cells = #[v] := by cases v <;> first | rfl | simp [isCell] at h
theorem fill3 {a b c : Value} (ha : isCell a = true) (hb : isCell b = true) (hc : isCell c = true) : Instr.fill (fun i => some (i * 1, 1)) (rep 3 [nil]).toArray [(0, a), (1, b), (2, c)] = some #[a, b, c] := by
  have e : (rep 3 [nil]).toArray = #[nil, nil, nil] := rfl
  rw [e]
  simp [Instr.fill, cells_one ha, cells_one hb, cells_one hc]
def two (p : Rn) (b k : Nat) : List Rn := [(p.1, b - p.1), (b + k, p.1 + p.2 - (b + k))]
def keep (L : List Rn) : List Rn := L.filter fun q => 0 < q.2
theorem keep_two (p : Rn) (b k : Nat) : keep (two p b k) = leftsL p b k := by
  unfold keep two leftsL
  by_cases h1 : p.1 < b <;> by_cases h2 : b + k < p.1 + p.2
  · simp [h1, h2, Nat.sub_pos_of_lt h1, Nat.sub_pos_of_lt h2]
  · simp [h1, h2, Nat.sub_pos_of_lt h1, Nat.sub_eq_zero_of_le (Nat.not_lt.1 h2)]
  · simp [h1, h2, Nat.sub_eq_zero_of_le (Nat.not_lt.1 h1), Nat.sub_pos_of_lt h2]
  · simp [h1, h2, Nat.sub_eq_zero_of_le (Nat.not_lt.1 h1), Nat.sub_eq_zero_of_le (Nat.not_lt.1 h2)]
theorem keep_suc {L : List Rn} {j : Nat} {q : Rn} (h : L[j]? = some q) : keep (L.take (j + 1)) = if 0 < q.2 then keep (L.take j) ++ [q] else keep (L.take j) := by
  unfold keep
  rw [List.take_add_one, h, List.filter_append]
  by_cases hq : 0 < q.2
  · simp [hq]
  · simp [hq]
theorem keep_le (L : List Rn) : (keep L).length ≤ L.length := List.length_filter_le _ _
attribute [local irreducible] S.pick S.ld S.ldN S.st S.box S.nc S.fad S.ixS S.ixA S.chr S.prt S.ext S.bin S.sh S.sbin S.beq S.neg1 S.com1 S.not1 S.cvt S.str1 S.lenS S.len S.cap S.lenM S.mx S.mn S.mkM S.cond S.gd S.fa S.dr S.rck S.join S.loop S.cvv S.eqv S.slc S.slcS S.b2s S.lk V U CF Gives E cel mpb osl ros dct dit itr lpo dfo
theorem concatR {v : Value} {l : List Rv} [hv : ∀ Q, Rs B (Q ++ H) v cV l] (hx : ∀ p ∈ l, ∀ Q, Rs B (Q ++ H) p.v cR p.l) (h2 : (catR l).length ≤ 1000000) (h3 : l.length ≤ 1000000)
    (h : ∀ v' [CellI v'], E B (rns v' (catR l) :: H) (K v')) : E B H (CF Tryz.prog 108 [v] K) := by
  have hv0 : Rs B H v cV l := hv []
  refine E_mono (W := s108 _ K) ?_ fun _ => c108
  unfold s108
  refine E_rslen (v := v) (l := l) ?_
  refine E_loop (n := 5) (σ := Nat) (fun i => i ≤ l.length) (fun i => [v, I (catR (l.take i)).length, v, I l.length, I i]) (fun _ => H) (fun i => l.length - i) 0 (fun _ => rfl) rfl (Nat.zero_le _) (fun W hW => hW) ?_
  intro i K0 hi hk
  refine E_fa fun _ => ?_
  refine E_lss ?_
  refine E_if (fun hc => ?_) (fun hc => ?_)
  · have hxi : l[i]? = some l[i] := List.getElem?_eq_getElem (by omega)
    have hxr := hx l[i] (List.getElem_mem (by omega)) []
    have hle := catR_le l (i + 1)
    have hk1 := hk (i + 1) (by omega) (by omega)
    generalize l[i] = x at hxi hxr
    rw [catR_suc hxi] at hle hk1
    rw [List.length_append] at hle hk1
    refine E_join1 [v, I ((catR (l.take i)).length + x.l.length : Nat), v, I l.length, I i] H (fun q hq => ?_) ?_
    · refine E_rsix (v := v) (l := l) hxi fun _ _ => ?_
      refine E_ptld ?_
      have : Rs B H x.v cR x.l := hxr
      refine E_rslen (v := x.v) (l := x.l) ?_
      refine E_addI (by omega) (by omega) ?_
      refine E_lss ?_
      refine E_ifF (by omega) ?_
      exact hq
    refine E_fa fun _ => ?_
    refine E_addI (by omega) (by omega) ?_
    exact hk1
  have hie : i = l.length := by omega
  subst hie
  clear hk
  rw [List.take_length]
  refine growR h2 fun v0 iv0 => ?_
  have hv1 := hv [rns v0 []]
  refine E_rslen (v := v) (l := l) ?_
  refine E_loop (n := 4) (σ := Nat × Cv) (fun s => s.1 ≤ l.length) (fun s => [s.2.1, v, I l.length, I s.1]) (fun s => rns s.2.1 (catR (l.take s.1)) :: H) (fun s => l.length - s.1) (0, ⟨v0, iv0.pf⟩) (fun _ => rfl) rfl (Nat.zero_le _) (fun W hW => hW) ?_
  rintro ⟨j, nv⟩ K2 hj hk2
  simp only at hj hk2 ⊢
  have inv : CellI nv.1 := ⟨nv.2⟩
  refine E_fa fun _ => ?_
  refine E_lss ?_
  refine E_if (fun hc => ?_) (fun hc => ?_)
  · have hxi : l[j]? = some l[j] := List.getElem?_eq_getElem (by omega)
    have hxr := hx l[j] (List.getElem_mem (by omega)) []
    have hle := catR_le l (j + 1)
    have hk1 : ∀ s : Cv, _ := fun s => hk2 (j + 1, s) (by simp only; omega) (by simp only; omega)
    simp only at hk1
    generalize l[j] = x at hxi hxr
    rw [catR_suc hxi] at hle
    rw [List.length_append] at hle
    simp only [catR_suc hxi] at hk1
    have hv2 := hv [rns nv.1 (catR (l.take j))]
    refine E_rsix (v := v) (l := l) hxi fun _ _ => ?_
    refine E_ptld ?_
    have : Rs B H x.v cR x.l := hxr
    refine E_sapps (enc := cR) (u := x.v) (m := x.l) u_runs elt_run (by omega) (by omega) fun v' hv' => ?_
    refine E_addI (by omega) (by omega) ?_
    exact hk1 ⟨v', hv'.pf⟩
  · have hje : j = l.length := by omega
    subst hje
    rw [List.take_length]
    exact h nv.1
theorem cutR {a f t i b k : Nat} {v : Value} {R : List Rn} {p : Rn} [CellI v] (hx : R[i]? = some p) (h1 : p.1 ≤ b) (h2 : b + k ≤ p.1 + p.2) (hb : p.1 + p.2 ≤ 5000) (hl : R.length ≤ 5000)
    (h : ∀ v' [CellI v'], E B (cel true a 127 [I f, I t, v'] :: rns v' (cutL R i b k) :: H) (K (.tuple #[]))) :
    E B (cel true a 127 [I f, I t, v] :: rns v R :: H) (CF Tryz.prog 71 [ptr a, I i, pI b k] K) := by
  have hi : i < R.length := (List.getElem?_eq_some_iff.1 hx).1
  refine E_mono (W := s71 _ _ _ K) ?_ fun _ => c71
  unfold s71
  refine gA fun v5 => ?_
  refine E_nc ?_
  refine E_fad0 ?_
  refine E_ld ?_
  refine E_rsix (v := v) (l := R) hx fun _ _ => ?_
  refine E_ptldA ?_
  refine gA fun v6 => ?_
  refine gS ?_
  (repeat first | refine gS ?_ | refine gA fun _ => ?_ | refine gX fun _ _ => ?_ | refine gT ?_ | refine gF ?_ | refine gI ?_)
  refine Dig.E_Vr (buildRun _ _) ?_
  (repeat first | refine gS ?_ | refine gA fun _ => ?_ | refine gX fun _ _ => ?_ | refine gT ?_ | refine gF ?_ | refine gI ?_)
  refine Dig.E_Vr (buildRun _ _) ?_
  rw [show (b : Int) - (p.1 : Int) = ((b - p.1 : Nat) : Int) by omega, show (b : Int) + (k : Int) = ((b + k : Nat) : Int) by omega, show (p.1 : Int) + (p.2 : Int) - (b : Int) - (k : Int) = ((p.1 + p.2 - (b + k) : Nat) : Int) by omega]
  refine Dig.E_bslK u_runs elt_run (by omega) (fill2 _ _ _ _) fun b42 => ?_
  refine E_slsC (enc := cR) (sz := 2) (two p b k) 2 rfl rfl ?_
  refine E_len ?_
  have hcv : isCell v = true := CellI.pf
  have h2l : (two p b k).length = 2 := rfl
  refine sls_nil cR 2 (T := 32) ?_
  refine E_loop (n := 6) (σ := Nat × Cv) (fun s => s.1 ≤ 2) (fun s => [ptr a, I i, s.2.1, .slice (some ⟨b42, 0, none⟩) 2 2, I 2, I s.1])
    (fun s => rns s.2.1 (keep ((two p b k).take s.1)) :: rns (.slice (some ⟨b42, 0, none⟩) 2 2) (two p b k) :: cel true v5 32 [I b, I k] :: cel true a 127 [I f, I t, v] :: rns v R :: H) (fun s => 2 - s.1) (0, ⟨nil, rfl⟩) (fun _ => rfl) rfl (Nat.zero_le _) (fun W hW => sm (G := rns nil [] :: rns (.slice (some ⟨b42, 0, none⟩) 2 2) (two p b k) :: cel true v5 32 [I b, I k] :: cel true a 127 [I f, I t, v] :: rns v R :: H) hW) ?_
  rintro ⟨j, v7, hc7⟩ K0 hj hk
  simp only at hj hk ⊢
  refine E_fa fun _ => ?_
  refine E_lss ?_
  refine E_if (fun hc => ?_) (fun hc => ?_)
  · have hq : (two p b k)[j]? = some ((two p b k)[j]'(by omega)) := List.getElem?_eq_getElem (by omega)
    generalize ((two p b k)[j]'(by omega)) = q at hq
    have hkl := keep_le ((two p b k).take j)
    rw [List.length_take] at hkl
    refine E_joinC (n := 6) (σ := Cv) (fun _ => True) (fun x => [ptr a, I i, x.1, .slice (some ⟨b42, 0, none⟩) 2 2, I 2, I j])
      (fun x => rns x.1 (keep ((two p b k).take (j + 1))) :: rns (.slice (some ⟨b42, 0, none⟩) 2 2) (two p b k) :: cel true v5 32 [I b, I k] :: cel true a 127 [I f, I t, v] :: rns v R :: H) ?_ ?_
    · intro K1 hk1
      refine E_rsix (v := .slice (some ⟨b42, 0, none⟩) 2 2) (l := two p b k) hq fun _ _ => ?_
      refine E_ptldA ?_
      refine gA fun v9 => ?_
      refine gS ?_
      (repeat first | refine gS ?_ | refine gA fun _ => ?_ | refine gX fun _ _ => ?_ | refine gT ?_ | refine gF ?_ | refine gI ?_)
      rw [keep_suc hq] at hk1
      refine E_if (fun hc1 => ?_) (fun hc1 => ?_)
      · rw [if_pos (by omega)] at hk1
        refine gS ?_
        refine fd (a := rns v7 (keep ((two p b k).take j))) ?_
        refine E_sapp1 (enc := cR) (xv := .agg #[I q.1, I q.2]) q u_runs elt_run rfl (by omega) (by omega) (by omega) fun v8 i8 => ?_
        exact sm (hk1 ⟨v8, i8.pf⟩ trivial)
      · rw [if_neg (by omega)] at hk1
        exact sm (hk1 ⟨v7, hc7⟩ trivial)
    · rintro ⟨v8, hc8⟩ _
      refine E_fa fun _ => ?_
      refine E_addI (by omega) (by omega) ?_
      exact hk (j + 1, ⟨v8, hc8⟩) (by simp only; omega) (by simp only; omega)
  · have : j = 2 := by omega
    subst this
    have e : (two p b k).take 2 = two p b k := rfl
    rw [e, keep_two]
    clear hk
    refine E_dr ?_
    refine E_nc ?_
    refine E_fad0 ?_
    refine E_ld ?_
    refine E_slcM (enc := cR) (sz := 2) (v := v) (l := R) (i := i) (by omega) fun x1 hx1 i1 => ?_
    refine E_nc ?_
    refine E_fad0 ?_
    refine E_ld ?_
    refine E_addI (by omega) (by omega) ?_
    refine E_slcS2 (enc := cR) (sz := 2) (v := v) (l := R) (i := i + 1) (j := R.length) rfl (Dig.bndN (by omega)) (by omega) (Nat.le_refl _) fun x2 hx2 i2 => ?_
    rw [List.take_of_length_le (by rw [List.length_drop]; omega)] at hx2
    refine Dig.E_bslK u_runss elt_runs (by omega) (fill3 i1.pf hc7 i2.pf) fun b72 => ?_
    refine E_slsC (enc := cV) (sz := 1) [⟨x1, R.take i, i1.pf⟩, ⟨v7, leftsL p b k, hc7⟩, ⟨x2, R.drop (i + 1), i2.pf⟩] 3 rfl rfl ?_
    have hcl : catR [⟨x1, R.take i, i1.pf⟩, ⟨v7, leftsL p b k, hc7⟩, ⟨x2, R.drop (i + 1), i2.pf⟩] = cutL R i b k := by
      have eg : R.getD i (0, 0) = p := by rw [List.getD_eq_getElem?_getD, hx]; rfl
      unfold cutL
      rw [eg]
      simp [catR]
    have hll : (cutL R i b k).length ≤ 10000 := by
      have := keep_le (two p b k)
      rw [keep_two] at this
      rw [← hcl]
      simp only [catR, List.flatMap_cons, List.flatMap_nil, List.length_append, List.length_take, List.length_drop, List.length_nil]; omega
    refine concatR (l := [⟨x1, R.take i, i1.pf⟩, ⟨v7, leftsL p b k, hc7⟩, ⟨x2, R.drop (i + 1), i2.pf⟩]) (hv := fun Q => rs_app Q inferInstance) (fun y hy Q => ?_) (by rw [hcl]; omega) (by simp) fun v73 i73 => ?_
    · refine rs_app Q ?_
      simp only [List.mem_cons, List.not_mem_nil, or_false] at hy
      rcases hy with rfl | rfl | rfl
      · exact hx1 _
      · exact inferInstance
      · exact hx2 _
    · rw [hcl]
      refine E_nc ?_
      refine E_fad0 ?_
      refine E_st ?_
      exact sm (h v73)
end Go.Proofs.YtmbfmkiagdhcoaaGreat.Ext
end
section
namespace Go.Proofs.YtmbfmkiagdhcoaaGreat.Ext
open Go Go.SL Go.Proofs Go.Proofs.YtmbfmkiagdhcoaaGreat.Sh Go.Proofs.YtmbfmkiagdhcoaaGreat.Oct Go.Proofs.YtmbfmkiagdhcoaaGreat.Disk Go.Proofs.YtmbfmkiagdhcoaaGreat.Slot
variable {B : World} {H : List Asrt} {K : Value → WT} {W : WT}
theorem set_del {R : List Rn} {n : Nat} {x : Rn} (h : n < R.length) : (R.set n x).take (n + 1) ++ (R.set n x).drop (n + 1 + 1) = R.take n ++ x :: R.drop (n + 2) := by
  induction R generalizing n with
  | nil => simp at h
  | cons p R ih =>
    cases n with
    | zero => simp
    | succ n =>
      have := ih (n := n) (by simpa using h)
      simp only [List.set_cons_succ, List.take_succ_cons, List.drop_succ_cons, List.cons_append]
      rw [this]
theorem join_some {R : List Rn} {n : Nat} {p q : Rn} (hp : R[n]? = some p) (hq : R[n + 1]? = some q) : joinL R n = if p.1 + p.2 = q.1 then R.take n ++ (p.1, p.2 + q.2) :: R.drop (n + 2) else R := by
  unfold joinL
  rw [hp, hq]
theorem join_short {R : List Rn} {n : Nat} (h : R.length ≤ n + 1) : joinL R n = R := by
  unfold joinL
  rw [List.getElem?_eq_none (i := n + 1) (by omega)]
  cases R[n]? <;> rfl
theorem E_setN {v : Value} {R : List Rn} {n a m0 m : Nat} (hx : R[n]? = some (a, m0)) (h : E B (rns v (R.set n (a, m)) :: H) (K undef)) :
    E B (rns v R :: H) (S.ixS 2 v (I n) fun p => S.fad p 1 fun q => S.st 1 q (I m) K) := by
  have hlt : n < R.length := (List.getElem?_eq_some_iff.1 hx).1
  refine E_oslo (by omega) fun b cap spare hv hle hxl hsl => ?_
  subst hv
  refine E_ixN hlt ?_
  refine E_fad ?_
  rw [Nat.zero_add]
  refine E_st' (by rw [List.length_append, hxl]; omega) ?_
  rw [cR_set hx]
  have hlen : R.length = (R.set n (a, m)).length := (List.length_set ..).symm
  refine E_osls (n := R.length) (cap := cap) (sz := 2) hle (by rw [cR_len, ← hlen]) hsl ?_
  have e : osl 32 2 (.slice (some ⟨b, 0, none⟩) R.length cap) R.length ((R.set n (a, m)).flatMap cR) = rns (.slice (some ⟨b, 0, none⟩) R.length cap) (R.set n (a, m)) := by
    unfold rns sls
    rw [← hlen]
  rw [e]
  exact h
attribute [local irreducible] S.pick S.ld S.ldN S.st S.box S.nc S.fad S.ixS S.ixA S.chr S.prt S.ext S.bin S.sh S.sbin S.beq S.neg1 S.com1 S.not1 S.cvt S.str1 S.lenS S.len S.cap S.lenM S.mx S.mn S.mkM S.cond S.gd S.fa S.dr S.rck S.join S.loop S.cvv S.eqv S.slc S.slcS S.b2s S.lk V U CF Gives E cel mpb osl ros dct dit itr lpo dfo
theorem joinNeg {a : Nat} {l : List Value} (h : E B (cel true a 127 l :: H) (K (.tuple #[]))) : E B (cel true a 127 l :: H) (CF Tryz.prog 78 [ptr a, I (-1)] K) := by
  refine E_mono (W := s78 _ _ K) ?_ fun _ => c78
  unfold s78
  refine E_join1 (n := 3) [ptr a, I (-1), .bool true] (cel true a 127 l :: H) (fun q hq => ?_) ?_
  · (repeat first | refine gS ?_ | refine gA fun _ => ?_ | refine gX fun _ _ => ?_ | refine gT ?_ | refine gF ?_ | refine gI ?_)
    exact hq
  · refine E_fa fun _ => ?_
    refine E_tt ?_
    exact h
theorem joinR {a f t n : Nat} {v : Value} {R : List Rn} [CellI v] (hl : R.length ≤ 5000) (hb : ∀ p ∈ R, p.1 + p.2 ≤ 5000) (h : ∀ v' [CellI v'], E B (cel true a 127 [I f, I t, v'] :: rns v' (joinL R n) :: H) (K (.tuple #[]))) (hn : n ≤ 5000) :
    E B (cel true a 127 [I f, I t, v] :: rns v R :: H) (CF Tryz.prog 78 [ptr a, I n] K) := by
  refine E_mono (W := s78 _ _ K) ?_ fun _ => c78
  unfold s78
  by_cases h1 : R.length ≤ n + 1
  · have h' := h v
    rw [join_short h1] at h'
    refine E_join1 (n := 3) [ptr a, I n, .bool true] (cel true a 127 [I f, I t, v] :: rns v R :: H) (fun q hq => ?_) ?_
    · have h0 : ¬ (n : Int) < 0 := by omega
      have h2 : (R.length : Int) ≤ (n : Int) + 1 := by omega
      (repeat first | refine gS ?_ | refine gA fun _ => ?_ | refine gX fun _ _ => ?_ | refine gT ?_ | refine gF ?_ | refine gI ?_)
      exact hq
    · refine E_fa fun _ => ?_
      refine E_tt ?_
      exact h'
  · have hp : R[n]? = some (R[n]'(by omega)) := List.getElem?_eq_getElem (by omega)
    have hq : R[n + 1]? = some (R[n + 1]'(by omega)) := List.getElem?_eq_getElem (by omega)
    have bp := hb _ (List.getElem_mem (show n < R.length by omega))
    have bq := hb _ (List.getElem_mem (show n + 1 < R.length by omega))
    generalize (R[n]'(by omega)) = p at hp bp
    generalize (R[n + 1]'(by omega)) = q at hq bq
    refine E_join1 (n := 3) [ptr a, I n, .bool (decide ((p.1 : Int) + p.2 ≠ (q.1 : Int)))] (cel true a 127 [I f, I t, v] :: rns v R :: H) (fun k hk => ?_) ?_
    · have h0 : ¬ (n : Int) < 0 := by omega
      have h2 : ¬ (R.length : Int) ≤ (n : Int) + 1 := by omega
      (repeat first | refine gS ?_ | refine gA fun _ => ?_ | refine gX fun _ _ => ?_ | refine gT ?_ | refine gF ?_ | refine gI ?_)
      exact hk
    · refine E_fa fun _ => ?_
      have h' := fun v' i => @h v' i
      rw [join_some hp hq] at h'
      refine E_if (fun hc => ?_) (fun hc => ?_)
      · rw [if_neg (by omega)] at h'
        exact h' v inferInstance
      · have he : p.1 + p.2 = q.1 := by omega
        rw [if_pos he] at h'
        refine E_dr ?_
        refine E_nc ?_
        refine E_fad0 ?_
        refine E_ld ?_
        refine E_rsix (v := v) (l := R) hp fun _ _ => ?_
        refine E_ptfad0 fun _ _ => ?_
        refine E_ptld ?_
        refine E_nc ?_
        refine E_fad0 ?_
        refine E_ld ?_
        refine E_addI (by omega) (by omega) ?_
        rw [show (n : Int) + 1 = ((n + 1 : Nat) : Int) by omega]
        refine E_rsix (v := v) (l := R) hq fun _ _ => ?_
        refine E_ptfad0 fun _ _ => ?_
        refine E_ptld ?_
        refine E_addI (by omega) (by omega) ?_
        rw [show (p.2 : Int) + (q.2 : Int) = ((p.2 + q.2 : Nat) : Int) by omega]
        refine fd (a := rns v R) ?_
        refine E_setN (a := p.1) (m0 := p.2) hp ?_
        refine E_nc ?_
        refine E_fad0 ?_
        refine E_ld ?_
        refine E_addI (by omega) (by omega) ?_
        refine E_addI (by omega) (by omega) ?_
        rw [show (n : Int) + 1 = ((n + 1 : Nat) : Int) by omega, show (n : Int) + 2 = ((n + 1 + 1 : Nat) : Int) by omega]
        refine deleteR (j := n + 1) (by rw [List.length_set]; omega) (by rw [List.length_set]; omega) fun v' i' => ?_
        rw [set_del (by omega)]
        refine E_nc ?_
        refine E_fad0 ?_
        refine E_st ?_
        exact sm (h' v' i')
end Go.Proofs.YtmbfmkiagdhcoaaGreat.Ext
end
section
namespace Go.Proofs.YtmbfmkiagdhcoaaGreat.Ext
open Go Go.SL Go.Proofs Go.Proofs.YtmbfmkiagdhcoaaGreat.Sh Go.Proofs.YtmbfmkiagdhcoaaGreat.Oct Go.Proofs.YtmbfmkiagdhcoaaGreat.Disk Go.Proofs.YtmbfmkiagdhcoaaGreat.Slot
variable {B : World} {H : List Asrt} {K : Value → WT} {W : WT}
structure XOk (f t : Nat) (R : List Rn) : Prop where
  canon : Canon f R
  top : ∀ p ∈ R, p.1 + p.2 ≤ t
  le : t ≤ 4096
theorem canon_len {lo t : Nat} {R : List Rn} (h : Canon lo R) (ht : ∀ p ∈ R, p.1 + p.2 ≤ t) : R = [] ∨ lo + R.length ≤ t := by
  induction R generalizing lo with
  | nil => exact .inl rfl
  | cons p R ih =>
    right
    have h1 := ht p (List.mem_cons_self ..)
    obtain ⟨c1, c2, c3⟩ := h
    rcases ih c3 (fun q hq => ht q (List.mem_cons_of_mem _ hq)) with rfl | h2
    · simp; omega
    · rw [List.length_cons]; omega
theorem XOk.len {f t : Nat} {R : List Rn} (h : XOk f t R) : R.length ≤ 4096 := by
  have := h.le
  rcases canon_len h.canon h.top with h1 | h1
  · rw [h1]; simp
  · omega
theorem join_top {T : Nat} {R : List Rn} (h : ∀ p ∈ R, p.1 + p.2 ≤ T) (i : Nat) : ∀ p ∈ joinL R i, p.1 + p.2 ≤ T := by
  induction R generalizing i with
  | nil => exact h
  | cons p R ih =>
    cases i with
    | succ i =>
      rw [join_succ]
      intro q hq
      rcases List.mem_cons.1 hq with rfl | hq
      · exact h _ (List.mem_cons_self ..)
      · exact ih (fun r hr => h r (List.mem_cons_of_mem _ hr)) i q hq
    | zero =>
      cases R with
      | nil => exact h
      | cons q R =>
        rw [join_two]
        split
        · rename_i he
          intro r hr
          rcases List.mem_cons.1 hr with rfl | hr
          · have := h q (by simp)
            simp only; omega
          · exact h r (by simp [hr])
        · exact h
theorem join_len (R : List Rn) (i : Nat) : (joinL R i).length ≤ R.length := by
  induction R generalizing i with
  | nil => exact Nat.le_refl _
  | cons p R ih =>
    cases i with
    | succ i =>
      have := ih i
      rw [join_succ, List.length_cons, List.length_cons]; omega
    | zero =>
      cases R with
      | nil => exact Nat.le_refl _
      | cons q R =>
        rw [join_two]
        split
        · simp
        · exact Nat.le_refl _
def xmap (a f t : Nat) (R : List Rn) : Asrt := ex fun v : Cv => all [cel true a 127 [I f, I t, v.1], rns v.1 R]
theorem E_xm {a f t : Nat} {R : List Rn} (h : ∀ v [CellI v], E B (cel true a 127 [I f, I t, v] :: rns v R :: H) W) : E B (xmap a f t R :: H) W := E_ex fun x => E_all (@h x.1 ⟨x.2⟩)
theorem E_xmS {a f t : Nat} {R : List Rn} {v : Value} [hc : CellI v] (h : E B (xmap a f t R :: H) W) : E B (cel true a 127 [I f, I t, v] :: rns v R :: H) W :=
  E_all' (G := [cel true a 127 [I f, I t, v], rns v R]) (E_ex' (f := fun v : Cv => all [cel true a 127 [I f, I t, v.1], rns v.1 R]) ⟨v, hc.pf⟩ h)
theorem u_pMap : Tryz.prog.underlying 74 = some (.pointer 127) := by kernel_rfl
theorem buildMap (f t : Int) (w : World) : (Instr.build 127 #[(0, I f), (1, I t)]).run Tryz.prog w = .ok (.agg #[I f, I t, nil]) w := by kernel_rfl
def newL (f t : Nat) : List Rn := if f < t then [(f, t - f)] else []
def takeO (R : List Rn) (n : Int) : Option Nat := R.findIdx? fun p => decide (n ≤ (p.2 : Int))
def takeV (R : List Rn) (n : Int) : Int × Int × List Rn := if n < 1 then (0, 2, R) else match takeO R n with
  | some i => ((R.getD i (0, 0)).1, 0, cutL R i (R.getD i (0, 0)).1 n.toNat)
  | none => (0, 8, R)
def hitB (R : List Rn) (x n : Int) : Bool := (R.findIdx? fun p => decide ((p.1 : Int) < x + n) && decide (x < (p.1 : Int) + p.2)).isSome
def giveV (f t : Nat) (R : List Rn) (x n : Int) : Int × List Rn := if wI f t x n = false then (2, R) else if hitB R x n = true then (9, R) else (0, giveL R x.toNat n.toNat)
attribute [local irreducible] S.pick S.ld S.ldN S.st S.box S.nc S.fad S.ixS S.ixA S.chr S.prt S.ext S.bin S.sh S.sbin S.beq S.neg1 S.com1 S.not1 S.cvt S.str1 S.lenS S.len S.cap S.lenM S.mx S.mn S.mkM S.cond S.gd S.fa S.dr S.rck S.join S.loop S.cvv S.eqv S.slc S.slcS S.b2s S.lk V U CF Gives E cel mpb osl ros dct dit itr lpo dfo
theorem xnew {f t : Nat} (hf : f ≤ t) (ht : t ≤ 4096) (h : ∀ a, E B (xmap a f t (newL f t) :: H) (K (.tuple #[ptr a, I 0]))) : E B H (CF Tryz.prog 25 [I f, I t] K) := by
  refine E_mono (W := s25 _ _ K) ?_ fun _ => c25
  unfold s25
  refine E_join1 (n := 3) [I f, I t, .bool false] H (fun q hq => ?_) ?_
  · have h1 : ¬ (f : Int) < 0 := by omega
    have h2 : ¬ (t : Int) < (f : Int) := by omega
    have h3 : ¬ (4096 : Int) < (t : Int) := by omega
    (repeat first | refine gS ?_ | refine gA fun _ => ?_ | refine gX fun _ _ => ?_ | refine gT ?_ | refine gF ?_ | refine gI ?_)
    rw [decide_eq_false h3]
    exact hq
  · refine E_fa fun _ => ?_
    refine E_ff ?_
    refine Dig.E_Vr (buildMap _ _) ?_
    refine gA fun a => ?_
    have h' := h a
    refine E_joinC (n := 1) (σ := Cv) (fun _ => True) (fun _ => [ptr a]) (fun x => cel true a 127 [I f, I t, x.1] :: rns x.1 (newL f t) :: H) (fun q hq => ?_) (fun x _ => ?_)
    · refine E_lss ?_
      refine E_if (fun hc => ?_) (fun hc => ?_)
      · have e : newL f t = [(f, t - f)] := if_pos (by omega)
        rw [e] at hq
        refine E_subI (by omega) (by omega) ?_
        rw [show (t : Int) - (f : Int) = ((t - f : Nat) : Int) by omega]
        refine Dig.E_Vr (buildRun _ _) ?_
        refine Dig.E_bslK u_runs elt_run (by omega) (fill1 _ _) fun b => ?_
        refine E_slsC (enc := cR) (sz := 2) [(f, t - f)] 1 rfl rfl ?_
        refine E_nc ?_
        refine E_fad0 ?_
        refine E_st ?_
        exact sm (hq ⟨.slice (some ⟨b, 0, none⟩) 1 1, rfl⟩ trivial)
      · have e : newL f t = [] := if_neg (by omega)
        rw [e] at hq
        refine sls_nil cR 2 (T := 32) ?_
        exact sm (hq ⟨nil, rfl⟩ trivial)
    · refine E_fa fun _ => ?_
      have : CellI x.1 := ⟨x.2⟩
      exact E_xmS h'
theorem xtake {a f t : Nat} {R : List Rn} {n : Int} (hR : XOk f t R) (h : E B (xmap a f t (takeV R n).2.2 :: H) (K (.tuple #[I (takeV R n).1, I (takeV R n).2.1]))) : E B (xmap a f t R :: H) (CF Tryz.prog 38 [ptr a, I n] K) := by
  have hl := hR.len
  refine E_mono (W := s38 _ _ K) ?_ fun _ => c38
  unfold s38
  unfold takeV at h
  refine gA fun nb => ?_
  refine E_peq u_pMap ?_
  refine E_ff ?_
  refine E_ld ?_
  refine E_lss ?_
  refine E_if (fun hc => ?_) (fun hc => ?_)
  · rw [if_pos hc] at h
    exact sm h
  · rw [if_neg hc] at h
    refine fd (a := xmap a f t R) ?_
    refine E_xm fun v _ => ?_
    refine E_nc ?_
    refine E_fad0 ?_
    refine E_ld ?_
    refine idxR (v := v) (R := R) (P := fun p => decide (n ≤ (p.2 : Int))) (by omega) (fun p hp K' hk => takeC hk) ?_
    have eo : R.findIdx? (fun p => decide (n ≤ (p.2 : Int))) = takeO R n := rfl
    rw [eo]
    cases ho : takeO R n with
    | none =>
      simp only [ho] at h
      refine E_lss ?_
      refine E_ifT (by decide) ?_
      exact E_xmS (sm h)
    | some i =>
      simp only [ho] at h
      obtain ⟨hi, hb, _⟩ := List.findIdx?_eq_some_iff_getElem.1 ho
      have hx : R[i]? = some R[i] := List.getElem?_eq_getElem hi
      have eg : R.getD i (0, 0) = R[i] := by rw [List.getD_eq_getElem?_getD, hx]; rfl
      rw [eg] at h
      have ht := hR.top _ (List.getElem_mem hi)
      have hle := hR.le
      have hn : n ≤ (R[i].2 : Int) := by simpa using hb
      generalize R[i] = p at hx h ht hn
      simp only [idxI]
      refine E_lss ?_
      refine E_ifF (by omega) ?_
      refine E_nc ?_
      refine E_fad0 ?_
      refine E_ld ?_
      refine E_rsix (v := v) (l := R) hx fun _ _ => ?_
      refine E_ptfad0 fun _ _ => ?_
      refine E_ptld ?_
      refine E_ld ?_
      refine Dig.E_Vr (buildRun _ _) ?_
      have en : n = ((n.toNat : Nat) : Int) := by omega
      have e2 : (Value.agg #[I p.1, I n]) = pI (p.1 : Int) ((n.toNat : Nat) : Int) := by rw [← en]
      rw [e2]
      refine cutR (b := p.1) (k := n.toNat) hx (Nat.le_refl _) (by omega) (by omega) (by omega) fun v' _ => ?_
      exact E_xmS (sm h)
end Go.Proofs.YtmbfmkiagdhcoaaGreat.Ext
end
section
namespace Go.Proofs.YtmbfmkiagdhcoaaGreat.Ext
open Go Go.SL Go.Proofs Go.Proofs.YtmbfmkiagdhcoaaGreat.Sh Go.Proofs.YtmbfmkiagdhcoaaGreat.Oct Go.Proofs.YtmbfmkiagdhcoaaGreat.Disk Go.Proofs.YtmbfmkiagdhcoaaGreat.Slot
variable {B : World} {H : List Asrt} {K : Value → WT} {W : WT}
theorem wI_of {f t : Nat} {x n : Int} (h : wI f t x n = true) : 1 ≤ n ∧ (f : Int) ≤ x ∧ x < (t : Int) ∧ n ≤ (t : Int) - x := by
  unfold wI at h
  exact of_decide_eq_true h
theorem give_top {R : List Rn} {b k T : Nat} (h : ∀ p ∈ R, p.1 + p.2 ≤ T) (hb : b + k ≤ T) : ∀ p ∈ R.take (posL R b) ++ (b, k) :: R.drop (posL R b), p.1 + p.2 ≤ T := fun p hp => by
  rcases List.mem_append.1 hp with hp | hp
  · exact h p (List.mem_of_mem_take hp)
  · rcases List.mem_cons.1 hp with rfl | hp
    · exact hb
    · exact h p (List.mem_of_mem_drop hp)
attribute [local irreducible] S.pick S.ld S.ldN S.st S.box S.nc S.fad S.ixS S.ixA S.chr S.prt S.ext S.bin S.sh S.sbin S.beq S.neg1 S.com1 S.not1 S.cvt S.str1 S.lenS S.len S.cap S.lenM S.mx S.mn S.mkM S.cond S.gd S.fa S.dr S.rck S.join S.loop S.cvv S.eqv S.slc S.slcS S.b2s S.lk V U CF Gives E cel mpb osl ros dct dit itr lpo dfo
theorem giveTail {a f t b k : Nat} {v u : Value} {R : List Rn} [CellI v] [CellI u] (hl : R.length ≤ 4900) (ht : ∀ p ∈ R, p.1 + p.2 ≤ 5000) (hb : b + k ≤ 5000) (h : E B (xmap a f t (giveL R b k) :: H) (K (I 0))) :
    E B (cel true a 127 [I f, I t, v] :: rns u (R.take (posL R b) ++ (b, k) :: R.drop (posL R b)) :: H)
      (S.nc (ptr a) fun v53 => S.fad v53 2 fun v54 => S.st 1 v54 u fun _ => CF Tryz.prog 78 [ptr a, I (posL R b)] fun _ => S.bin .sub (I (posL R b)) (I 1) fun v60 => CF Tryz.prog 78 [ptr a, v60] fun _ => K (I 0)) := by
  have hp := pos_le R b
  have htp := give_top ht hb
  unfold giveL at h
  have hlen : (R.take (posL R b) ++ (b, k) :: R.drop (posL R b)).length ≤ 4901 := by simp; omega
  generalize hR1 : R.take (posL R b) ++ (b, k) :: R.drop (posL R b) = R1 at h htp hlen
  refine E_nc ?_
  refine E_fad0 ?_
  refine E_st ?_
  refine joinR (n := posL R b) (v := u) (R := R1) (by omega) htp (fun v1 _ => ?_) (by omega)
  have hl2 := join_len R1 (posL R b)
  have ht2 := join_top htp (posL R b)
  refine E_subI (by omega) (by omega) ?_
  by_cases h0 : posL R b = 0
  · rw [if_pos h0] at h
    have e1 : R1 = (b, k) :: R := by rw [← hR1, h0]; rfl
    rw [e1] at hl2 ht2 ⊢
    rw [h0]
    refine joinNeg ?_
    exact E_xmS (sm h)
  · rw [if_neg h0] at h
    rw [show ((posL R b : Nat) : Int) - 1 = ((posL R b - 1 : Nat) : Int) by omega]
    refine joinR (n := posL R b - 1) (v := v1) (R := joinL R1 (posL R b)) (by omega) ht2 (fun v2 _ => ?_) (by omega)
    exact E_xmS (sm h)
theorem xgive {a f t : Nat} {R : List Rn} {x n : Int} (hR : XOk f t R) (h : E B (xmap a f t (giveV f t R x n).2 :: H) (K (I (giveV f t R x n).1))) : E B (xmap a f t R :: H) (CF Tryz.prog 40 [ptr a, pI x n] K) := by
  have hl := hR.len
  have hle := hR.le
  refine E_mono (W := s40 _ _ K) ?_ fun _ => c40
  unfold s40
  unfold giveV at h
  refine gA fun nb => ?_
  refine E_peq u_pMap ?_
  refine E_ff ?_
  refine gS ?_
  refine fd (a := xmap a f t R) ?_
  refine E_xm fun v _ => ?_
  refine within (v := v) (f := f) (t := t) (x := x) (n := n) (by omega) ?_
  refine E_notb ?_
  refine E_ifb (fun hw => ?_) (fun hw => ?_)
  · have hw' : wI f t x n = false := by simpa using hw
    rw [if_pos hw'] at h
    exact E_xmS (sm h)
  have hw' : wI f t x n = true := by simpa using hw
  obtain ⟨w1, w2, w3, w4⟩ := wI_of hw'
  rw [if_neg (by rw [hw']; decide)] at h
  refine E_nc ?_
  refine E_fad0 ?_
  refine E_ld ?_
  refine E_mono (W := s74 _ _ _) ?_ fun _ => c74
  unfold s74
  refine idxR (v := v) (R := R) (P := fun p => decide ((p.1 : Int) < x + n) && decide (x < (p.1 : Int) + p.2)) (by omega) (fun p hp K' hk => giveC (by have := hR.top p hp; omega) (by omega) hk) ?_
  unfold hitB at h
  generalize R.findIdx? (fun p => decide ((p.1 : Int) < x + n) && decide (x < (p.1 : Int) + p.2)) = o at h
  cases o with
  | some i =>
    refine E_geq ?_
    simp only [idxI]
    refine E_ifT (by omega) ?_
    have h' : E B (xmap a f t R :: H) (K (I 9)) := h
    exact E_xmS (sm h')
  | none =>
    refine E_geq ?_
    refine E_ifF (by decide) ?_
    have h' : E B (xmap a f t (giveL R x.toNat n.toNat) :: H) (K (I 0)) := h
    clear h
    obtain ⟨b, rfl⟩ : ∃ b : Nat, x = (b : Int) := ⟨x.toNat, by omega⟩
    obtain ⟨k, rfl⟩ : ∃ k : Nat, n = (k : Int) := ⟨n.toNat, by omega⟩
    rw [Int.toNat_natCast, Int.toNat_natCast] at h'
    have hpl := pos_le R b
    refine E_loop (n := 3) (σ := Nat) (fun i => i ≤ posL R b) (fun i => [ptr a, ptr nb, I i]) (fun _ => cel true a 127 [I f, I t, v] :: rns v R :: cel true nb 32 [I b, I k] :: H) (fun i => posL R b - i) 0 (fun _ => rfl) rfl (Nat.zero_le _) (fun W hW => hW) ?_
    rintro i K0 hi hk
    refine E_fa fun _ => ?_
    refine E_join1 (n := 4) [ptr a, ptr nb, I i, .bool (decide (i < posL R b))] (cel true a 127 [I f, I t, v] :: rns v R :: cel true nb 32 [I b, I k] :: H) (fun q hq => ?_) ?_
    · by_cases hc : (i : Int) < (R.length : Int)
      · have hx : R[i]? = some (R[i]'(by omega)) := List.getElem?_eq_getElem (by omega)
        have hlt : decide (i < posL R b) = decide (((R[i]'(by omega)).1 : Int) < (b : Int)) := by
          rw [decide_eq_decide]
          constructor
          · intro h1
            obtain ⟨p, hp, hpb⟩ := pos_at h1
            rw [hx] at hp
            cases hp
            omega
          · intro h1
            rcases Nat.lt_or_ge i (posL R b) with h2 | h2
            · exact h2
            · have : i = posL R b := by omega
              subst this
              have := pos_end hx
              omega
        rw [hlt] at hq
        generalize (R[i]'(by omega)) = p at hx hq
        (repeat first | refine gS ?_ | refine gA fun _ => ?_ | refine gX fun _ _ => ?_ | refine gT ?_ | refine gF ?_ | refine gI ?_)
        exact hq
      · have hlt : decide (i < posL R b) = false := by rw [decide_eq_false_iff_not]; omega
        rw [hlt] at hq
        (repeat first | refine gS ?_ | refine gA fun _ => ?_ | refine gX fun _ _ => ?_ | refine gT ?_ | refine gF ?_ | refine gI ?_)
        exact hq
    · refine E_fa fun _ => ?_
      refine E_if (fun hc => ?_) (fun hc => ?_)
      · refine E_addI (by omega) (by omega) ?_
        exact hk (i + 1) (by omega) (by omega)
      · have hie : i = posL R b := by omega
        subst hie
        have htop : ∀ p ∈ R, p.1 + p.2 ≤ 5000 := fun p hp => by have := hR.top p hp; omega
        refine E_dr ?_
        refine E_nc ?_
        refine E_fad0 ?_
        refine E_ld ?_
        refine gS ?_
        refine E_both ?_ ?_
        · refine cloneR (v := v) (R := R) (by omega) fun v48 _ => ?_
          refine E_rck1 (E_ldNA (E_fact rfl)) (E_rck0 ?_)
          refine E_bslU u_runs elt_run (by omega) (fill1 _ _) fun bv => ?_
          refine fd (a := rns v48 R) ?_
          refine fd (a := raw bv 32 [I b, I k]) ?_
          refine fd (a := rns v48 R) ?_
          refine insertR (v := v48) (R := R) (r := (b, k)) (bv := bv) hpl (by omega) fun v52 _ => ?_
          refine sm (G := cel true a 127 [I f, I t, v] :: rns v52 (R.take (posL R b) ++ (b, k) :: R.drop (posL R b)) :: H) ?_
          exact giveTail (by omega) htop (by omega) h'
        · refine E_bslU u_runs elt_run (by omega) (fill1 _ _) fun bv => ?_
          refine E_rck1 (E_ld (E_fact rfl)) (E_rck0 ?_)
          refine cloneR (v := v) (R := R) (by omega) fun v48 _ => ?_
          refine fd (a := raw bv 32 [I b, I k]) ?_
          refine fd (a := rns v48 R) ?_
          refine insertR (v := v48) (R := R) (r := (b, k)) (bv := bv) hpl (by omega) fun v52 _ => ?_
          refine sm (G := cel true a 127 [I f, I t, v] :: rns v52 (R.take (posL R b) ++ (b, k) :: R.drop (posL R b)) :: H) ?_
          exact giveTail (by omega) htop (by omega) h'
end Go.Proofs.YtmbfmkiagdhcoaaGreat.Ext
end
section
namespace Go.Proofs.YtmbfmkiagdhcoaaGreat.Ext
structure Rel (f : Nat) (T : List Bool) (R : List Rx) : Prop where
  canon : Canon f R
  on : ∀ x, In R x ↔ ∃ j, x = f + j ∧ T.getD j true = false
theorem getD_lt {T : List Bool} {j : Nat} (h : T.getD j true = false) : j < T.length := by
  rcases Nat.lt_or_ge j T.length with h' | h'
  · exact h'
  · rw [List.getD_eq_getElem?_getD, List.getElem?_eq_none h'] at h; cases h
theorem Rel.top {f : Nat} {T : List Bool} {R : List Rx} (h : Rel f T R) {p : Rx} (hp : p ∈ R) : p.1 + p.2 ≤ f + T.length := by
  have h1 := h.canon.mem hp
  obtain ⟨j, h2, h3⟩ := (h.on (p.1 + p.2 - 1)).1 ⟨p, hp, by omega, by omega⟩
  have := getD_lt h3
  omega
def setT (T : List Bool) (a n : Nat) (v : Bool) : List Bool := T.mapIdx fun i b => if a ≤ i ∧ i - a < n then v else b
theorem setT_len (T : List Bool) (a n : Nat) (v : Bool) : (setT T a n v).length = T.length := by simp [setT]
theorem setT_at {T : List Bool} {a n : Nat} {v : Bool} {i : Nat} {b : Bool} (h : T[i]? = some b) : (setT T a n v)[i]? = some (if a ≤ i ∧ i - a < n then v else b) := by
  simp [setT, h]
theorem setT_getD {T : List Bool} {a n : Nat} {v : Bool} {j : Nat} (hn : a + n ≤ T.length) : (setT T a n v).getD j true = if a ≤ j ∧ j < a + n then v else T.getD j true := by
  rcases Nat.lt_or_ge j T.length with h | h
  · have h1 : T[j]? = some T[j] := List.getElem?_eq_getElem h
    rw [List.getD_eq_getElem?_getD, setT_at h1, List.getD_eq_getElem?_getD, h1]
    simp only [Option.getD_some]
    by_cases h2 : a ≤ j ∧ j - a < n
    · rw [if_pos h2, if_pos (by omega)]
    · rw [if_neg h2, if_neg (by omega)]
  · rw [List.getD_eq_getElem?_getD, List.getElem?_eq_none (by rw [setT_len]; omega), if_neg (by omega), List.getD_eq_getElem?_getD, List.getElem?_eq_none h]
theorem rel_cut {f : Nat} {T : List Bool} {R : List Rx} {i b k : Nat} {p : Rx} (h : Rel f T R) (hx : R[i]? = some p) (h1 : p.1 ≤ b) (h2 : b + k ≤ p.1 + p.2) (hk : 1 ≤ k) : Rel f (setT T (b - f) k true) (cutL R i b k) := by
  have hm := List.mem_of_getElem? hx
  have hf := (h.canon.mem hm).1
  have ht := h.top hm
  refine ⟨cut_canon hk h.canon hx h1 h2, fun x => (cut_in h.canon hx h1 h2 x).trans ?_⟩
  rw [h.on x]
  constructor
  · rintro ⟨⟨j, e1, e2⟩, e3⟩
    refine ⟨j, e1, ?_⟩
    rw [setT_getD (by omega), if_neg (by omega)]; exact e2
  · rintro ⟨j, e1, e2⟩
    rw [setT_getD (by omega)] at e2
    split at e2
    · cases e2
    · exact ⟨⟨j, e1, e2⟩, by omega⟩
theorem rel_give {f : Nat} {T : List Bool} {R : List Rx} {b k : Nat} (h : Rel f T R) (hf : f ≤ b) (hb : b + k ≤ f + T.length) (hk : 1 ≤ k) (hd : ∀ x, b ≤ x → x < b + k → ¬ In R x) : Rel f (setT T (b - f) k false) (giveL R b k) := by
  refine ⟨give_canon hk h.canon hf hd, fun x => (give_in R b k x).trans ?_⟩
  rw [h.on x]
  constructor
  · rintro (⟨j, e1, e2⟩ | ⟨e1, e2⟩)
    · refine ⟨j, e1, ?_⟩
      rw [setT_getD (by omega)]
      split
      · rfl
      · exact e2
    · exact ⟨x - f, by omega, by rw [setT_getD (by omega), if_pos (by omega)]⟩
  · rintro ⟨j, e1, e2⟩
    rw [setT_getD (by omega)] at e2
    split at e2
    · exact .inr (by omega)
    · exact .inl ⟨j, e1, e2⟩
def allT (T : List Bool) (a n : Nat) (v : Bool) : Bool := (List.range n).all fun i => T.getD (a + i) true == v
theorem allT_iff {T : List Bool} {a n : Nat} {v : Bool} : allT T a n v = true ↔ ∀ j, a ≤ j → j < a + n → T.getD j true = v := by
  unfold allT
  simp only [List.all_eq_true, List.mem_range, beq_iff_eq]
  exact ⟨fun h j h1 h2 => by have := h (j - a) (by omega); rwa [show a + (j - a) = j by omega] at this, fun h i hi => h _ (by omega) (by omega)⟩
theorem all_true {f : Nat} {T : List Bool} {R : List Rx} {b k : Nat} (h : Rel f T R) (hf : f ≤ b) : allT T (b - f) k true = true ↔ ∀ x, b ≤ x → x < b + k → ¬ In R x := by
  rw [allT_iff]
  constructor
  · intro ha x h1 h2 hx
    obtain ⟨j, e1, e2⟩ := (h.on x).1 hx
    rw [ha j (by omega) (by omega)] at e2; cases e2
  · intro ha j h1 h2
    cases hj : T.getD j true with
    | true => rfl
    | false => exact (ha (f + j) (by omega) (by omega) ((h.on _).2 ⟨j, rfl, hj⟩)).elim
end Go.Proofs.YtmbfmkiagdhcoaaGreat.Ext
end
section
namespace Go.Proofs.YtmbfmkiagdhcoaaGreat.Ext
open Go Go.SL Go.Proofs Go.Proofs.YtmbfmkiagdhcoaaGreat.Sh Go.Proofs.YtmbfmkiagdhcoaaGreat.Oct Go.Proofs.YtmbfmkiagdhcoaaGreat.Disk Go.Proofs.YtmbfmkiagdhcoaaGreat.Slot
variable {B : World} {H : List Asrt} {K : Value → WT} {W : WT}
theorem u_bools : Tryz.prog.underlying 49 = some (.slice 4) := by kernel_rfl
theorem elt_bool : Elt Tryz.prog 4 1 1 [.bool false] := elt_of (zv := .bool false) (by kernel_rfl) rfl rfl
theorem buildR04 (f : Int) (w : World) : (Instr.build 135 #[(0, I f)]).run Tryz.prog w = .ok (.agg #[I f, nil]) w := by kernel_rfl
abbrev bls (v : Value) (T : List Bool) : Asrt := sls cL 4 1 v T
def rmap (a f : Nat) (T : List Bool) : Asrt := ex fun v : Cv => all [cel true a 135 [I f, v.1], bls v.1 T]
theorem E_rmS {a f : Nat} {T : List Bool} {v : Value} [hc : CellI v] (h : E B (rmap a f T :: H) W) : E B (cel true a 135 [I f, v] :: bls v T :: H) W :=
  E_all' (G := [cel true a 135 [I f, v], bls v T]) (E_ex' (f := fun v : Cv => all [cel true a 135 [I f, v.1], bls v.1 T]) ⟨v, hc.pf⟩ h)
attribute [local irreducible] S.pick S.ld S.ldN S.st S.box S.nc S.fad S.ixS S.ixA S.chr S.prt S.ext S.bin S.sh S.sbin S.beq S.neg1 S.com1 S.not1 S.cvt S.str1 S.lenS S.len S.cap S.lenM S.mx S.mn S.mkM S.cond S.gd S.fa S.dr S.rck S.join S.loop S.cvv S.eqv S.slc S.slcS S.b2s S.lk V U CF Gives E cel mpb osl ros dct dit itr lpo dfo
theorem rmnew {f t : Nat} (hf : f ≤ t) (ht : t ≤ 4096) (h : ∀ a, E B (rmap a f (List.replicate (t - f) false) :: H) (K (.tuple #[ptr a, I 0]))) : E B H (CF Tryz.prog 29 [I f, I t] K) := by
  refine E_mono (W := s29 _ _ K) ?_ fun _ => c29
  unfold s29
  refine E_join1 (n := 3) [I f, I t, .bool false] H (fun q hq => ?_) ?_
  · have h1 : ¬ (f : Int) < 0 := by omega
    have h2 : ¬ (t : Int) < (f : Int) := by omega
    have h3 : ¬ (4096 : Int) < (t : Int) := by omega
    (repeat first | refine gS ?_ | refine gA fun _ => ?_ | refine gX fun _ _ => ?_ | refine gT ?_ | refine gF ?_ | refine gI ?_)
    rw [decide_eq_false h3]
    exact hq
  · refine E_fa fun _ => ?_
    refine E_ff ?_
    refine Dig.E_Vr (buildR04 _) ?_
    refine gA fun a => ?_
    have h' := h a
    refine sls_nil cL 1 (T := 4) ?_
    refine E_loop (n := 3) (σ := Nat × Cv) (fun s => s.1 ≤ t - f) (fun s => [I t, ptr a, I ((f + s.1 : Nat) : Int)]) (fun s => bls s.2.1 (List.replicate s.1 false) :: cel true a 135 [I f, s.2.1] :: H) (fun s => t - f - s.1) (0, ⟨nil, rfl⟩) (fun _ => rfl) rfl (Nat.zero_le _) (fun W hW => hW) ?_
    rintro ⟨j, v, hcv⟩ K0 hj hk
    simp only at hj hk ⊢
    have : CellI v := ⟨hcv⟩
    refine E_fa fun _ => ?_
    refine E_lss ?_
    refine E_if (fun hc => ?_) (fun hc => ?_)
    · refine E_nc ?_
      refine E_fad0 ?_
      refine E_ld ?_
      refine E_sapp1 (enc := cL) (xv := .bool false) false u_bools elt_bool rfl (by omega) (by simp; omega) (by simp; omega) fun v' i' => ?_
      rw [← List.replicate_succ']
      refine E_nc ?_
      refine E_fad0 ?_
      refine E_st ?_
      refine E_addI (by omega) (by omega) ?_
      exact sm (hk (j + 1, ⟨v', i'.pf⟩) (by simp only; omega) (by simp only; omega))
    · have : j = t - f := by omega
      subst this
      refine fd (a := cel true a 135 [I f, v]) ?_
      exact E_rmS h'
end Go.Proofs.YtmbfmkiagdhcoaaGreat.Ext
end
section
namespace Go.Proofs.YtmbfmkiagdhcoaaGreat.Ext
open Go Go.SL Go.Proofs Go.Proofs.YtmbfmkiagdhcoaaGreat.Sh Go.Proofs.YtmbfmkiagdhcoaaGreat.Oct Go.Proofs.YtmbfmkiagdhcoaaGreat.Disk Go.Proofs.YtmbfmkiagdhcoaaGreat.Slot
variable {B : World} {H : List Asrt} {K : Value → WT} {W : WT}
def takeT (f : Nat) (T : List Bool) (R : List Rn) (n : Int) : List Bool := if n < 1 then T else match takeO R n with
  | some i => setT T ((R.getD i (0, 0)).1 - f) n.toNat true
  | none => T
def giveT (f : Nat) (T : List Bool) (x n : Int) : Int × List Bool := if wI f (f + T.length) x n = false then (2, T) else if allT T (x.toNat - f) n.toNat true = true then (0, setT T (x.toNat - f) n.toNat false) else (9, T)
theorem rel_ok {f : Nat} {T : List Bool} {R : List Rn} (h : Rel f T R) (hl : f + T.length ≤ 4096) : XOk f (f + T.length) R := ⟨h.canon, fun _ hp => h.top hp, hl⟩
theorem rel_take {f : Nat} {T : List Bool} {R : List Rn} (h : Rel f T R) (n : Int) : Rel f (takeT f T R n) (takeV R n).2.2 ∧ (takeT f T R n).length = T.length := by
  unfold takeT takeV
  by_cases h0 : n < 1
  · rw [if_pos h0, if_pos h0]; exact ⟨h, rfl⟩
  · rw [if_neg h0, if_neg h0]
    cases ho : takeO R n with
    | none => exact ⟨h, rfl⟩
    | some i =>
      obtain ⟨hi, hb, _⟩ := List.findIdx?_eq_some_iff_getElem.1 ho
      have hx : R[i]? = some R[i] := List.getElem?_eq_getElem hi
      have eg : R.getD i (0, 0) = R[i] := by rw [List.getD_eq_getElem?_getD, hx]; rfl
      have hn : n ≤ (R[i].2 : Int) := by simpa using hb
      simp only [eg]
      exact ⟨rel_cut h hx (Nat.le_refl _) (by omega) (by omega), setT_len _ _ _ _⟩
theorem rel_giveV {f : Nat} {T : List Bool} {R : List Rn} (h : Rel f T R) (x n : Int) : Rel f (giveT f T x n).2 (giveV f (f + T.length) R x n).2 ∧ (giveT f T x n).2.length = T.length ∧ (giveT f T x n).1 = (giveV f (f + T.length) R x n).1 := by
  unfold giveT giveV
  by_cases h0 : wI f (f + T.length) x n = false
  · rw [if_pos h0, if_pos h0]; exact ⟨h, rfl, rfl⟩
  · obtain ⟨w1, w2, w3, w4⟩ := wI_of (by simpa using h0 : wI f (f + T.length) x n = true)
    rw [if_neg h0, if_neg h0]
    obtain ⟨b, rfl⟩ : ∃ b : Nat, x = (b : Int) := ⟨x.toNat, by omega⟩
    obtain ⟨k, rfl⟩ : ∃ k : Nat, n = (k : Int) := ⟨n.toNat, by omega⟩
    rw [Int.toNat_natCast, Int.toNat_natCast]
    unfold hitB
    cases ho : R.findIdx? (fun p => decide ((p.1 : Int) < (b : Int) + (k : Int)) && decide ((b : Int) < (p.1 : Int) + p.2)) with
    | some i =>
      obtain ⟨hi, hb, _⟩ := List.findIdx?_eq_some_iff_getElem.1 ho
      simp only [Bool.and_eq_true, decide_eq_true_eq] at hb
      have hm := h.canon.mem (List.getElem_mem hi)
      have ha : ¬ allT T (b - f) k true = true := fun ha => by
        have := (all_true h (by omega)).1 ha (max b R[i].1) (by omega) (by omega)
        exact this ⟨R[i], List.getElem_mem hi, by omega, by omega⟩
      rw [if_neg ha, if_pos (show (some i).isSome = true from rfl)]
      exact ⟨h, rfl, rfl⟩
    | none =>
      have hd : ∀ y, b ≤ y → y < b + k → ¬ In R y := fun y h1 h2 ⟨p, hp, h3, h4⟩ => by
        have := List.findIdx?_eq_none_iff.1 ho p hp
        simp only [Bool.and_eq_false_iff, decide_eq_false_iff_not] at this
        omega
      have ha : allT T (b - f) k true = true := (all_true h (by omega)).2 hd
      rw [if_pos ha, if_neg (by decide)]
      exact ⟨rel_give h (by omega) (by omega) (by omega) hd, setT_len _ _ _ _, rfl⟩
attribute [local irreducible] S.pick S.ld S.ldN S.st S.box S.nc S.fad S.ixS S.ixA S.chr S.prt S.ext S.bin S.sh S.sbin S.beq S.neg1 S.com1 S.not1 S.cvt S.str1 S.lenS S.len S.cap S.lenM S.mx S.mn S.mkM S.cond S.gd S.fa S.dr S.rck S.join S.loop S.cvv S.eqv S.slc S.slcS S.b2s S.lk V U CF Gives E cel mpb osl ros dct dit itr lpo dfo
end Go.Proofs.YtmbfmkiagdhcoaaGreat.Ext
end
section
namespace Go.Proofs.YtmbfmkiagdhcoaaGreat.Pk
open Go Go.SL Go.Proofs Go.Proofs.YtmbfmkiagdhcoaaGreat.Sh Go.Proofs.YtmbfmkiagdhcoaaGreat.Oct Go.Proofs.YtmbfmkiagdhcoaaGreat.Disk Go.Proofs.YtmbfmkiagdhcoaaGreat.Slot
variable {B : World} {H : List Asrt} {K : Value → WT} {W : WT}
abbrev nil : Value := .slice none 0 0
abbrev Cv := { v : Value // isCell v = true }
theorem ofBe4 {l : List UInt8} {w : Nat} (h : w ≤ 4) : ofBe (l.take w) < 4294967296 := Nat.lt_of_lt_of_le (ofBe_lt _) (by
  have : 256 ^ (l.take w).length ≤ 256 ^ 4 := Nat.pow_le_pow_right (by decide) (by rw [List.length_take]; omega)
  omega)
attribute [local irreducible] S.pick S.ld S.ldN S.st S.box S.nc S.fad S.ixS S.ixA S.chr S.prt S.ext S.bin S.sh S.sbin S.beq S.neg1 S.com1 S.not1 S.cvt S.str1 S.lenS S.len S.cap S.lenM S.mx S.mn S.mkM S.cond S.gd S.fa S.dr S.rck S.join S.loop S.cvv S.eqv S.slc S.slcS S.b2s S.lk V U CF Gives E cel mpb osl ros dct dit itr lpo dfo
set_option maxRecDepth 100000
theorem takeAt {v : Value} {bs : List UInt8} {w p : Nat} [Rb B H v bs] (hw1 : 1 ≤ w) (hw2 : w ≤ 8) (hl : p + w ≤ bs.length) (hm : bs.length ≤ 9223372036854775807)
    (h : E B H (K (if 9007199254740991 < ofBe ((bs.drop p).take w) then .tuple #[I 0, I 0, I 6] else .tuple #[I (ofBe ((bs.drop p).take w)), I (p + w : Nat), I 0]))) : E B H (CF Tryz.prog 68 [v, I p, I w] K) := by
  refine E_mono (W := s68 _ _ _ K) ?_ fun _ => c68
  unfold s68
  have c1 : ¬ (w : Int) < 1 := by omega
  have c2 : ¬ (8 : Int) < (w : Int) := by omega
  have c0 : ¬ (p : Int) < 0 := by omega
  have c3 : ¬ (bs.length : Int) < (p : Int) := by omega
  have c4 : ¬ (bs.length : Int) - (p : Int) < (w : Int) := by omega
  refine E_join0 ?_
  (repeat first | refine gS ?_ | refine gA fun _ => ?_ | refine gX fun _ _ => ?_ | refine gT ?_ | refine gF ?_ | refine gI ?_)
  refine E_slcB (v := v) (l := p) (hh := p + w) (show (if 0 ≤ ((p : Int) + (w : Int)) then some ((p : Int) + (w : Int)).toNat else none) = _ by rw [if_pos (by omega)]; congr 1) (by simp [S.bound]) (by omega) hl fun u _ _ => ?_
  refine E_rslen (v := u) ?_
  have hul : ((bs.drop p).take (p + w - p)).length = w := by simp; omega
  rw [hul]
  refine E_loop (σ := Nat) (fun i => i ≤ w) (fun i => [I p, I w, .int .u64 (ofBe ((bs.drop p).take i)), u, I w, I i]) (fun _ => H) (fun i => w - i) 0 (fun _ => rfl) rfl (Nat.zero_le _) (fun W hW => hW) ?_
  intro i K0 hi hk
  refine E_fa fun _ => ?_
  (repeat first | refine gS ?_ | refine gA fun _ => ?_ | refine gX fun _ _ => ?_ | refine gT ?_ | refine gF ?_ | refine gI ?_)
  refine E_if (fun hc => ?_) (fun hc => ?_)
  · have hil : i < (bs.drop p).length := by rw [List.length_drop]; omega
    have hs : (bs.drop p)[i]? = some (bs.drop p)[i] := List.getElem?_eq_getElem hil
    generalize (bs.drop p)[i] = x at hs
    have hs2 : ((bs.drop p).take (p + w - p))[i]? = some x := by rw [List.getElem?_take_of_lt (by omega)]; exact hs
    have hlt := ofBe_lt ((bs.drop p).take i)
    have hlt2 : ofBe ((bs.drop p).take i) < 72057594037927936 := Nat.lt_of_lt_of_le hlt (by
      have : 256 ^ ((bs.drop p).take i).length ≤ 256 ^ 7 := Nat.pow_le_pow_right (by decide) (by rw [List.length_take]; omega)
      omega)
    refine E_rsix (v := u) hs2 fun _ _ => ?_
    refine E_ptld ?_
    refine E_push8 hlt2 ?_
    (repeat first | refine gS ?_ | refine gA fun _ => ?_ | refine gX fun _ _ => ?_ | refine gT ?_ | refine gF ?_ | refine gI ?_)
    have hk' := hk (i + 1) (by omega) (by omega)
    rw [Slot.take_snocB hs, ofBe_snoc] at hk'
    exact hk'
  · have : i = w := by omega
    subst this
    refine E_gtr ?_
    refine E_if (fun hg => ?_) (fun hg => ?_)
    · rw [if_pos (by omega)] at h; exact h
    · rw [if_neg (by omega)] at h
      refine E_cvtI (by omega) (by omega) ?_
      (repeat first | refine gS ?_ | refine gA fun _ => ?_ | refine gX fun _ _ => ?_ | refine gT ?_ | refine gF ?_ | refine gI ?_)
      have e : (p : Int) + (i : Int) = ((p + i : Nat) : Int) := by omega
      rw [e]
      exact h
theorem take4 {v : Value} {bs : List UInt8} {w p : Nat} [Rb B H v bs] (hw1 : 1 ≤ w) (hw2 : w ≤ 4) (hl : p + w ≤ bs.length) (hm : bs.length ≤ 9223372036854775807)
    (h : E B H (K (.tuple #[I (ofBe ((bs.drop p).take w)), I (p + w : Nat), I 0]))) : E B H (CF Tryz.prog 68 [v, I p, I w] K) := by
  have h4 := ofBe4 (l := bs.drop p) hw2
  refine takeAt hw1 (by omega) hl hm ?_
  rw [if_neg (by omega)]
  exact h
end Go.Proofs.YtmbfmkiagdhcoaaGreat.Pk
end
section
namespace Go.Proofs.YtmbfmkiagdhcoaaGreat.Pk
open Go Go.SL Go.Proofs Go.Proofs.YtmbfmkiagdhcoaaGreat.Sh Go.Proofs.YtmbfmkiagdhcoaaGreat.Oct Go.Proofs.YtmbfmkiagdhcoaaGreat.Disk Go.Proofs.YtmbfmkiagdhcoaaGreat.Slot
variable {B : World} {H : List Asrt} {K : Value → WT} {W : WT}
structure Bv where
  v : Value
  bs : List UInt8
  cell : isCell v = true
abbrev cV (b : Bv) : List Value := [b.v]
instance : Enc cV 1 := ⟨fun _ => rfl, fun x y hy => by simp at hy; subst hy; exact x.cell⟩
instance (b : Bv) : CellI b.v := ⟨b.cell⟩
attribute [local irreducible] S.pick S.ld S.ldN S.st S.box S.nc S.fad S.ixS S.ixA S.chr S.prt S.ext S.bin S.sh S.sbin S.beq S.neg1 S.com1 S.not1 S.cvt S.str1 S.lenS S.len S.cap S.lenM S.mx S.mn S.mkM S.cond S.gd S.fa S.dr S.rck S.join S.loop S.cvv S.eqv S.slc S.slcS S.b2s S.lk V U CF Gives E cel mpb osl ros dct dit itr lpo dfo
theorem grow {n : Nat} (hn : 1 ≤ n ∧ n ≤ 1000000) (h : ∀ v [CellI v], E B (sls cB 5 1 v [] :: H) (K v)) : E B H (CF Tryz.prog 103 [nil, I n] K) := by
  refine E_mono (W := s103 _ _ K) ?_ fun _ => c103
  unfold s103
  refine E_join1 [nil, I n] H (fun q hq => ?_) ?_
  · refine E_lss ?_
    rw [decide_eq_false (by omega)]
    refine E_ff ?_
    exact hq
  refine E_fa fun _ => ?_
  refine E_joinC (σ := Cv) (fun _ => True) (fun v => [v.1]) (fun v => sls cB 5 1 v.1 [] :: H) (fun q hq => ?_) (fun v _ => ?_)
  · (repeat first | refine gS ?_ | refine gA fun _ => ?_ | refine gX fun _ _ => ?_ | refine gT ?_ | refine gF ?_ | refine gI ?_)
    rw [decide_eq_true (by omega)]
    (repeat first | refine gS ?_ | refine gA fun _ => ?_ | refine gX fun _ _ => ?_ | refine gT ?_ | refine gF ?_ | refine gI ?_)
    refine sls_nil cB 1 (T := 5) ?_
    refine fd (a := sls cB 5 1 nil []) ?_
    refine E_stake (k := 0) (Nat.zero_le _) fun v0 _ => ?_
    have e : ((n : Int) - (((0 : Nat) : Int) - ((0 : Nat) : Int))) = (n : Int) := by omega
    rw [e]
    show E B (osl 5 1 v0 0 [] :: H) _
    refine E_appz (k := (n : Int)) Dig.u_bytesD Ext.u_int Dig.elt_byteD (by simp [isCell]) (by omega) (by rw [Int.toNat_natCast]; omega) (by rw [Int.toNat_natCast]; omega) (by omega) (by omega) fun v' _ => ?_
    rw [Int.toNat_natCast, rep_zero, List.nil_append]
    have hl : (0 + n) = (List.replicate n (0 : UInt8)).length := by simp
    rw [hl, ← bcs_enc]
    show E B (sls cB 5 1 v' (List.replicate n (0 : UInt8)) :: H) _
    (repeat first | refine gS ?_ | refine gA fun _ => ?_ | refine gX fun _ _ => ?_ | refine gT ?_ | refine gF ?_ | refine gI ?_)
    refine E_stake (k := 0) (Nat.zero_le _) fun v2 hv2 => ?_
    exact hq ⟨v2, hv2.pf⟩ trivial
  · refine E_fa fun _ => ?_
    have : CellI v.1 := ⟨v.2⟩
    exact h v.1
def catL (l : List Bv) : List UInt8 := l.flatMap (·.bs)
theorem catL_suc {l : List Bv} {i : Nat} {x : Bv} (h : l[i]? = some x) : catL (l.take (i + 1)) = catL (l.take i) ++ x.bs := by
  unfold catL
  rw [List.take_add_one, h, List.flatMap_append]; simp
theorem catL_le (l : List Bv) (i : Nat) : (catL (l.take i)).length ≤ (catL l).length := by
  conv => rhs; rw [← List.take_append_drop i l]
  unfold catL
  rw [List.flatMap_append, List.length_append]; omega
theorem concat {v : Value} {l : List Bv} [hv : ∀ Q, Rs B (Q ++ H) v cV l] (hx : ∀ p ∈ l, ∀ Q, Rs B (Q ++ H) p.v cB p.bs) (h1 : 1 ≤ (catL l).length) (h2 : (catL l).length ≤ 1000000) (h3 : l.length ≤ 1000000)
    (h : ∀ v' [CellI v'], E B (sls cB 5 1 v' (catL l) :: H) (K v')) : E B H (CF Tryz.prog 62 [v] K) := by
  have hv0 : Rs B H v cV l := hv []
  refine E_mono (W := s62 _ K) ?_ fun _ => c62
  unfold s62
  refine E_rslen (v := v) (l := l) ?_
  refine E_loop (n := 5) (σ := Nat) (fun i => i ≤ l.length) (fun i => [v, I (catL (l.take i)).length, v, I l.length, I i]) (fun _ => H) (fun i => l.length - i) 0 (fun _ => rfl) rfl (Nat.zero_le _) (fun W hW => hW) ?_
  intro i K0 hi hk
  refine E_fa fun _ => ?_
  refine E_lss ?_
  refine E_if (fun hc => ?_) (fun hc => ?_)
  · have hxi : l[i]? = some l[i] := List.getElem?_eq_getElem (by omega)
    have hxr := hx l[i] (List.getElem_mem (by omega)) []
    have hle := catL_le l (i + 1)
    have hk1 := hk (i + 1) (by omega) (by omega)
    generalize l[i] = x at hxi hxr
    rw [catL_suc hxi] at hle hk1
    rw [List.length_append] at hle hk1
    refine E_join1 [v, I ((catL (l.take i)).length + x.bs.length : Nat), v, I l.length, I i] H (fun q hq => ?_) ?_
    · refine E_rsix (v := v) (l := l) hxi fun _ _ => ?_
      refine E_ptld ?_
      have : Rs B H x.v cB x.bs := hxr
      refine E_rslen (v := x.v) (l := x.bs) ?_
      refine E_addI (by omega) (by omega) ?_
      refine E_lss ?_
      refine E_ifF (by omega) ?_
      exact hq
    refine E_fa fun _ => ?_
    refine E_addI (by omega) (by omega) ?_
    exact hk1
  have hie : i = l.length := by omega
  subst hie
  clear hk
  rw [List.take_length]
  refine grow (by omega) fun v0 iv0 => ?_
  have hv1 := hv [sls cB 5 1 v0 []]
  refine E_rslen (v := v) (l := l) ?_
  refine E_loop (n := 4) (σ := Nat × Cv) (fun s => s.1 ≤ l.length) (fun s => [s.2.1, v, I l.length, I s.1]) (fun s => sls cB 5 1 s.2.1 (catL (l.take s.1)) :: H) (fun s => l.length - s.1) (0, ⟨v0, iv0.pf⟩) (fun _ => rfl) rfl (Nat.zero_le _) (fun W hW => hW) ?_
  rintro ⟨j, nv⟩ K2 hj hk2
  simp only at hj hk2 ⊢
  have inv : CellI nv.1 := ⟨nv.2⟩
  refine E_fa fun _ => ?_
  refine E_lss ?_
  refine E_if (fun hc => ?_) (fun hc => ?_)
  · have hxi : l[j]? = some l[j] := List.getElem?_eq_getElem (by omega)
    have hxr := hx l[j] (List.getElem_mem (by omega)) []
    have hle := catL_le l (j + 1)
    have hk1 : ∀ s : Cv, _ := fun s => hk2 (j + 1, s) (by simp only; omega) (by simp only; omega)
    simp only at hk1
    generalize l[j] = x at hxi hxr
    rw [catL_suc hxi] at hle
    rw [List.length_append] at hle
    simp only [catL_suc hxi] at hk1
    have hv2 := hv [sls cB 5 1 nv.1 (catL (l.take j))]
    refine E_rsix (v := v) (l := l) hxi fun _ _ => ?_
    refine E_ptld ?_
    have : Rs B H x.v cB x.bs := hxr
    refine E_sapps (enc := cB) (u := x.v) (m := x.bs) Dig.u_bytesD Dig.elt_byteD (by omega) (by omega) fun v' hv' => ?_
    refine E_addI (by omega) (by omega) ?_
    exact hk1 ⟨v', hv'.pf⟩
  · have hje : j = l.length := by omega
    subst hje
    rw [List.take_length]
    exact h nv.1
end Go.Proofs.YtmbfmkiagdhcoaaGreat.Pk
end
section
namespace Go.Proofs.YtmbfmkiagdhcoaaGreat.Pk
open Go Go.SL Go.Proofs Go.Proofs.YtmbfmkiagdhcoaaGreat.Sh Go.Proofs.YtmbfmkiagdhcoaaGreat.Oct Go.Proofs.YtmbfmkiagdhcoaaGreat.Disk Go.Proofs.YtmbfmkiagdhcoaaGreat.Slot
variable {B : World} {H : List Asrt} {K : Value → WT} {W : WT}
structure Sl where
  sum : List UInt8
  pos : Nat
  len : Nat
  hs : sum.length = 32
theorem Sl.ext {a b : Sl} (h1 : a.sum = b.sum) (h2 : a.pos = b.pos) (h3 : a.len = b.len) : a = b := by
  obtain ⟨_, _, _, _⟩ := a
  obtain ⟨_, _, _, _⟩ := b
  simp only at h1 h2 h3
  subst h1 h2 h3
  rfl
abbrev cSl (s : Sl) : List Value := bcs s.sum ++ [I s.pos, I s.len]
instance encSl : Enc cSl 34 := ⟨fun s => by simp [bcs, s.hs], fun s y hy => by
  rcases List.mem_append.1 hy with h | h
  · exact Dig.bcs_cell _ y h
  · simp at h
    rcases h with rfl | rfl <;> rfl⟩
abbrev Ch := List (List UInt8)
def slotsL : Nat → Ch → List Sl
  | _, [] => []
  | p, b :: L => ⟨Dig.sum b, p, b.length, Dig.sum_len b⟩ :: slotsL (p + b.length) L
theorem slots_snoc (p : Nat) (L : Ch) (b : List UInt8) : slotsL p (L ++ [b]) = slotsL p L ++ [⟨Dig.sum b, p + L.flatten.length, b.length, Dig.sum_len b⟩] := by
  induction L generalizing p with
  | nil => simp [slotsL]
  | cons c L ih =>
    simp only [List.cons_append, slotsL, ih, List.flatten_cons, List.length_append]
    rw [Nat.add_assoc]
theorem slots_len (p : Nat) (L : Ch) : (slotsL p L).length = L.length := by
  induction L generalizing p with
  | nil => rfl
  | cons c L ih => simp only [slotsL, List.length_cons, ih]
def pck (a id wd : Nat) (L : Ch) : Asrt := ex fun x : Cv × Cv => all [cel true a 137 [I id, I wd, x.1.1, x.2.1], sls cSl 109 34 x.1.1 (slotsL 128 L), sls cB 5 1 x.2.1 L.flatten]
theorem E_pk {a id wd : Nat} {L : Ch} (h : ∀ v u [CellI v] [CellI u], E B (cel true a 137 [I id, I wd, v, u] :: sls cSl 109 34 v (slotsL 128 L) :: sls cB 5 1 u L.flatten :: H) W) : E B (pck a id wd L :: H) W := E_ex fun x => E_all (@h x.1.1 x.2.1 ⟨x.1.2⟩ ⟨x.2.2⟩)
theorem E_pkS {a id wd : Nat} {L : Ch} {v u : Value} [hv : CellI v] [hu : CellI u] (h : E B (pck a id wd L :: H) W) : E B (cel true a 137 [I id, I wd, v, u] :: sls cSl 109 34 v (slotsL 128 L) :: sls cB 5 1 u L.flatten :: H) W :=
  E_all' (G := [cel true a 137 [I id, I wd, v, u], sls cSl 109 34 v (slotsL 128 L), sls cB 5 1 u L.flatten]) (E_ex' (f := fun x : Cv × Cv => all [cel true a 137 [I id, I wd, x.1.1, x.2.1], sls cSl 109 34 x.1.1 (slotsL 128 L), sls cB 5 1 x.2.1 L.flatten]) (⟨v, hv.pf⟩, ⟨u, hu.pf⟩) h)
structure POk (id wd : Nat) (L : Ch) : Prop where
  idl : id < 4096
  lo : 4 ≤ wd
  hi : wd ≤ 64
  num : L.length ≤ 64
  fit : 128 + L.flatten.length + 34 * L.length ≤ 128 * wd
  ch : ∀ b ∈ L, 1 ≤ b.length ∧ b.length ≤ 512
def fitsB (wd : Nat) (L : Ch) (b : List UInt8) : Prop := 128 + L.flatten.length + b.length + 34 * (L.length + 1) ≤ 128 * wd
instance (wd : Nat) (L : Ch) (b : List UInt8) : Decidable (fitsB wd L b) := inferInstanceAs (Decidable (_ ≤ _))
def addL (wd : Nat) (L : Ch) (b : List UInt8) : Ch := if 1 ≤ b.length ∧ b.length ≤ 512 ∧ L.length < 64 ∧ fitsB wd L b then L ++ [b] else L
theorem addL_ok {id wd : Nat} {L : Ch} (h : POk id wd L) (b : List UInt8) : POk id wd (addL wd L b) := by
  unfold addL
  split
  · rename_i hc
    obtain ⟨h1, h2, h3, h4⟩ := hc
    unfold fitsB at h4
    refine ⟨h.idl, h.lo, h.hi, by simp; omega, ?_, fun c hc => ?_⟩
    · simp only [List.flatten_append, List.flatten_cons, List.flatten_nil, List.append_nil, List.length_append, List.length_cons, List.length_nil]; omega
    · rcases List.mem_append.1 hc with hc | hc
      · exact h.ch c hc
      · simp at hc; subst hc; exact ⟨h1, h2⟩
  · exact h
theorem u_pPk : Tryz.prog.underlying 27 = some (.pointer 137) := by kernel_rfl
theorem buildPk (i w : Int) (wo : World) : (Instr.build 137 #[(0, I i), (1, I w)]).run Tryz.prog wo = .ok (.agg #[I i, I w, nil, nil]) wo := by kernel_rfl
theorem u_slots : Tryz.prog.underlying 56 = some (.slice 109) := by kernel_rfl
theorem u_bytess : Tryz.prog.underlying 22 = some (.slice 48) := by kernel_rfl
abbrev zSl : List Value := Dig.zb ++ [I 0, I 0]
theorem elt_slot : Elt Tryz.prog 109 34 48 zSl := elt_of (zv := .agg zSl.toArray) (by kernel_rfl) rfl rfl
theorem str_slot : Str Tryz.prog 109 [(0, 32), (32, 1), (33, 1)] zSl := str_of (zv := .agg zSl.toArray) (by kernel_rfl) (by kernel_rfl) rfl
theorem slotFill {s : List UInt8} (h : s.length = 32) (p n : Int) : FillI [(0, 32), (32, 1), (33, 1)] zSl [(0, .agg (bcs s).toArray), (1, I p), (2, I n)] (bcs s ++ [I p, I n]) := by
  have hb : (bcs s).length = 32 := by rw [Dig.bcs_len, h]
  have s0 : SetsI zSl 0 (bcs s) (bcs s ++ [I 0, I 0]) := ⟨by rw [hb]; decide, by
    have := Ext.setMid (A := []) (X := Dig.zb) (R := [I 0, I 0]) (Y := bcs s) (a := 0) rfl (by rw [hb]; rfl)
    simpa using this⟩
  have s1 : SetsI (bcs s ++ [I 0, I 0]) 32 [I p] (bcs s ++ [I p, I 0]) := ⟨by simp [hb], Ext.setMid (X := [I 0]) (R := [I 0]) hb rfl⟩
  have s2 : SetsI (bcs s ++ [I p, I 0]) 33 [I n] (bcs s ++ [I p, I n]) := ⟨by simp [hb], by
    have := Ext.setMid (A := bcs s ++ [I p]) (X := [I 0]) (R := []) (Y := [I n]) (a := 33) (by simp [hb]) rfl
    simpa using this⟩
  have n0 : AtLen (bcs s) 32 := ⟨hb⟩
  exact fillI_cons (hs := s0) (hn := n0) (h := fillI_cons (hs := s1) (h := fillI_cons (hs := s2) (h := fillI_nil)))
attribute [local irreducible] S.pick S.ld S.ldN S.st S.box S.nc S.fad S.ixS S.ixA S.chr S.prt S.ext S.bin S.sh S.sbin S.beq S.neg1 S.com1 S.not1 S.cvt S.str1 S.lenS S.len S.cap S.lenM S.mx S.mn S.mkM S.cond S.gd S.fa S.dr S.rck S.join S.loop S.cvv S.eqv S.slc S.slcS S.b2s S.lk V U CF Gives E cel mpb osl ros dct dit itr lpo dfo
theorem pknew {i w : Int} (hx : i < 0 ∨ 4096 ≤ i ∨ w < 4 ∨ 64 < w → E B H (K (.tuple #[.pointer none, I 2])))
    (h : ∀ a id wd : Nat, i = (id : Int) → w = (wd : Int) → POk id wd [] → E B (pck a id wd [] :: H) (K (.tuple #[ptr a, I 0]))) : E B H (CF Tryz.prog 30 [I i, I w] K) := by
  refine E_mono (W := s30 _ _ K) ?_ fun _ => c30
  unfold s30
  refine E_join1 (n := 3) [I i, I w, .bool (decide (i < 0 ∨ 4096 ≤ i ∨ w < 4 ∨ 64 < w))] H (fun q hq => ?_) ?_
  · by_cases h1 : i < 0
    · rw [decide_eq_true (.inl h1)] at hq
      (repeat first | refine gS ?_ | refine gA fun _ => ?_ | refine gX fun _ _ => ?_ | refine gT ?_ | refine gF ?_ | refine gI ?_)
      exact hq
    · by_cases h2 : (4096 : Int) ≤ i
      · rw [decide_eq_true (.inr (.inl h2))] at hq
        (repeat first | refine gS ?_ | refine gA fun _ => ?_ | refine gX fun _ _ => ?_ | refine gT ?_ | refine gF ?_ | refine gI ?_)
        exact hq
      · by_cases h3 : w < 4
        · rw [decide_eq_true (.inr (.inr (.inl h3)))] at hq
          (repeat first | refine gS ?_ | refine gA fun _ => ?_ | refine gX fun _ _ => ?_ | refine gT ?_ | refine gF ?_ | refine gI ?_)
          exact hq
        · have e : decide (i < 0 ∨ 4096 ≤ i ∨ w < 4 ∨ 64 < w) = decide (64 < w) := by rw [decide_eq_decide]; omega
          rw [e] at hq
          (repeat first | refine gS ?_ | refine gA fun _ => ?_ | refine gX fun _ _ => ?_ | refine gT ?_ | refine gF ?_ | refine gI ?_)
          exact hq
  · refine E_fa fun _ => ?_
    refine E_if (fun hc => hx hc) (fun hc => ?_)
    refine Dig.E_Vr (buildPk _ _) ?_
    refine gA fun a => ?_
    obtain ⟨id, rfl⟩ : ∃ id : Nat, i = (id : Int) := ⟨i.toNat, by omega⟩
    obtain ⟨wd, rfl⟩ : ∃ wd : Nat, w = (wd : Int) := ⟨w.toNat, by omega⟩
    have h' := h a id wd rfl rfl ⟨by omega, by omega, by omega, by simp, by simp; omega, by simp⟩
    refine sls_nil cSl 34 (T := 109) ?_
    refine sls_nil cB 1 (T := 5) ?_
    refine sm (G := cel true a 137 [I id, I wd, nil, nil] :: sls cSl 109 34 nil [] :: sls cB 5 1 nil [] :: H) ?_
    exact E_pkS (v := nil) (u := nil) (L := []) h'
theorem pklen {a id wd : Nat} {L : Ch} (h : E B (pck a id wd L :: H) (K (I L.length))) : E B (pck a id wd L :: H) (CF Tryz.prog 34 [ptr a] K) := by
  refine E_mono (W := s34 _ K) ?_ fun _ => c34
  unfold s34
  refine E_peq u_pPk ?_
  refine E_ff ?_
  refine E_pk fun v u _ _ => ?_
  refine E_nc ?_
  refine E_fad0 ?_
  refine E_ld ?_
  refine E_rslen (v := v) (l := slotsL 128 L) ?_
  rw [slots_len]
  exact E_pkS h
end Go.Proofs.YtmbfmkiagdhcoaaGreat.Pk
end
section
namespace Go.Proofs.YtmbfmkiagdhcoaaGreat.Pk
open Go Go.SL Go.Proofs Go.Proofs.YtmbfmkiagdhcoaaGreat.Sh Go.Proofs.YtmbfmkiagdhcoaaGreat.Oct Go.Proofs.YtmbfmkiagdhcoaaGreat.Disk Go.Proofs.YtmbfmkiagdhcoaaGreat.Slot
variable {B : World} {H : List Asrt} {K : Value → WT} {W : WT}
def roomI (wd : Nat) (L : Ch) : Int := if L.length = 64 then 0 else min (max (((wd : Int) - 1) * 128 - (L.flatten.length : Int) - 34 * ((L.length : Int) + 1)) 0) 512
theorem fill1S {s : Sl} : Instr.fill (fun i => some (i * 34, 34)) (rep 1 zSl).toArray [(0, .agg (cSl s).toArray)] = some (cSl s).toArray := by
  have hl : (cSl s).length = 34 := by simp [bcs, s.hs]
  have e : rep 1 zSl = zSl := by simp [rep]
  have hs : SetsI zSl 0 (cSl s) (cSl s) := ⟨by rw [hl]; decide, by
    have := Ext.setMid (A := []) (X := zSl) (R := []) (Y := cSl s) (a := 0) rfl (by rw [hl]; rfl)
    simpa using this⟩
  have hn : AtLen (cSl s) 34 := ⟨hl⟩
  have hf : FillI [(0, 34)] zSl [(0, .agg (cSl s).toArray)] (cSl s) := fillI_cons (hs := hs) (hn := hn) (h := fillI_nil)
  rw [e, ← hf.pf]
  exact fill_congr _ _ fun p hp => by simp at hp; subst hp; rfl
theorem fill2V {a b : Value} (ha : isCell a = true) (hb : isCell b = true) : Instr.fill (fun i => some (i * 1, 1)) (rep 2 [nil]).toArray [(0, a), (1, b)] = some #[a, b] := by
  have e : (rep 2 [nil]).toArray = #[nil, nil] := rfl
  rw [e]
  simp [Instr.fill, Ext.cells_one ha, Ext.cells_one hb]
theorem elt_bytesP : Elt Tryz.prog 48 1 24 [nil] := elt_of (zv := nil) (by kernel_rfl) rfl rfl
attribute [local irreducible] S.pick S.ld S.ldN S.st S.box S.nc S.fad S.ixS S.ixA S.chr S.prt S.ext S.bin S.sh S.sbin S.beq S.neg1 S.com1 S.not1 S.cvt S.str1 S.lenS S.len S.cap S.lenM S.mx S.mn S.mkM S.cond S.gd S.fa S.dr S.rck S.join S.loop S.cvv S.eqv S.slc S.slcS S.b2s S.lk V U CF Gives E cel mpb osl ros dct dit itr lpo dfo
theorem pkroom {a id wd : Nat} {L : Ch} (hp : POk id wd L) (h : E B (pck a id wd L :: H) (K (I (roomI wd L)))) : E B (pck a id wd L :: H) (CF Tryz.prog 59 [ptr a] K) := by
  obtain ⟨p1, p2, p3, p4, p5, p6⟩ := hp
  refine E_mono (W := s59 _ K) ?_ fun _ => c59
  unfold s59
  unfold roomI at h
  refine E_pk fun v u _ _ => ?_
  refine E_join1 (n := 2) [ptr a, .bool (decide (L.length = 64))] (cel true a 137 [I id, I wd, v, u] :: sls cSl 109 34 v (slotsL 128 L) :: sls cB 5 1 u L.flatten :: H) (fun q hq => ?_) ?_
  · refine E_peq u_pPk ?_
    refine E_gft ?_
    refine E_gft ?_
    refine E_nc ?_
    refine E_gft ?_
    refine E_fad0 ?_
    refine E_gft ?_
    refine E_ld ?_
    refine E_gft ?_
    refine E_rslen (v := v) (l := slotsL 128 L) ?_
    rw [slots_len]
    refine E_gft ?_
    refine E_eql ?_
    refine E_pff ?_
    have e : decide ((L.length : Int) = 64) = decide (L.length = 64) := by rw [decide_eq_decide]; omega
    rw [e]
    exact hq
  · refine E_fa fun _ => ?_
    refine E_if (fun hc => ?_) (fun hc => ?_)
    · rw [if_pos hc] at h
      exact E_pkS h
    · rw [if_neg hc] at h
      refine E_dr ?_
      refine E_nc ?_
      refine E_fad0 ?_
      refine E_ld ?_
      refine E_subI (by omega) (by omega) ?_
      refine E_mulI (by omega) (by omega) ?_
      refine E_nc ?_
      refine E_fad0 ?_
      refine E_ld ?_
      refine E_rslen (v := u) (l := L.flatten) ?_
      refine E_subI (by omega) (by omega) ?_
      refine E_nc ?_
      refine E_fad0 ?_
      refine E_ld ?_
      refine E_rslen (v := v) (l := slotsL 128 L) ?_
      rw [slots_len]
      refine E_addI (by omega) (by omega) ?_
      refine E_mulI (by omega) (by omega) ?_
      refine E_subI (by omega) (by omega) ?_
      refine E_mx ?_
      refine E_mn ?_
      exact E_pkS h
theorem cloneS {v : Value} {l : List Sl} [hv : Rs B H v cSl l] (hl : l.length ≤ 1000000) (h : ∀ v' [CellI v'], E B (sls cSl 109 34 v' l :: H) (K v')) : E B H (CF Tryz.prog 61 [v] K) := by
  refine E_mono (W := s61 _ K) ?_ fun _ => c61
  unfold s61
  refine Ext.E_rsC (hf := hv) (fun hv0 hl0 => ?_) (fun a cap hv0 hle => ?_)
  · subst hv0 hl0
    refine E_sleq u_slots ?_
    refine E_tt ?_
    exact sls_nil cSl 34 (T := 109) (h nil)
  · subst hv0
    refine E_sleq u_slots ?_
    refine E_ff ?_
    refine E_sbsl0 cSl u_slots elt_slot fun v5 _ => ?_
    refine E_sapps (enc := cSl) (u := .slice (some a) l.length cap) (m := l) u_slots elt_slot (by simp; omega) (by simp; omega) fun v7 _ => ?_
    rw [List.nil_append]
    exact h v7
theorem addTail {a id wd : Nat} {L : Ch} {v u w bv : Value} {b : List UInt8} [CellI v] [CellI u] [CellI w] [CellI bv] [hb : Rb B H bv b] (hp : POk id wd L) (h1 : 1 ≤ b.length) (h2 : b.length ≤ 512)
    (h : E B (pck a id wd (L ++ [b]) :: H) (K (.tuple #[I L.length, I 0]))) :
    E B (cel true a 137 [I id, I wd, v, u] :: sls cSl 109 34 w (slotsL 128 (L ++ [b])) :: sls cB 5 1 u L.flatten :: H)
      (S.nc (ptr a) fun v52 => S.fad v52 2 fun v53 => S.st 1 v53 w fun _ => S.nc (ptr a) fun v56 => S.fad v56 3 fun v57 => S.ld v57 fun v58 =>
       V Tryz.prog (Instr.buildSlice 22 2 #[(0, v58), (1, bv)]) fun v60 => CF Tryz.prog 62 [v60] fun v61 => S.nc (ptr a) fun v62 => S.fad v62 3 fun v63 => S.st 1 v63 v61 fun _ =>
       S.nc (ptr a) fun v65 => S.fad v65 2 fun v66 => S.ld v66 fun v67 => S.len v67 fun v68 => S.bin .sub v68 (I 1) fun v69 => K (.tuple #[v69, I 0])) := by
  obtain ⟨p1, p2, p3, p4, p5, p6⟩ := hp
  refine E_nc ?_
  refine E_fad0 ?_
  refine E_st ?_
  refine E_nc ?_
  refine E_fad0 ?_
  refine E_ld ?_
  refine Dig.E_bslK u_bytess elt_bytesP (by omega) (fill2V CellI.pf CellI.pf) fun bb => ?_
  refine E_slsC (enc := cV) (sz := 1) [⟨u, L.flatten, CellI.pf⟩, ⟨bv, b, CellI.pf⟩] 2 rfl rfl ?_
  have hcat : catL [⟨u, L.flatten, CellI.pf⟩, ⟨bv, b, CellI.pf⟩] = (L ++ [b]).flatten := by simp [catL]
  have hfl : ((L ++ [b]).flatten).length = L.flatten.length + b.length := by simp
  refine concat (l := [⟨u, L.flatten, CellI.pf⟩, ⟨bv, b, CellI.pf⟩]) (hv := fun Q => Ext.rs_app Q inferInstance) (fun y hy Q => ?_) (by rw [hcat, hfl]; omega) (by rw [hcat, hfl]; omega) (by simp) fun v61 i61 => ?_
  · refine Ext.rs_app Q ?_
    simp only [List.mem_cons, List.not_mem_nil, or_false] at hy
    rcases hy with rfl | rfl
    · exact inferInstance
    · exact inferInstance
  · rw [hcat]
    refine E_nc ?_
    refine E_fad0 ?_
    refine E_st ?_
    refine E_nc ?_
    refine E_fad0 ?_
    refine E_ld ?_
    refine E_rslen (v := w) (l := slotsL 128 (L ++ [b])) ?_
    rw [slots_len, List.length_append, List.length_singleton]
    refine E_subI (by omega) (by omega) ?_
    rw [show ((L.length + 1 : Nat) : Int) - 1 = (L.length : Int) by omega]
    refine sm (G := cel true a 137 [I id, I wd, w, v61] :: sls cSl 109 34 w (slotsL 128 (L ++ [b])) :: sls cB 5 1 v61 ((L ++ [b]).flatten) :: H) ?_
    exact E_pkS h
end Go.Proofs.YtmbfmkiagdhcoaaGreat.Pk
end
section
namespace Go.Proofs.YtmbfmkiagdhcoaaGreat.Pk
open Go Go.SL Go.Proofs Go.Proofs.YtmbfmkiagdhcoaaGreat.Sh Go.Proofs.YtmbfmkiagdhcoaaGreat.Oct Go.Proofs.YtmbfmkiagdhcoaaGreat.Disk Go.Proofs.YtmbfmkiagdhcoaaGreat.Slot
variable {B : World} {H : List Asrt} {K : Value → WT} {W : WT}
theorem cSl_len (s : Sl) : (cSl s).length = 34 := by simp [bcs, s.hs]
instance (l : List UInt8) (x y : Int) : AllC (bcs l ++ [I x, I y]) := ⟨fun v hv => by
  rcases List.mem_append.1 hv with h | h
  · exact Dig.bcs_cell _ v h
  · simp at h
    rcases h with rfl | rfl <;> rfl⟩
theorem cSl_ld {b : Nat} {κ : Bool} {T : TypeId} {s : Sl} [hf : HasC H b κ T (cSl s)] (h : E B H (K (.agg (cSl s).toArray))) : E B H (S.ldN 34 (.pointer (some ⟨b, 0, none⟩)) K) :=
  E_ldN (hf := hf) (cs := cSl s) (by rw [List.drop_zero, List.take_of_length_le (by rw [cSl_len]; omega)]) (cSl_len s) h
attribute [local irreducible] S.pick S.ld S.ldN S.st S.box S.nc S.fad S.ixS S.ixA S.chr S.prt S.ext S.bin S.sh S.sbin S.beq S.neg1 S.com1 S.not1 S.cvt S.str1 S.lenS S.len S.cap S.lenM S.mx S.mn S.mkM S.cond S.gd S.fa S.dr S.rck S.join S.loop S.cvv S.eqv S.slc S.slcS S.b2s S.lk V U CF Gives E cel mpb osl ros dct dit itr lpo dfo
theorem addMid {a v6 id wd : Nat} {l : List Sl} {s : Sl} {d : List UInt8} {v u : Value} {T : Value → WT} [CellI v] [CellI u] (hl : l.length ≤ 1000)
    (hT : ∀ w [CellI w], E B (cel true a 137 [I id, I wd, v, u] :: sls cSl 109 34 w (l ++ [s]) :: sls cB 5 1 u d :: H) (T w)) :
    E B (cel true v6 109 (cSl s) :: cel true a 137 [I id, I wd, v, u] :: sls cSl 109 34 v l :: sls cB 5 1 u d :: H)
      (S.dr <| S.nc (ptr a) fun v45 => S.fad v45 2 fun v46 => S.ld v46 fun v47 => S.ldN 34 (ptr v6) fun v49 => S.both
        (CF Tryz.prog 61 [v47] fun v48 => S.rck [S.ldN 34 (ptr v6) (fun v' _ => v' = v49)] <| V Tryz.prog (Instr.buildSlice 56 1 #[(0, v49)]) fun v50 => V Tryz.prog (Builtin.append_ #[56, 56] 56 #[v48, v50]) fun v51 => T v51)
        (V Tryz.prog (Instr.buildSlice 56 1 #[(0, v49)]) fun v50 => S.rck [S.ld v46 (fun v' _ => v' = v47)] <| CF Tryz.prog 61 [v47] fun v48 => V Tryz.prog (Builtin.append_ #[56, 56] 56 #[v48, v50]) fun v51 => T v51)) := by
  refine E_dr ?_
  refine E_nc ?_
  refine E_fad0 ?_
  refine E_ld ?_
  refine cSl_ld ?_
  refine E_both ?_ ?_
  · refine cloneS (v := v) (l := l) (by omega) fun v48 _ => ?_
    refine E_rck1 (cSl_ld (E_fact rfl)) (E_rck0 ?_)
    refine E_sapp1 (enc := cSl) (xv := .agg (cSl s).toArray) s u_slots elt_slot rfl (by omega) (by omega) (by omega) fun w _ => ?_
    exact sm (hT w)
  · refine Dig.E_bslK u_slots elt_slot (by omega) fill1S fun bb => ?_
    refine E_slsC (enc := cSl) (sz := 34) [s] 1 (by simp) rfl ?_
    refine E_rck1 (E_ld (E_fact rfl)) (E_rck0 ?_)
    refine cloneS (v := v) (l := l) (by omega) fun v48 _ => ?_
    refine E_sapps (enc := cSl) (u := .slice (some ⟨bb, 0, none⟩) 1 1) (m := [s]) u_slots elt_slot (by simp; omega) (by simp; omega) fun w _ => ?_
    exact sm (hT w)
theorem pkadd {a id wd : Nat} {L : Ch} {bv : Value} {b : List UInt8} [CellI bv] [hb : Rb B H bv b] (hp : POk id wd L) (hbl : b.length ≤ 140737488351232)
    (h : ∀ x y : Int, E B (pck a id wd (addL wd L b) :: H) (K (.tuple #[I x, I y]))) : E B (pck a id wd L :: H) (CF Tryz.prog 32 [ptr a, bv] K) := by
  have hp' := hp
  obtain ⟨p1, p2, p3, p4, p5, p6⟩ := hp'
  refine E_mono (W := s32 _ _ K) ?_ fun _ => c32
  unfold s32
  unfold addL fitsB at h
  refine E_peq u_pPk ?_
  refine E_ff ?_
  refine E_join1 (n := 3) [ptr a, bv, .bool (decide (b.length < 1 ∨ 512 < b.length))] (pck a id wd L :: H) (fun q hq => ?_) ?_
  · refine E_rslen (v := bv) (l := b) ?_
    refine E_lss ?_
    by_cases h1 : b.length < 1
    · rw [decide_eq_true (.inl h1)] at hq
      rw [decide_eq_true (show (b.length : Int) < 1 by omega)]
      (repeat first | refine gS ?_ | refine gA fun _ => ?_ | refine gX fun _ _ => ?_ | refine gT ?_ | refine gF ?_ | refine gI ?_)
      exact hq
    · have e : decide (b.length < 1 ∨ 512 < b.length) = decide ((512 : Int) < (b.length : Int)) := by rw [decide_eq_decide]; omega
      rw [e] at hq
      rw [decide_eq_false (show ¬ (b.length : Int) < 1 by omega)]
      refine E_gft ?_
      refine E_gft ?_
      refine E_rslen (v := bv) (l := b) ?_
      refine E_gft ?_
      refine E_gtr ?_
      refine E_pff ?_
      exact hq
  refine E_fa fun _ => ?_
  refine E_if (fun hc => ?_) (fun hc => ?_)
  · rw [if_neg (by omega)] at h
    exact h 0 2
  refine E_pk fun v u _ _ => ?_
  refine E_nc ?_
  refine E_fad0 ?_
  refine E_ld ?_
  refine E_rslen (v := v) (l := slotsL 128 L) ?_
  rw [slots_len]
  refine E_eql ?_
  refine E_if (fun hc2 => ?_) (fun hc2 => ?_)
  · rw [if_neg (by omega)] at h
    exact E_pkS (h 0 6)
  refine E_rslen (v := bv) (l := b) ?_
  refine E_pkS ?_
  refine pkroom hp ?_
  refine E_gtr ?_
  have hL : ¬ L.length = 64 := by omega
  unfold roomI
  rw [if_neg hL]
  refine E_if (fun hc3 => ?_) (fun hc3 => ?_)
  · rw [if_neg (by omega)] at h
    exact h 0 8
  rw [if_pos (by omega)] at h
  refine E_pk fun v u _ _ => ?_
  have hs := slots_len 128 L
  have hsn := slots_snoc 128 L b
  have tail : ∀ (w : Value) [CellI w], E B (cel true a 137 [I id, I wd, v, u] :: sls cSl 109 34 w (slotsL 128 L ++ [⟨Dig.sum b, 128 + L.flatten.length, b.length, Dig.sum_len b⟩]) :: sls cB 5 1 u L.flatten :: H) _ := fun w _ => by
    rw [← hsn]
    exact addTail (v := v) (u := u) (w := w) (bv := bv) (b := b) hp (by omega) (by omega) (h L.length 0)
  have mid := fun v6 => addMid (v6 := v6) (id := id) (wd := wd) (v := v) (u := u) (a := a) (d := L.flatten) (H := H) (by rw [hs]; omega) tail
  refine E_dr ?_
  refine E_nc ?_
  refine E_fad0 ?_
  refine E_ld ?_
  refine E_rslen (v := u) (l := L.flatten) ?_
  refine E_addI (by omega) (by omega) ?_
  rw [show (128 : Int) + (L.flatten.length : Int) = ((128 + L.flatten.length : Nat) : Int) by omega]
  refine E_rslen (v := bv) (l := b) ?_
  refine E_both ?_ ?_
  · refine Dig.dsum (v := bv) (p := b) (by omega) ?_
    refine E_rck1 (E_ld (E_fact rfl)) (E_rck0 ?_)
    refine E_both ?_ ?_
    · refine E_build (hf := slotFill (Dig.sum_len b) _ _) str_slot ?_
      refine E_box (v := .agg zSl.toArray) (vs := zSl) fun v6 => ?_
      refine E_stW (vs := bcs (Dig.sum b) ++ [I ((128 + L.flatten.length : Nat) : Int), I b.length]) (cSl_len ⟨Dig.sum b, 128 + L.flatten.length, b.length, Dig.sum_len b⟩) rfl ?_
      exact mid v6
    · refine E_box (v := .agg zSl.toArray) (vs := zSl) fun v6 => ?_
      refine E_rck1 (E_ld (E_fact rfl)) (E_rck0 ?_)
      refine E_build (hf := slotFill (Dig.sum_len b) _ _) str_slot ?_
      refine E_stW (vs := bcs (Dig.sum b) ++ [I ((128 + L.flatten.length : Nat) : Int), I b.length]) (cSl_len ⟨Dig.sum b, 128 + L.flatten.length, b.length, Dig.sum_len b⟩) rfl ?_
      exact mid v6
  · refine E_box (v := .agg zSl.toArray) (vs := zSl) fun v6 => ?_
    refine E_rck1 (E_ld (E_fact rfl)) (E_rck0 ?_)
    refine Dig.dsum (v := bv) (p := b) (by omega) ?_
    refine E_rck1 (E_ld (E_fact rfl)) (E_rck0 ?_)
    refine E_build (hf := slotFill (Dig.sum_len b) _ _) str_slot ?_
    refine E_stW (vs := bcs (Dig.sum b) ++ [I ((128 + L.flatten.length : Nat) : Int), I b.length]) (cSl_len ⟨Dig.sum b, 128 + L.flatten.length, b.length, Dig.sum_len b⟩) rfl ?_
    exact mid v6
end Go.Proofs.YtmbfmkiagdhcoaaGreat.Pk
end
section
namespace Go.Proofs.YtmbfmkiagdhcoaaGreat.Pk
open Go Go.SL Go.Proofs Go.Proofs.YtmbfmkiagdhcoaaGreat.Sh Go.Proofs.YtmbfmkiagdhcoaaGreat.Oct Go.Proofs.YtmbfmkiagdhcoaaGreat.Disk Go.Proofs.YtmbfmkiagdhcoaaGreat.Slot
variable {B : World} {H : List Asrt} {K : Value → WT} {W : WT}
theorem u_strsP : Tryz.prog.underlying 45 = some (.slice 9) := by kernel_rfl
theorem elt_strP : Elt Tryz.prog 9 1 16 [str []] := elt_of (zv := str []) (by kernel_rfl) rfl rfl
theorem buildR11 (i w : Int) (wo : World) : (Instr.build 47 #[(0, I i), (1, I w)]).run Tryz.prog wo = .ok (.agg #[I i, I w, nil]) wo := by kernel_rfl
theorem fillS1 (s : List UInt8) : Instr.fill (fun i => some (i * 1, 1)) (rep 1 [str []]).toArray [(0, str s)] = some #[str s] := by
  have e : (rep 1 [str []]).toArray = #[str []] := rfl
  rw [e]
  simp [Instr.fill, Value.cells]
def rpk (a id wd : Nat) (L : Ch) : Asrt := ex fun v : Cv => all [cel true a 47 [I id, I wd, v.1], sls cS 9 1 v.1 L]
theorem E_rpk {a id wd : Nat} {L : Ch} (h : ∀ v [CellI v], E B (cel true a 47 [I id, I wd, v] :: sls cS 9 1 v L :: H) W) : E B (rpk a id wd L :: H) W := E_ex fun x => E_all (@h x.1 ⟨x.2⟩)
theorem E_rpkS {a id wd : Nat} {L : Ch} {v : Value} [hc : CellI v] (h : E B (rpk a id wd L :: H) W) : E B (cel true a 47 [I id, I wd, v] :: sls cS 9 1 v L :: H) W :=
  E_all' (G := [cel true a 47 [I id, I wd, v], sls cS 9 1 v L]) (E_ex' (f := fun v : Cv => all [cel true a 47 [I id, I wd, v.1], sls cS 9 1 v.1 L]) ⟨v, hc.pf⟩ h)
def sizeL (L : Ch) : Nat := 128 + L.flatten.length + 34 * L.length
theorem size_suc {L : Ch} {i : Nat} {b : List UInt8} (h : L[i]? = some b) : sizeL (L.take (i + 1)) = sizeL (L.take i) + b.length + 34 := by
  have hl := (List.getElem?_eq_some_iff.1 h).1
  unfold sizeL
  rw [List.take_add_one, h]
  simp only [Option.toList_some, List.flatten_append, List.flatten_cons, List.flatten_nil, List.append_nil, List.length_append, List.length_cons, List.length_nil]
  omega
theorem size_le (L : Ch) (i : Nat) : sizeL (L.take i) ≤ sizeL L := by
  unfold sizeL
  conv => rhs; rw [← List.take_append_drop i L]
  simp only [List.flatten_append, List.length_append]
  omega
attribute [local irreducible] S.pick S.ld S.ldN S.st S.box S.nc S.fad S.ixS S.ixA S.chr S.prt S.ext S.bin S.sh S.sbin S.beq S.neg1 S.com1 S.not1 S.cvt S.str1 S.lenS S.len S.cap S.lenM S.mx S.mn S.mkM S.cond S.gd S.fa S.dr S.rck S.join S.loop S.cvv S.eqv S.slc S.slcS S.b2s S.lk V U CF Gives E cel mpb osl ros dct dit itr lpo dfo
theorem rpnew {i w : Int} (hx : i < 0 ∨ 4096 ≤ i ∨ w < 4 ∨ 64 < w → E B H (K (.tuple #[.pointer none, I 2])))
    (h : ∀ a id wd : Nat, i = (id : Int) → w = (wd : Int) → POk id wd [] → E B (rpk a id wd [] :: H) (K (.tuple #[ptr a, I 0]))) : E B H (CF Tryz.prog 31 [I i, I w] K) := by
  refine E_mono (W := s31 _ _ K) ?_ fun _ => c31
  unfold s31
  refine E_join1 (n := 3) [I i, I w, .bool (decide (i < 0 ∨ 4096 ≤ i ∨ w < 4 ∨ 64 < w))] H (fun q hq => ?_) ?_
  · by_cases h1 : i < 0
    · rw [decide_eq_true (.inl h1)] at hq
      (repeat first | refine gS ?_ | refine gA fun _ => ?_ | refine gX fun _ _ => ?_ | refine gT ?_ | refine gF ?_ | refine gI ?_)
      exact hq
    · by_cases h2 : (4095 : Int) < i
      · rw [decide_eq_true (.inr (.inl (by omega)))] at hq
        (repeat first | refine gS ?_ | refine gA fun _ => ?_ | refine gX fun _ _ => ?_ | refine gT ?_ | refine gF ?_ | refine gI ?_)
        exact hq
      · by_cases h3 : w < 4
        · rw [decide_eq_true (.inr (.inr (.inl h3)))] at hq
          (repeat first | refine gS ?_ | refine gA fun _ => ?_ | refine gX fun _ _ => ?_ | refine gT ?_ | refine gF ?_ | refine gI ?_)
          exact hq
        · have e : decide (i < 0 ∨ 4096 ≤ i ∨ w < 4 ∨ 64 < w) = decide (64 < w) := by rw [decide_eq_decide]; omega
          rw [e] at hq
          (repeat first | refine gS ?_ | refine gA fun _ => ?_ | refine gX fun _ _ => ?_ | refine gT ?_ | refine gF ?_ | refine gI ?_)
          exact hq
  · refine E_fa fun _ => ?_
    refine E_if (fun hc => hx hc) (fun hc => ?_)
    refine Dig.E_Vr (buildR11 _ _) ?_
    refine gA fun a => ?_
    obtain ⟨id, rfl⟩ : ∃ id : Nat, i = (id : Int) := ⟨i.toNat, by omega⟩
    obtain ⟨wd, rfl⟩ : ∃ wd : Nat, w = (wd : Int) := ⟨w.toNat, by omega⟩
    have h' := h a id wd rfl rfl ⟨by omega, by omega, by omega, by simp, by simp; omega, by simp⟩
    refine sls_nil cS 1 (T := 9) ?_
    refine sm (G := cel true a 47 [I id, I wd, nil] :: sls cS 9 1 nil [] :: H) ?_
    exact E_rpkS (v := nil) (L := []) h'
theorem rfits {v : Value} {L : Ch} {wd : Nat} [hv : Rs B H v cS L] (hl : sizeL L ≤ 1000000) (hw : wd ≤ 64) (h : E B H (K (.bool (decide (sizeL L ≤ 128 * wd))))) : E B H (CF Tryz.prog 63 [v, I wd] K) := by
  refine E_mono (W := s63 _ _ K) ?_ fun _ => c63
  unfold s63
  have hn : L.length ≤ 1000000 := by unfold sizeL at hl; omega
  refine E_loop (n := 4) (σ := Nat) (fun i => i ≤ L.length) (fun i => [v, I wd, I (sizeL (L.take i)), I i]) (fun _ => H) (fun i => L.length - i) 0 (fun _ => rfl) rfl (Nat.zero_le _) (fun W hW => hW) ?_
  rintro i K0 hi hk
  refine E_fa fun _ => ?_
  refine E_rslen (v := v) (l := L) ?_
  refine E_lss ?_
  refine E_if (fun hc => ?_) (fun hc => ?_)
  · have hx : L[i]? = some (L[i]'(by omega)) := List.getElem?_eq_getElem (by omega)
    generalize (L[i]'(by omega)) = b at hx
    have hle := size_le L (i + 1)
    have hk1 := hk (i + 1) (by omega) (by omega)
    rw [size_suc hx] at hle hk1
    refine E_rsix (v := v) (l := L) hx fun _ _ => ?_
    refine E_ptld ?_
    refine E_lenstr ?_
    refine E_addI (by omega) (by omega) ?_
    refine E_addI (by omega) (by omega) ?_
    refine E_addI (by omega) (by omega) ?_
    exact hk1
  · have hie : i = L.length := by omega
    subst hie
    rw [List.take_length]
    refine E_mulI (by omega) (by omega) ?_
    refine E_leq ?_
    have e : decide ((sizeL L : Int) ≤ 128 * (wd : Int)) = decide (sizeL L ≤ 128 * wd) := by rw [decide_eq_decide]; omega
    rw [e]
    exact h
end Go.Proofs.YtmbfmkiagdhcoaaGreat.Pk
end
section
namespace Go.Proofs.YtmbfmkiagdhcoaaGreat.Pk
open Go Go.SL Go.Proofs Go.Proofs.YtmbfmkiagdhcoaaGreat.Sh Go.Proofs.YtmbfmkiagdhcoaaGreat.Oct Go.Proofs.YtmbfmkiagdhcoaaGreat.Disk Go.Proofs.YtmbfmkiagdhcoaaGreat.Slot
variable {B : World} {H : List Asrt} {K : Value → WT} {W : WT}
attribute [local irreducible] S.pick S.ld S.ldN S.st S.box S.nc S.fad S.ixS S.ixA S.chr S.prt S.ext S.bin S.sh S.sbin S.beq S.neg1 S.com1 S.not1 S.cvt S.str1 S.lenS S.len S.cap S.lenM S.mx S.mn S.mkM S.cond S.gd S.fa S.dr S.rck S.join S.loop S.cvv S.eqv S.slc S.slcS S.b2s S.lk V U CF Gives E cel mpb osl ros dct dit itr lpo dfo
theorem raddTail {a id wd : Nat} {L : Ch} {v w : Value} {b : List UInt8} [CellI v] [CellI w] (hp : POk id wd L) (h1 : 1 ≤ b.length) (h2 : b.length ≤ 512) (h3 : L.length < 64)
    (h : ∀ x y : Int, E B (rpk a id wd (addL wd L b) :: H) (K (.tuple #[I x, I y]))) :
    E B (cel true a 47 [I id, I wd, v] :: sls cS 9 1 w (L ++ [b]) :: sls cS 9 1 v L :: H)
      (S.nc (ptr a) fun v33 => S.fad v33 1 fun v34 => S.ld v34 fun v35 => CF Tryz.prog 63 [w, v35] fun v36 => S.not1 v36 fun v37 => S.cond v37 (K (.tuple #[I 0, I 8]))
        (S.nc (ptr a) fun v40 => S.fad v40 2 fun v41 => S.st 1 v41 w fun _ => S.len w fun v43 => S.bin .sub v43 (I 1) fun v44 => K (.tuple #[v44, I 0]))) := by
  obtain ⟨p1, p2, p3, p4, p5, p6⟩ := hp
  have hsz : sizeL (L ++ [b]) = 128 + L.flatten.length + b.length + 34 * (L.length + 1) := by
    unfold sizeL
    simp only [List.flatten_append, List.flatten_cons, List.flatten_nil, List.append_nil, List.length_append, List.length_cons, List.length_nil]
    omega
  unfold addL fitsB at h
  refine E_nc ?_
  refine E_fad0 ?_
  refine E_ld ?_
  refine rfits (v := w) (L := L ++ [b]) (by rw [hsz]; omega) (by omega) ?_
  rw [hsz]
  refine E_not ?_
  refine E_if (fun hc => ?_) (fun hc => ?_)
  · rw [if_neg (by omega)] at h
    refine fd (a := sls cS 9 1 v L) ?_
    refine fd (a := cel true a 47 [I id, I wd, v]) ?_
    refine E_rpkS ?_
    exact sm (h 0 8)
  · rw [if_pos (by omega)] at h
    refine E_nc ?_
    refine E_fad0 ?_
    refine E_st ?_
    refine E_rslen (v := w) (l := L ++ [b]) ?_
    have hl : (L ++ [b]).length = L.length + 1 := by simp
    refine E_subI (by omega) (by omega) ?_
    refine E_rpkS ?_
    exact sm (h _ 0)
theorem rpadd {a id wd : Nat} {L : Ch} {bv : Value} {b : List UInt8} [CellI bv] [hb : Rb B H bv b] (hp : POk id wd L) (hbl : b.length ≤ 140737488351232)
    (h : ∀ x y : Int, E B (rpk a id wd (addL wd L b) :: H) (K (.tuple #[I x, I y]))) : E B (rpk a id wd L :: H) (CF Tryz.prog 33 [ptr a, bv] K) := by
  have hp' := hp
  obtain ⟨p1, p2, p3, p4, p5, p6⟩ := hp'
  refine E_mono (W := s33 _ _ K) ?_ fun _ => c33
  unfold s33
  have hh := h
  unfold addL at h
  refine E_join1 (n := 3) [ptr a, bv, .bool (decide (b.length < 1 ∨ 512 < b.length))] (rpk a id wd L :: H) (fun q hq => ?_) ?_
  · refine E_rslen (v := bv) (l := b) ?_
    refine E_lss ?_
    by_cases h1 : b.length < 1
    · rw [decide_eq_true (.inl h1)] at hq
      rw [decide_eq_true (show (b.length : Int) < 1 by omega)]
      (repeat first | refine gS ?_ | refine gA fun _ => ?_ | refine gX fun _ _ => ?_ | refine gT ?_ | refine gF ?_ | refine gI ?_)
      exact hq
    · have e : decide (b.length < 1 ∨ 512 < b.length) = decide ((512 : Int) < (b.length : Int)) := by rw [decide_eq_decide]; omega
      rw [e] at hq
      rw [decide_eq_false (show ¬ (b.length : Int) < 1 by omega)]
      refine E_gft ?_
      refine E_gft ?_
      refine E_rslen (v := bv) (l := b) ?_
      refine E_gft ?_
      refine E_gtr ?_
      refine E_pff ?_
      exact hq
  refine E_fa fun _ => ?_
  refine E_if (fun hc => ?_) (fun hc => ?_)
  · rw [if_neg (by omega)] at h
    exact h 0 2
  refine E_rpk fun v _ => ?_
  refine E_nc ?_
  refine E_fad0 ?_
  refine E_ld ?_
  refine E_rslen (v := v) (l := L) ?_
  refine E_geq ?_
  refine E_if (fun hc2 => ?_) (fun hc2 => ?_)
  · rw [if_neg (by omega)] at h
    exact E_rpkS (h 0 6)
  clear h
  have tl := fun (w : Value) (_ : CellI w) => raddTail (a := a) (v := v) (w := w) (b := b) (H := H) (K := K) hp (by omega) (by omega) (by omega) hh
  refine E_dr ?_
  refine E_nc ?_
  refine E_fad0 ?_
  refine E_ld ?_
  refine E_b2sR (v := bv) (bs := b) ?_
  have hbt : ∀ (w : Value) (l : Ch) [CellI w], l = L → E B (sls cS 9 1 w (l ++ [b]) :: cel true a 47 [I id, I wd, v] :: sls cS 9 1 v L :: H) (S.nc (ptr a) fun v33 => S.fad v33 1 fun v34 => S.ld v34 fun v35 => CF Tryz.prog 63 [w, v35] fun v36 => S.not1 v36 fun v37 => S.cond v37 (K (.tuple #[I 0, I 8]))
        (S.nc (ptr a) fun v40 => S.fad v40 2 fun v41 => S.st 1 v41 w fun _ => S.len w fun v43 => S.bin .sub v43 (I 1) fun v44 => K (.tuple #[v44, I 0]))) := fun w l i e => by
    subst e
    exact sm (tl w i)
  refine E_both ?_ ?_
  · refine E_sbsl0 cS u_strsP elt_strP fun v21 _ => ?_
    refine E_rck1 (E_b2sR (v := bv) (bs := b) (E_fact rfl)) (E_rck1 (E_ld (E_fact rfl)) (E_rck0 ?_))
    refine E_both ?_ ?_
    · refine E_sapps (enc := cS) (u := v) (m := L) u_strsP elt_strP (by simp; omega) (by simp; omega) fun v26 _ => ?_
      rw [List.nil_append]
      refine E_rck1 (E_b2sR (v := bv) (bs := b) (E_fact rfl)) (E_rck0 ?_)
      refine E_sapp1 (enc := cS) (xv := str b) b u_strsP elt_strP rfl (by omega) (by omega) (by omega) fun w i => ?_
      exact hbt w L rfl
    · refine Dig.E_bslK u_strsP elt_strP (by omega) (fillS1 b) fun bb => ?_
      refine E_slsC (enc := cS) (sz := 1) [b] 1 rfl rfl ?_
      refine E_rck1 (E_ld (E_fact rfl)) (E_rck0 ?_)
      refine fd (a := sls cS 9 1 v21 []) ?_
      refine E_sapps (enc := cS) (u := v) (m := L) u_strsP elt_strP (by simp; omega) (by simp; omega) fun v26 _ => ?_
      rw [List.nil_append]
      refine E_sapps (enc := cS) (u := .slice (some ⟨bb, 0, none⟩) 1 1) (m := [b]) u_strsP elt_strP (by simp; omega) (by simp; omega) fun w i => ?_
      exact sm (hbt w L rfl)
  · refine Dig.E_bslK u_strsP elt_strP (by omega) (fillS1 b) fun bb => ?_
    refine E_slsC (enc := cS) (sz := 1) [b] 1 rfl rfl ?_
    refine E_rck1 (E_ld (E_fact rfl)) (E_rck0 ?_)
    refine E_sbsl0 cS u_strsP elt_strP fun v21 _ => ?_
    refine E_rck1 (E_ld (E_fact rfl)) (E_rck0 ?_)
    refine E_sapps (enc := cS) (u := v) (m := L) u_strsP elt_strP (by simp; omega) (by simp; omega) fun v26 _ => ?_
    rw [List.nil_append]
    refine E_sapps (enc := cS) (u := .slice (some ⟨bb, 0, none⟩) 1 1) (m := [b]) u_strsP elt_strP (by simp; omega) (by simp; omega) fun w i => ?_
    exact sm (hbt w L rfl)
end Go.Proofs.YtmbfmkiagdhcoaaGreat.Pk
end
section
namespace Go.Proofs.YtmbfmkiagdhcoaaGreat.Pk
open Go Go.SL Go.Proofs Go.Proofs.YtmbfmkiagdhcoaaGreat.Sh Go.Proofs.YtmbfmkiagdhcoaaGreat.Oct Go.Proofs.YtmbfmkiagdhcoaaGreat.Disk Go.Proofs.YtmbfmkiagdhcoaaGreat.Slot
variable {B : World} {H : List Asrt} {K : Value → WT} {W : WT}
abbrev Pr := Ext.Rn
def fixL (ps : List Pr) : List UInt8 := ps.flatMap fun p => be p.1 p.2
theorem fix_suc {ps : List Pr} {i : Nat} {p : Pr} (h : ps[i]? = some p) : fixL (ps.take (i + 1)) = fixL (ps.take i) ++ be p.1 p.2 := by
  unfold fixL
  rw [List.take_add_one, h, List.flatMap_append]; simp
structure FOk (p : Pr) : Prop where
  lo : 1 ≤ p.2
  hi : p.2 ≤ 8
  lt : p.1 < 256 ^ p.2
  le : p.1 ≤ 9007199254740991
theorem fix_len {ps : List Pr} (h : ∀ p ∈ ps, FOk p) : (fixL ps).length ≤ 8 * ps.length := by
  induction ps with
  | nil => simp [fixL]
  | cons p ps ih =>
    have h1 := ih fun q hq => h q (List.mem_cons_of_mem _ hq)
    have h2 := (h p (List.mem_cons_self ..)).hi
    unfold fixL at h1 ⊢
    rw [List.flatMap_cons, List.length_append, be_length, List.length_cons]; omega
def tableL (L : Ch) : List UInt8 := L.flatMap fun b => Dig.sum b ++ be b.length 2
def headA (id : Nat) (L : Ch) : List UInt8 := [66, 73, 78, 49] ++ fixL [(id, 4), (L.length, 2), (L.flatten.length, 4), ((crcS (tableL L)).toNat, 4)]
def headL (id : Nat) (L : Ch) : List UInt8 := headA id L ++ be (crcS (headA id L)).toNat 4
def bodyL (id : Nat) (L : Ch) : List UInt8 := headL id L ++ List.replicate 106 0 ++ L.flatten ++ tableL L
def imgL (id : Nat) (L : Ch) : List UInt8 := bodyL id L ++ List.replicate ((128 - (bodyL id L).length % 128) % 128) 0
theorem table_len (L : Ch) : (tableL L).length = 34 * L.length := by
  unfold tableL
  induction L with
  | nil => rfl
  | cons b L ih => rw [List.flatMap_cons, List.length_append, ih, List.length_append, Dig.sum_len, be_length, List.length_cons]; omega
theorem table_suc {L : Ch} {i : Nat} {b : List UInt8} (h : L[i]? = some b) : tableL (L.take (i + 1)) = tableL (L.take i) ++ (Dig.sum b ++ be b.length 2) := by
  unfold tableL
  rw [List.take_add_one, h, List.flatMap_append]; simp
theorem headA_len (id : Nat) (L : Ch) : (headA id L).length = 18 := by simp [headA, fixL, be_length]
theorem headL_len (id : Nat) (L : Ch) : (headL id L).length = 22 := by simp [headL, headA_len, be_length]
theorem body_len (id : Nat) (L : Ch) : (bodyL id L).length = 128 + L.flatten.length + 34 * L.length := by
  unfold bodyL
  simp only [List.length_append, headL_len, List.length_replicate, table_len]
attribute [local irreducible] S.pick S.ld S.ldN S.st S.box S.nc S.fad S.ixS S.ixA S.chr S.prt S.ext S.bin S.sh S.sbin S.beq S.neg1 S.com1 S.not1 S.cvt S.str1 S.lenS S.len S.cap S.lenM S.mx S.mn S.mkM S.cond S.gd S.fa S.dr S.rck S.join S.loop S.cvv S.eqv S.slc S.slcS S.b2s S.lk V U CF Gives E cel mpb osl ros dct dit itr lpo dfo
theorem pkfix {v pv : Value} {l : List UInt8} {ps : List Pr} [hv : Rs B H pv Ext.cR ps] [CellI v] (hp : ∀ p ∈ ps, FOk p) (hl : l.length ≤ 1000000) (hn : ps.length ≤ 100) (h : ∀ v' [CellI v'], E B (sls cB 5 1 v' (l ++ fixL ps) :: H) (K v')) :
    E B (sls cB 5 1 v l :: H) (CF Tryz.prog 64 [v, pv] K) := by
  refine E_mono (W := s64 _ _ K) ?_ fun _ => c64
  unfold s64
  refine E_rslen (v := pv) (l := ps) ?_
  refine E_loop (n := 4) (σ := Nat × Cv) (fun s => s.1 ≤ ps.length) (fun s => [s.2.1, pv, I ps.length, I s.1]) (fun s => sls cB 5 1 s.2.1 (l ++ fixL (ps.take s.1)) :: H) (fun s => ps.length - s.1) (0, ⟨v, CellI.pf⟩) (fun _ => rfl) rfl (Nat.zero_le _) (fun W hW => by
    have e : l ++ fixL (ps.take 0) = l := by simp [fixL]
    simp only [e] at hW
    exact hW) ?_
  rintro ⟨i, o, hco⟩ K0 hi hk
  simp only at hi hk ⊢
  have : CellI o := ⟨hco⟩
  refine E_fa fun _ => ?_
  refine E_lss ?_
  refine E_if (fun hc => ?_) (fun hc => ?_)
  · have hx : ps[i]? = some (ps[i]'(by omega)) := List.getElem?_eq_getElem (by omega)
    obtain ⟨f1, f2, f3, f4⟩ := hp _ (List.getElem_mem (show i < ps.length by omega))
    generalize (ps[i]'(by omega)) = p at hx f1 f2 f3 f4
    have hk1 := fun x : Cv => hk (i + 1, x) (by simp only; omega) (by simp only; omega)
    simp only [fix_suc hx, ← List.append_assoc] at hk1
    have hfl := fix_len (ps := ps.take i) fun q hq => hp q (List.mem_of_mem_take hq)
    rw [List.length_take] at hfl
    refine E_rsix (v := pv) (l := ps) hx fun _ _ => ?_
    refine E_ptldA ?_
    refine gA fun x6 => ?_
    refine gS ?_
    refine Dig.E_wdA (n := 0) (by omega) ?_
    refine E_ld' (v := I p.1) rfl ?_
    refine Dig.E_wdA (n := 1) (by omega) ?_
    refine E_ld' (v := I p.2) rfl ?_
    refine fixed f1 f2 f3 f4 fun w _ => ?_
    refine E_ext ?_
    refine E_ext ?_
    refine fd (a := sls cB 5 1 o (l ++ fixL (ps.take i))) ?_
    refine E_sapps (enc := cB) (u := w) (m := be p.1 p.2) Dig.u_bytesD Dig.elt_byteD (by simp only [List.length_append, be_length]; omega) (by simp only [List.length_append, be_length]; omega) fun v' i' => ?_
    refine E_addI (by omega) (by omega) ?_
    exact sm (hk1 ⟨v', i'.pf⟩)
  · have hie : i = ps.length := by omega
    subst hie
    rw [List.take_length]
    exact h o
end Go.Proofs.YtmbfmkiagdhcoaaGreat.Pk
end
section
namespace Go.Proofs.YtmbfmkiagdhcoaaGreat.Pk
open Go Go.SL Go.Proofs Go.Proofs.YtmbfmkiagdhcoaaGreat.Sh Go.Proofs.YtmbfmkiagdhcoaaGreat.Oct Go.Proofs.YtmbfmkiagdhcoaaGreat.Disk Go.Proofs.YtmbfmkiagdhcoaaGreat.Slot
variable {B : World} {H : List Asrt} {K : Value → WT} {W : WT}
theorem u_pairs : Tryz.prog.underlying 174 = some (.slice 142) := by kernel_rfl
theorem elt_pair : Elt Tryz.prog 142 2 16 [I 0, I 0] := elt_of (zv := .agg #[I 0, I 0]) (by kernel_rfl) rfl rfl
theorem buildP (x y : Int) (w : World) : (Instr.build 142 #[(0, I x), (1, I y)]).run Tryz.prog w = .ok (.agg #[I x, I y]) w := by kernel_rfl
theorem fill4V {a b c d : Value} (ha : isCell a = true) (hb : isCell b = true) (hc : isCell c = true) (hd : isCell d = true) : Instr.fill (fun i => some (i * 1, 1)) (rep 4 [nil]).toArray [(0, a), (1, b), (2, c), (3, d)] = some #[a, b, c, d] := by
  have e : (rep 4 [nil]).toArray = #[nil, nil, nil, nil] := rfl
  rw [e]
  simp [Instr.fill, Ext.cells_one ha, Ext.cells_one hb, Ext.cells_one hc, Ext.cells_one hd]
theorem crc_lt (l : List UInt8) : (crcS l).toNat < 4294967296 := (crcS l).isLt
attribute [local irreducible] S.pick S.ld S.ldN S.st S.box S.nc S.fad S.ixS S.ixA S.chr S.prt S.ext S.bin S.sh S.sbin S.beq S.neg1 S.com1 S.not1 S.cvt S.str1 S.lenS S.len S.cap S.lenM S.mx S.mn S.mkM S.cond S.gd S.fa S.dr S.rck S.join S.loop S.cvv S.eqv S.slc S.slcS S.b2s S.lk V U CF Gives E cel mpb osl ros dct dit itr lpo dfo
theorem bytesTail {a id wd : Nat} {L : Ch} {v u tv w : Value} [CellI v] [CellI u] [CellI tv] [CellI w] (hp : POk id wd L)
    (h : ∀ x [CellI x], E B (sls cB 5 1 x (imgL id L) :: pck a id wd L :: H) (K x)) :
    E B (sls cB 5 1 w (headA id L) :: sls cB 5 1 tv (tableL L) :: cel true a 137 [I id, I wd, v, u] :: sls cSl 109 34 v (slotsL 128 L) :: sls cB 5 1 u L.flatten :: H)
      (CF Tryz.prog 65 [w] fun v55 => S.cvt .i64 v55 fun v56 => V Tryz.prog (Instr.build 142 #[(0, v56), (1, I 4)]) fun v57 => V Tryz.prog (Instr.buildSlice 174 1 #[(0, v57)]) fun v58 =>
        CF Tryz.prog 64 [w, v58] fun v59 => S.dr <| S.len v59 fun v62 => S.bin .sub (I 128) v62 fun v63 => S.nc (ptr a) fun v66 => S.fad v66 3 fun v67 => S.ld v67 fun v68 =>
        V Tryz.prog (Instr.makeSlice 48 v63 v63) fun v64 => S.rck [S.ld v67 (fun v' _ => v' = v68)] <| V Tryz.prog (Instr.buildSlice 22 4 #[(0, v59), (1, v64), (2, v68), (3, tv)]) fun v70 =>
        CF Tryz.prog 62 [v70] fun v71 => S.len v71 fun v74 => S.bin .rem v74 (I 128) fun v75 => S.bin .sub (I 128) v75 fun v76 => S.bin .rem v76 (I 128) fun v77 =>
        V Tryz.prog (Builtin.append_ #[48, 3] 48 #[v71, v77]) fun v78 => K v78) := by
  obtain ⟨p1, p2, p3, p4, p5, p6⟩ := hp
  have hA := headA_len id L
  have hC := crc_lt (headA id L)
  refine crc (v := w) (bs := headA id L) (by omega) ?_
  refine E_cvtI (by omega) (by omega) ?_
  refine Dig.E_Vr (buildP _ _) ?_
  refine Dig.E_bslK u_pairs elt_pair (by omega) (Ext.fill1 _ _) fun bp => ?_
  refine E_slsC (enc := Ext.cR) (sz := 2) [((crcS (headA id L)).toNat, 4)] 1 rfl rfl ?_
  refine fd (a := sls cB 5 1 w (headA id L)) ?_
  refine pkfix (v := w) (pv := .slice (some ⟨bp, 0, none⟩) 1 1) (ps := [((crcS (headA id L)).toNat, 4)]) (fun q hq => by
    simp at hq
    subst hq
    exact ⟨by omega, by omega, by simp only; omega, by simp only; omega⟩) (by omega) (by simp) fun v59 i59 => ?_
  have eH : headA id L ++ fixL [((crcS (headA id L)).toNat, 4)] = headL id L := by simp [headL, fixL]
  rw [eH]
  have hH := headL_len id L
  refine E_dr ?_
  refine E_rslen (v := v59) (l := headL id L) ?_
  refine E_subI (by omega) (by omega) ?_
  refine E_nc ?_
  refine E_fad0 ?_
  refine E_ld ?_
  rw [show (128 : Int) - ((headL id L).length : Int) = ((106 : Nat) : Int) by omega]
  refine E_mkS (sz := 1) (z := [.int .u8 0]) Dig.u_bytesD Dig.elt_byteD (by omega) (by omega) (by omega) (by omega) fun b64 => ?_
  rw [show ((106 : Nat) : Int).toNat = 106 from rfl, rep_cB]
  refine E_slsC (enc := cB) (sz := 1) (List.replicate 106 (0 : UInt8)) 106 rfl rfl ?_
  refine E_rck1 (E_ld (E_fact rfl)) (E_rck0 ?_)
  refine Dig.E_bslK u_bytess elt_bytesP (by omega) (fill4V CellI.pf rfl CellI.pf CellI.pf) fun bb => ?_
  refine E_slsC (enc := cV) (sz := 1) [⟨v59, headL id L, CellI.pf⟩, ⟨.slice (some ⟨b64, 0, none⟩) 106 106, List.replicate 106 0, rfl⟩, ⟨u, L.flatten, CellI.pf⟩, ⟨tv, tableL L, CellI.pf⟩] 4 rfl rfl ?_
  have hcat : catL [⟨v59, headL id L, CellI.pf⟩, ⟨.slice (some ⟨b64, 0, none⟩) 106 106, List.replicate 106 0, rfl⟩, ⟨u, L.flatten, CellI.pf⟩, ⟨tv, tableL L, CellI.pf⟩] = bodyL id L := by
    unfold catL bodyL
    simp only [List.flatMap_cons, List.flatMap_nil, List.append_nil, List.append_assoc]
  have hB := body_len id L
  refine concat (l := [⟨v59, headL id L, CellI.pf⟩, ⟨.slice (some ⟨b64, 0, none⟩) 106 106, List.replicate 106 0, rfl⟩, ⟨u, L.flatten, CellI.pf⟩, ⟨tv, tableL L, CellI.pf⟩]) (hv := fun Q => Ext.rs_app Q inferInstance) (fun y hy Q => ?_) (by rw [hcat]; omega) (by rw [hcat]; omega) (by simp) fun v71 i71 => ?_
  · refine Ext.rs_app Q ?_
    simp only [List.mem_cons, List.not_mem_nil, or_false] at hy
    rcases hy with rfl | rfl | rfl | rfl
    · exact inferInstance
    · exact inferInstance
    · exact inferInstance
    · exact inferInstance
  · rw [hcat]
    refine E_rslen (v := v71) (l := bodyL id L) ?_
    refine Dig.E_rem0 (b := 128) (by decide) ?_
    refine E_subI (by omega) (by omega) ?_
    rw [show (128 : Int) - (((bodyL id L).length % 128 : Nat) : Int) = ((128 - (bodyL id L).length % 128 : Nat) : Int) by omega]
    refine Dig.E_rem0 (b := 128) (by decide) ?_
    refine E_bz Dig.u_bytesD Ext.u_int Dig.elt_byteD (by omega) fun x ix => ?_
    refine fd (a := sls cB 5 1 u L.flatten) ?_
    refine fd (a := sls cSl 109 34 v (slotsL 128 L)) ?_
    refine fd (a := cel true a 137 [I id, I wd, v, u]) ?_
    refine E_pkS ?_
    have h' := h x
    unfold imgL at h'
    exact sm h'
end Go.Proofs.YtmbfmkiagdhcoaaGreat.Pk
end
section
namespace Go.Proofs.YtmbfmkiagdhcoaaGreat.Pk
open Go Go.SL Go.Proofs Go.Proofs.YtmbfmkiagdhcoaaGreat.Sh Go.Proofs.YtmbfmkiagdhcoaaGreat.Oct Go.Proofs.YtmbfmkiagdhcoaaGreat.Disk Go.Proofs.YtmbfmkiagdhcoaaGreat.Slot
variable {B : World} {H : List Asrt} {K : Value → WT} {W : WT}
theorem fillN : Instr.fill (fun i => some (i * 1, 1)) (rep 4 [.int .u8 0]).toArray [(0, .int .u8 66), (1, .int .u8 73), (2, .int .u8 78), (3, .int .u8 49)] = some #[.int .u8 66, .int .u8 73, .int .u8 78, .int .u8 49] := by kernel_rfl
theorem fill4P (a b c d e f g h : Int) : Instr.fill (fun i => some (i * 2, 2)) (rep 4 [I 0, I 0]).toArray [(0, .agg #[I a, I b]), (1, .agg #[I c, I d]), (2, .agg #[I e, I f]), (3, .agg #[I g, I h])] = some #[I a, I b, I c, I d, I e, I f, I g, I h] := by kernel_rfl
attribute [local irreducible] S.pick S.ld S.ldN S.st S.box S.nc S.fad S.ixS S.ixA S.chr S.prt S.ext S.bin S.sh S.sbin S.beq S.neg1 S.com1 S.not1 S.cvt S.str1 S.lenS S.len S.cap S.lenM S.mx S.mn S.mkM S.cond S.gd S.fa S.dr S.rck S.join S.loop S.cvv S.eqv S.slc S.slcS S.b2s S.lk V U CF Gives E cel mpb osl ros dct dit itr lpo dfo
theorem headMid {a id wd b28 b51 : Nat} {L : Ch} {v u tv : Value} [CellI v] [CellI u] [CellI tv] (hp : POk id wd L)
    (h : ∀ x [CellI x], E B (sls cB 5 1 x (imgL id L) :: pck a id wd L :: H) (K x)) :
    E B (cel true b28 5 [.int .u8 66, .int .u8 73, .int .u8 78, .int .u8 49] :: cel true b51 142 [I id, I 4, I L.length, I 2, I L.flatten.length, I 4, I (crcS (tableL L)).toNat, I 4] :: sls cB 5 1 tv (tableL L) :: cel true a 137 [I id, I wd, v, u] :: sls cSl 109 34 v (slotsL 128 L) :: sls cB 5 1 u L.flatten :: H)
      (CF Tryz.prog 64 [.slice (some ⟨b28, 0, none⟩) 4 4, .slice (some ⟨b51, 0, none⟩) 4 4] fun w => CF Tryz.prog 65 [w] fun v55 => S.cvt .i64 v55 fun v56 => V Tryz.prog (Instr.build 142 #[(0, v56), (1, I 4)]) fun v57 => V Tryz.prog (Instr.buildSlice 174 1 #[(0, v57)]) fun v58 =>
        CF Tryz.prog 64 [w, v58] fun v59 => S.dr <| S.len v59 fun v62 => S.bin .sub (I 128) v62 fun v63 => S.nc (ptr a) fun v66 => S.fad v66 3 fun v67 => S.ld v67 fun v68 =>
        V Tryz.prog (Instr.makeSlice 48 v63 v63) fun v64 => S.rck [S.ld v67 (fun v' _ => v' = v68)] <| V Tryz.prog (Instr.buildSlice 22 4 #[(0, v59), (1, v64), (2, v68), (3, tv)]) fun v70 =>
        CF Tryz.prog 62 [v70] fun v71 => S.len v71 fun v74 => S.bin .rem v74 (I 128) fun v75 => S.bin .sub (I 128) v75 fun v76 => S.bin .rem v76 (I 128) fun v77 =>
        V Tryz.prog (Builtin.append_ #[48, 3] 48 #[v71, v77]) fun v78 => K v78) := by
  have hp' := hp
  obtain ⟨p1, p2, p3, p4, p5, p6⟩ := hp'
  have hC := crc_lt (tableL L)
  refine fd (a := cel true b51 142 [I id, I 4, I L.length, I 2, I L.flatten.length, I 4, I (crcS (tableL L)).toNat, I 4]) ?_
  refine E_slsC (enc := Ext.cR) (sz := 2) [(id, 4), (L.length, 2), (L.flatten.length, 4), ((crcS (tableL L)).toNat, 4)] 4 rfl rfl ?_
  refine fd (a := cel true b28 5 [.int .u8 66, .int .u8 73, .int .u8 78, .int .u8 49]) ?_
  refine E_slsC (enc := cB) (sz := 1) [66, 73, 78, 49] 4 rfl rfl ?_
  refine pkfix (v := .slice (some ⟨b28, 0, none⟩) 4 4) (pv := .slice (some ⟨b51, 0, none⟩) 4 4) (ps := [(id, 4), (L.length, 2), (L.flatten.length, 4), ((crcS (tableL L)).toNat, 4)]) (fun q hq => by
    simp only [List.mem_cons, List.not_mem_nil, or_false] at hq
    rcases hq with rfl | rfl | rfl | rfl
    · exact ⟨by omega, by omega, by simp only; omega, by simp only; omega⟩
    · exact ⟨by omega, by omega, by simp only; omega, by simp only; omega⟩
    · exact ⟨by omega, by omega, by simp only; omega, by simp only; omega⟩
    · exact ⟨by omega, by omega, by simp only; omega, by simp only; omega⟩) (by simp) (by simp) fun w iw => ?_
  have eA : [66, 73, 78, 49] ++ fixL [(id, 4), (L.length, 2), (L.flatten.length, 4), ((crcS (tableL L)).toNat, 4)] = headA id L := rfl
  rw [eA]
  refine sm (G := sls cB 5 1 w (headA id L) :: sls cB 5 1 tv (tableL L) :: cel true a 137 [I id, I wd, v, u] :: sls cSl 109 34 v (slotsL 128 L) :: sls cB 5 1 u L.flatten :: H) ?_
  exact bytesTail hp h
end Go.Proofs.YtmbfmkiagdhcoaaGreat.Pk
end
section
namespace Go.Proofs.YtmbfmkiagdhcoaaGreat.Pk
open Go Go.SL Go.Proofs Go.Proofs.YtmbfmkiagdhcoaaGreat.Sh Go.Proofs.YtmbfmkiagdhcoaaGreat.Oct Go.Proofs.YtmbfmkiagdhcoaaGreat.Disk Go.Proofs.YtmbfmkiagdhcoaaGreat.Slot
variable {B : World} {H : List Asrt} {K : Value → WT} {W : WT}
theorem E_slcA {P : Program} {t e n b sz : Nat} (hu : P.underlying t = some (.array n e)) (hs : (P.info? e).map (fun i => i.size) = some sz) (h : E B H (K (.slice (some ⟨b, 0, none⟩) n n))) : E B H (V P (Instr.sliceAt t (.pointer (some ⟨b, 0, none⟩)) none none none) K) := by
  obtain ⟨i, hi, _⟩ := Option.map_eq_some_iff.1 hs
  refine E_Vok fun w hw => ⟨_, w, ?_, h w hw⟩
  unfold Instr.sliceAt
  rw [run_bind, run_underlying' hu]
  simp only [Instr.sureAddr, Instr.sliceBounds, run_bind, run_pure, run_size' hi]
  congr 2
  simp [Addr.add]
theorem u_a32 : Tryz.prog.underlying 107 = some (.array 32 5) := by kernel_rfl
theorem size_byte : (Tryz.prog.info? 5).map (fun i => i.size) = some 1 := by kernel_rfl
theorem slots_get {p : Nat} {L : Ch} {i : Nat} {b : List UInt8} (h : L[i]? = some b) : ∃ q, (slotsL p L)[i]? = some ⟨Dig.sum b, q, b.length, Dig.sum_len b⟩ := by
  induction L generalizing p i with
  | nil => simp at h
  | cons c L ih =>
    cases i with
    | zero =>
      simp only [List.getElem?_cons_zero, Option.some.injEq] at h
      subst h
      exact ⟨p, rfl⟩
    | succ i =>
      simp only [List.getElem?_cons_succ] at h
      obtain ⟨q, hq⟩ := ih (p := p + c.length) h
      exact ⟨q, by simpa [slotsL] using hq⟩
theorem cSl_last (s : Sl) : (cSl s)[33]? = some (I s.len) := by
  have h : (bcs s.sum).length = 32 := by rw [Dig.bcs_len, s.hs]
  rw [List.getElem?_append_right (by omega), h]; rfl
theorem rs_sum {b : Nat} {κ : Bool} {T : TypeId} {s : Sl} [hf : HasC H b κ T (cSl s)] : Rs B H (.slice (some ⟨b, 0, none⟩) 32 32) cB s.sum := ⟨fun hw => by
  refine .inr ⟨⟨b, 0, none⟩, 32, by rw [s.hs], by rw [s.hs]; exact Nat.le_refl _, fun j hj => ?_⟩
  rw [add_at, Nat.zero_add, sat_cell (hf := hf) hw, bcs_enc]
  rw [bcs_enc] at hj
  exact List.getElem?_append_left hj⟩
attribute [local irreducible] S.pick S.ld S.ldN S.st S.box S.nc S.fad S.ixS S.ixA S.chr S.prt S.ext S.bin S.sh S.sbin S.beq S.neg1 S.com1 S.not1 S.cvt S.str1 S.lenS S.len S.cap S.lenM S.mx S.mn S.mkM S.cond S.gd S.fa S.dr S.rck S.join S.loop S.cvv S.eqv S.slc S.slcS S.b2s S.lk V U CF Gives E cel mpb osl ros dct dit itr lpo dfo
theorem rowMid {b25 : Nat} {w : Value} {l : List UInt8} {n : Nat} [CellI w] (hn : n ≤ 512) (hl : l.length ≤ 100000) (h : ∀ x [CellI x], E B (sls cB 5 1 x (l ++ be n 2) :: H) (K x)) :
    E B (sls cB 5 1 w l :: cel true b25 142 [I n, I 2] :: H) (CF Tryz.prog 64 [w, .slice (some ⟨b25, 0, none⟩) 1 1] K) := by
  refine fd (a := cel true b25 142 [I n, I 2]) ?_
  refine E_slsC (enc := Ext.cR) (sz := 2) [(n, 2)] 1 rfl rfl ?_
  refine fd (a := sls cB 5 1 w l) ?_
  refine pkfix (v := w) (pv := .slice (some ⟨b25, 0, none⟩) 1 1) (ps := [(n, 2)]) (fun q hq => by
    simp only [List.mem_cons, List.not_mem_nil, or_false] at hq
    subst hq
    exact ⟨by omega, by omega, by simp only; omega, by simp only; omega⟩) (by omega) (by simp) fun x _ => ?_
  have e : l ++ fixL [(n, 2)] = l ++ be n 2 := by simp [fixL]
  rw [e]
  exact sm (h x)
end Go.Proofs.YtmbfmkiagdhcoaaGreat.Pk
end
section
namespace Go.Proofs.YtmbfmkiagdhcoaaGreat.Pk
open Go Go.SL Go.Proofs Go.Proofs.YtmbfmkiagdhcoaaGreat.Sh Go.Proofs.YtmbfmkiagdhcoaaGreat.Oct Go.Proofs.YtmbfmkiagdhcoaaGreat.Disk Go.Proofs.YtmbfmkiagdhcoaaGreat.Slot
variable {B : World} {H : List Asrt} {K : Value → WT} {W : WT}
theorem u_byteP : Tryz.prog.underlying 5 = some (.int .u8) := by kernel_rfl
attribute [local irreducible] S.pick S.ld S.ldN S.st S.box S.nc S.fad S.ixS S.ixA S.chr S.prt S.ext S.bin S.sh S.sbin S.beq S.neg1 S.com1 S.not1 S.cvt S.str1 S.lenS S.len S.cap S.lenM S.mx S.mn S.mkM S.cond S.gd S.fa S.dr S.rck S.join S.loop S.cvv S.eqv S.slc S.slcS S.b2s S.lk V U CF Gives E cel mpb osl ros dct dit itr lpo dfo
set_option maxRecDepth 100000 in
theorem pkbytes {a id wd : Nat} {L : Ch} (hp : POk id wd L) (h : ∀ x [CellI x], E B (sls cB 5 1 x (imgL id L) :: pck a id wd L :: H) (K x)) :
    E B (pck a id wd L :: H) (CF Tryz.prog 35 [ptr a] K) := by
  have hp' := hp
  obtain ⟨p1, p2, p3, p4, p5, p6⟩ := hp'
  refine E_mono (W := s35 _ K) ?_ fun _ => c35
  unfold s35
  refine E_peq u_pPk ?_
  refine E_ff ?_
  refine E_pk fun v u _ _ => ?_
  refine E_nc ?_
  refine E_fad0 ?_
  refine E_ld ?_
  refine E_rslen (v := v) (l := slotsL 128 L) ?_
  rw [slots_len]
  refine sls_nil cB 1 (T := 5) ?_
  refine E_loop (n := 5) (σ := Nat × Cv) (fun s => s.1 ≤ L.length) (fun s => [ptr a, s.2.1, v, I L.length, I s.1])
    (fun s => sls cB 5 1 s.2.1 (tableL (L.take s.1)) :: cel true a 137 [I id, I wd, v, u] :: sls cSl 109 34 v (slotsL 128 L) :: sls cB 5 1 u L.flatten :: H) (fun s => L.length - s.1) (0, ⟨nil, rfl⟩) (fun _ => rfl) rfl (Nat.zero_le _) (fun W hW => hW) ?_
  rintro ⟨i, tv, htv⟩ K0 hi hk
  simp only at hi hk ⊢
  have itv : CellI tv := ⟨htv⟩
  refine E_fa fun _ => ?_
  refine E_lss ?_
  refine E_if (fun hc => ?_) (fun hc => ?_)
  · have hx : L[i]? = some (L[i]'(by omega)) := List.getElem?_eq_getElem (by omega)
    have hbl := p6 _ (List.getElem_mem (show i < L.length by omega))
    generalize (L[i]'(by omega)) = b at hx hbl
    have hk1 := fun x : Cv => hk (i + 1, x) (by simp only; omega) (by simp only; omega)
    simp only [table_suc hx, ← List.append_assoc] at hk1
    have htl := table_len (L.take i)
    rw [List.length_take] at htl
    obtain ⟨q, hq⟩ := slots_get (p := 128) hx
    generalize hs : (⟨Dig.sum b, q, b.length, Dig.sum_len b⟩ : Sl) = s at hq
    have es : s.sum = Dig.sum b := by rw [← hs]
    have el : s.len = b.length := by rw [← hs]
    have hsl : (Dig.sum b).length = 32 := Dig.sum_len b
    refine E_rsix (v := v) (l := slotsL 128 L) hq fun _ _ => ?_
    refine E_ptldN (cs := cSl s) (by rw [List.drop_zero, List.take_of_length_le (by rw [cSl_len]; omega)]) (cSl_len s) ?_
    refine E_box (v := .agg zSl.toArray) (vs := zSl) fun v5 => ?_
    refine E_stW (vs := cSl s) (cSl_len s) rfl ?_
    refine E_dr ?_
    refine E_fad0 ?_
    refine E_fad0 ?_
    refine E_ld' (cSl_last s) ?_
    rw [el]
    refine Dig.E_Vr (buildP _ _) ?_
    have fin : ∀ (w : Value) [CellI w] (b25 : Nat), E B (sls cB 5 1 w (tableL (L.take i) ++ Dig.sum b) :: cel true b25 142 [I b.length, I 2] :: cel true a 137 [I id, I wd, v, u] :: sls cSl 109 34 v (slotsL 128 L) :: sls cB 5 1 u L.flatten :: H)
        (CF Tryz.prog 64 [w, .slice (some ⟨b25, 0, none⟩) 1 1] fun v26 => S.bin .add (I i) (I 1) fun v27 => K0 (ptr a) v26 v (I L.length) v27) := fun w iw b25 => by
      refine rowMid (n := b.length) (by omega) (by rw [List.length_append]; omega) fun x ix => ?_
      refine E_addI (by omega) (by omega) ?_
      exact hk1 ⟨x, ix.pf⟩
    refine E_both ?_ ?_
    · refine E_slcA u_a32 size_byte ?_
      refine E_rck1 (E_ld' (cSl_last s) (E_fact (by rw [el]))) (E_rck0 ?_)
      refine E_both ?_ ?_
      · refine fd (a := sls cB 5 1 tv (tableL (L.take i))) ?_
        refine E_sapps (enc := cB) (u := .slice (some ⟨v5, 0, none⟩) 32 32) (m := s.sum) (hf := rs_sum) Dig.u_bytesD Dig.elt_byteD (by rw [es]; omega) (by rw [es]; omega) fun w iw => ?_
        rw [es]
        refine E_rck1 (E_ld' (cSl_last s) (E_fact (by rw [el]))) (E_rck0 ?_)
        refine Dig.E_bslK u_pairs elt_pair (by omega) (Ext.fill1 _ _) fun b25 => ?_
        exact sm (fin w b25)
      · refine Dig.E_bslK u_pairs elt_pair (by omega) (Ext.fill1 _ _) fun b25 => ?_
        refine fd (a := sls cB 5 1 tv (tableL (L.take i))) ?_
        refine E_sapps (enc := cB) (u := .slice (some ⟨v5, 0, none⟩) 32 32) (m := s.sum) (hf := rs_sum) Dig.u_bytesD Dig.elt_byteD (by rw [es]; omega) (by rw [es]; omega) fun w iw => ?_
        rw [es]
        exact sm (fin w b25)
    · refine Dig.E_bslK u_pairs elt_pair (by omega) (Ext.fill1 _ _) fun b25 => ?_
      refine E_slcA u_a32 size_byte ?_
      refine fd (a := sls cB 5 1 tv (tableL (L.take i))) ?_
      refine E_sapps (enc := cB) (u := .slice (some ⟨v5, 0, none⟩) 32 32) (m := s.sum) (hf := rs_sum) Dig.u_bytesD Dig.elt_byteD (by rw [es]; omega) (by rw [es]; omega) fun w iw => ?_
      rw [es]
      exact sm (fin w b25)
  · have hie : i = L.length := by omega
    subst hie
    rw [List.take_length]
    clear hk
    have hC := crc_lt (tableL L)
    have htl := table_len L
    have fin := fun b28 b51 => headMid (b28 := b28) (b51 := b51) (v := v) (u := u) (tv := tv) (K := K) (H := H) (a := a) hp h
    refine E_dr ?_
    refine E_nc ?_
    refine E_fad0 ?_
    refine E_ld ?_
    refine Dig.E_Vr (buildP _ _) ?_
    refine E_nc ?_
    refine E_fad0 ?_
    refine E_ld ?_
    refine E_rslen (v := v) (l := slotsL 128 L) ?_
    rw [slots_len]
    refine Dig.E_Vr (buildP _ _) ?_
    refine E_nc ?_
    refine E_fad0 ?_
    refine E_ld ?_
    refine E_rslen (v := u) (l := L.flatten) ?_
    refine Dig.E_Vr (buildP _ _) ?_
    repeat' first
      | refine E_both ?_ ?_
      | refine E_rck0 ?_
      | refine E_rck1 (E_ld (E_fact rfl)) ?_
      | refine Dig.E_bslK Dig.u_bytesD Dig.elt_byteD (by omega) fillN fun _ => ?_
      | refine Dig.E_bslK u_pairs elt_pair (by omega) (fill4P _ _ _ _ _ _ _ _) fun _ => ?_
      | refine E_cvslice Dig.u_bytesD u_byteP ?_
      | refine crc (v := tv) (bs := tableL L) (by omega) ?_
      | refine E_cvtI (by omega) (by omega) ?_
      | refine Dig.E_Vr (buildP _ _) ?_
      | exact sm (fin _ _)
end Go.Proofs.YtmbfmkiagdhcoaaGreat.Pk
end
section
namespace Go.Proofs.YtmbfmkiagdhcoaaGreat.Pk
open Go Go.SL Go.Proofs Go.Proofs.YtmbfmkiagdhcoaaGreat.Sh Go.Proofs.YtmbfmkiagdhcoaaGreat.Oct Go.Proofs.YtmbfmkiagdhcoaaGreat.Disk Go.Proofs.YtmbfmkiagdhcoaaGreat.Slot
variable {B : World} {H : List Asrt} {K : Value → WT} {W : WT}
theorem ok_nz : callOk Tryz.prog 107 = true := by kernel_rfl
attribute [local irreducible] S.pick S.ld S.ldN S.st S.box S.nc S.fad S.ixS S.ixA S.chr S.prt S.ext S.bin S.sh S.sbin S.beq S.neg1 S.com1 S.not1 S.cvt S.str1 S.lenS S.len S.cap S.lenM S.mx S.mn S.mkM S.cond S.gd S.fa S.dr S.rck S.join S.loop S.cvv S.eqv S.slc S.slcS S.b2s S.lk V U CF Gives E cel mpb osl ros dct dit itr lpo dfo
theorem hasNz {v : Value} {l : List UInt8} [hv : Rb B H v l] (hl : l.length ≤ 1000000) (h : E B H (K (.bool (l.any fun c => c ≠ 0)))) : E B H (CF Tryz.prog 106 [v, .func (.func 107) #[] #[]] K) := by
  refine E_mono (W := s106 _ _ K) ?_ fun _ => c106
  unfold s106
  refine E_mono (W := s131 _ _ _) ?_ fun _ => c131
  unfold s131
  refine E_rslen (v := v) (l := l) ?_
  refine E_loop (n := 4) (σ := Nat) (fun i => i ≤ l.length ∧ ∀ j (hj : j < l.length), j < i → l[j] = 0) (fun i => [v, .func (.func 107) #[] #[], I l.length, I i]) (fun _ => H) (fun i => l.length - i) 0 (fun _ => rfl) rfl ⟨Nat.zero_le _, fun j _ hj => by omega⟩ (fun W hW => hW) ?_
  rintro i K0 ⟨hi, hp⟩ hk
  refine E_fa fun _ => ?_
  refine E_lss ?_
  refine E_if (fun hc => ?_) (fun hc => ?_)
  · have hlt : i < l.length := by omega
    have hx : l[i]? = some l[i] := List.getElem?_eq_getElem hlt
    refine E_rsix (v := v) (l := l) hx fun _ _ => ?_
    refine E_ptld ?_
    refine E_cvv ok_nz ?_
    refine E_mono (W := s107 _ _) ?_ fun _ => c107
    unfold s107
    refine E_neq ?_
    refine E_if (fun hb => ?_) (fun hb => ?_)
    · have e : (l.any fun c => c ≠ 0) = true := List.any_eq_true.2 ⟨l[i], List.getElem_mem hlt, by
        simp only [ne_eq, decide_eq_true_eq]
        intro h0
        rw [h0] at hb
        exact hb rfl⟩
      rw [e] at h
      refine E_geq ?_
      rw [decide_eq_true (by omega)]
      exact h
    · have h0 : l[i] = 0 := by
        apply UInt8.toNat_inj.1
        have : (l[i].toNat : Int) = 0 := by simpa using hb
        simp; omega
      refine E_addI (by omega) (by omega) ?_
      refine hk (i + 1) ⟨by omega, fun j hj hji => ?_⟩ (by omega)
      rcases Nat.lt_or_ge j i with h' | h'
      · exact hp j hj h'
      · have : j = i := by omega
        subst this
        exact h0
  · have hie : i = l.length := by omega
    subst hie
    have e : (l.any fun c => c ≠ 0) = false := by
      rw [List.any_eq_false]
      intro x hx
      obtain ⟨j, hj, rfl⟩ := List.mem_iff_getElem.1 hx
      simp [hp j hj hj]
    rw [e] at h
    refine E_geq ?_
    exact h
end Go.Proofs.YtmbfmkiagdhcoaaGreat.Pk
end
section
namespace Go.Proofs.YtmbfmkiagdhcoaaGreat.Pk
open Go Go.SL Go.Proofs Go.Proofs.YtmbfmkiagdhcoaaGreat.Sh Go.Proofs.YtmbfmkiagdhcoaaGreat.Oct Go.Proofs.YtmbfmkiagdhcoaaGreat.Disk Go.Proofs.YtmbfmkiagdhcoaaGreat.Slot
variable {B : World} {H : List Asrt} {K : Value → WT} {W : WT}
def hdN (b : List UInt8) (p w : Nat) : Nat := ofBe ((b.drop p).take w)
def nums (b : List UInt8) : List Nat := [hdN b 4 4, hdN b 8 2, hdN b 10 4, hdN b 14 4]
abbrev nI (l : List Nat) : List Value := l.map fun n : Nat => I (n : Int)
theorem buildW (w : World) : (Instr.build 146 #[(0, I 4), (1, I 2), (2, I 4), (3, I 4)]).run Tryz.prog w = .ok (.agg #[I 4, I 2, I 4, I 4]) w := by kernel_rfl
theorem idx0 (w : World) : (Instr.index 146 (.agg #[I 4, I 2, I 4, I 4]) (I 0)).run Tryz.prog w = .ok (I 4) w := by kernel_rfl
theorem idx1 (w : World) : (Instr.index 146 (.agg #[I 4, I 2, I 4, I 4]) (I 1)).run Tryz.prog w = .ok (I 2) w := by kernel_rfl
theorem idx2 (w : World) : (Instr.index 146 (.agg #[I 4, I 2, I 4, I 4]) (I 2)).run Tryz.prog w = .ok (I 4) w := by kernel_rfl
theorem idx3 (w : World) : (Instr.index 146 (.agg #[I 4, I 2, I 4, I 4]) (I 3)).run Tryz.prog w = .ok (I 4) w := by kernel_rfl
def wds : List Nat := [4, 2, 4, 4]
def pls : List Nat := [4, 8, 10, 14, 18]
def part (b : List UInt8) (i : Nat) : List Nat := (nums b).take i ++ List.replicate (4 - i) 0
theorem part_set (b : List UInt8) (i : Nat) (h : i < 4) : (nI (part b i)).set i (I (hdN b (pls.getD i 0) (wds.getD i 0) : Nat)) = nI (part b (i + 1)) := by
  match i, h with
  | 0, _ => rfl
  | 1, _ => rfl
  | 2, _ => rfl
  | 3, _ => rfl
theorem part_len (b : List UInt8) (i : Nat) (h : i ≤ 4) : (nI (part b i)).length = 4 := by simp [part, nums]; omega
theorem idxW (i : Nat) (h : i < 4) (w : World) : (Instr.index 146 (.agg #[I 4, I 2, I 4, I 4]) (I i)).run Tryz.prog w = .ok (I (wds.getD i 0 : Nat)) w := by
  match i, h with
  | 0, _ => exact idx0 w
  | 1, _ => exact idx1 w
  | 2, _ => exact idx2 w
  | 3, _ => exact idx3 w
theorem wds_ok (i : Nat) (h : i < 4) : 1 ≤ wds.getD i 0 ∧ wds.getD i 0 ≤ 4 ∧ pls.getD i 0 + wds.getD i 0 = pls.getD (i + 1) 0 ∧ pls.getD (i + 1) 0 ≤ 18 := by
  match i, h with
  | 0, _ => decide
  | 1, _ => decide
  | 2, _ => decide
  | 3, _ => decide
attribute [local irreducible] S.pick S.ld S.ldN S.st S.box S.nc S.fad S.ixS S.ixA S.chr S.prt S.ext S.bin S.sh S.sbin S.beq S.neg1 S.com1 S.not1 S.cvt S.str1 S.lenS S.len S.cap S.lenM S.mx S.mn S.mkM S.cond S.gd S.fa S.dr S.rck S.join S.loop S.cvv S.eqv S.slc S.slcS S.b2s S.lk V U CF Gives E cel mpb osl ros dct dit itr lpo dfo
theorem numbers {v : Value} {b : List UInt8} [hv : Rb B H v b] (hl : 128 ≤ b.length) (hm : b.length ≤ 1000000000) (h : E B H (K (.agg (nI (nums b)).toArray))) : E B H (CF Tryz.prog 67 [v] K) := by
  refine E_mono (W := s67 _ K) ?_ fun _ => c67
  unfold s67
  refine gA fun o => ?_
  refine Dig.E_Vr buildW ?_
  refine E_loop (n := 5) (σ := Nat) (fun i => i ≤ 4) (fun i => [v, ptr o, I (pls.getD i 0 : Nat), .agg #[I 4, I 2, I 4, I 4], I i]) (fun i => cel true o 146 (nI (part b i)) :: H) (fun i => 4 - i) 0 (fun _ => rfl) rfl (Nat.zero_le _) (fun W hW => hW) ?_
  rintro i K0 hi hk
  refine E_fa fun _ => ?_
  refine E_lss ?_
  refine E_if (fun hc => ?_) (fun hc => ?_)
  · have hk1 := hk (i + 1) (by omega) (by omega)
    obtain ⟨w1, w2, w3, w4⟩ := wds_ok i (by omega)
    rw [← part_set b i (by omega)] at hk1
    refine Dig.E_Vr (idxW i (by omega)) ?_
    refine take4 (v := v) (bs := b) w1 w2 (by omega) (by omega) ?_
    rw [w3]
    refine E_ext ?_
    refine E_ext ?_
    refine E_ext ?_
    refine Dig.E_wdA (by omega) ?_
    rw [show 0 + i * 1 = i by omega]
    refine E_st' (by rw [part_len b i hi]; omega) ?_
    refine E_addI (by omega) (by omega) ?_
    exact hk1
  · have : i = 4 := by omega
    subst this
    refine E_ldN (cs := nI (nums b)) rfl rfl ?_
    refine E_stN (vs := nI (nums b)) rfl (by simp [nums, isCell]) (by simp [part, nums]) (l' := nI (nums b)) rfl ?_
    refine E_ldN (cs := nI (nums b)) rfl rfl ?_
    exact sm h
end Go.Proofs.YtmbfmkiagdhcoaaGreat.Pk
end
section
namespace Go.Proofs.YtmbfmkiagdhcoaaGreat.Pk
open Go Go.SL Go.Proofs Go.Proofs.YtmbfmkiagdhcoaaGreat.Sh Go.Proofs.YtmbfmkiagdhcoaaGreat.Oct Go.Proofs.YtmbfmkiagdhcoaaGreat.Disk Go.Proofs.YtmbfmkiagdhcoaaGreat.Slot
variable {B : World} {H : List Asrt} {K : Value → WT} {W : WT}
def headE (b : List UInt8) : Int :=
  if b.length < 128 then 3 else if b.take 4 ≠ [66, 73, 78, 49] then 4 else if hdN b 18 4 ≠ (crcS (b.take 18)).toNat then 5 else
  if (((b.drop 22).take 106).any fun c => c ≠ 0) = true then 4 else if 4096 ≤ hdN b 4 4 ∨ 64 < hdN b 8 2 then 6 else
  if b.length < 128 + hdN b 10 4 + 34 * hdN b 8 2 then 3 else 0
theorem hdN_lt {b : List UInt8} {p w : Nat} (h : w ≤ 4) : hdN b p w < 4294967296 := ofBe4 h
instance (l : List Nat) : AllC (nI l) := ⟨fun v hv => by
  obtain ⟨x, _, rfl⟩ := List.mem_map.1 hv
  rfl⟩
attribute [local irreducible] S.pick S.ld S.ldN S.st S.box S.nc S.fad S.ixS S.ixA S.chr S.prt S.ext S.bin S.sh S.sbin S.beq S.neg1 S.com1 S.not1 S.cvt S.str1 S.lenS S.len S.cap S.lenM S.mx S.mn S.mkM S.cond S.gd S.fa S.dr S.rck S.join S.loop S.cvv S.eqv S.slc S.slcS S.b2s S.lk V U CF Gives E cel mpb osl ros dct dit itr lpo dfo
theorem headed {v : Value} {b : List UInt8} [hv : Rb B H v b] (hm : b.length ≤ 1000000000) (h : E B H (K (I (headE b)))) : E B H (CF Tryz.prog 66 [v] K) := by
  refine E_mono (W := s66 _ K) ?_ fun _ => c66
  unfold s66
  unfold headE at h
  refine E_rslen (v := v) (l := b) ?_
  refine E_lss ?_
  refine E_if (fun hc => ?_) (fun hc => ?_)
  · rw [if_pos (by omega)] at h
    exact h
  have hl : 128 ≤ b.length := by omega
  rw [if_neg (by omega)] at h
  refine E_slcB (v := v) (bs := b) (l := 0) (hh := 4) (Dig.bndN rfl) rfl (by omega) (by omega) fun x hx _ => ?_
  have hx' := hx H
  rw [List.drop_zero] at hx'
  refine E_b2sR (v := x) (bs := b.take 4) ?_
  refine E_strne (b := [66, 73, 78, 49]) ?_
  refine E_if (fun hc1 => ?_) (fun hc1 => ?_)
  · rw [if_pos hc1] at h
    exact h
  rw [if_neg hc1] at h
  refine take4 (v := v) (bs := b) (w := 4) (p := 18) (by omega) (by omega) (by omega) (by omega) ?_
  refine E_ext ?_
  refine E_ext ?_
  refine E_ext ?_
  refine numbers (v := v) (b := b) hl hm ?_
  refine E_box (v := .agg #[I 0, I 0, I 0, I 0]) (vs := [I 0, I 0, I 0, I 0]) fun n6 => ?_
  refine E_stW (vs := nI (nums b)) (by rfl) (by rfl) ?_
  refine E_slcB (v := v) (bs := b) (l := 0) (hh := 18) (Dig.bndN rfl) rfl (by omega) (by omega) fun y hy _ => ?_
  have hy' := hy (cel true n6 146 (nI (nums b)) :: H)
  rw [List.drop_zero] at hy'
  refine crc (v := y) (bs := b.take 18) (by rw [List.length_take]; omega) ?_
  have hC := crc_lt (b.take 18)
  refine E_cvtI (by omega) (by omega) ?_
  refine E_neq ?_
  have h18 : ofBe ((b.drop 18).take 4) = hdN b 18 4 := rfl
  rw [h18]
  refine E_if (fun hc2 => ?_) (fun hc2 => ?_)
  · rw [if_pos (by omega)] at h
    exact sm h
  rw [if_neg (by omega)] at h
  refine E_slcB (v := v) (bs := b) (l := 22) (hh := 128) (Dig.bndN rfl) (Dig.bndN rfl) (by omega) (by omega) fun z hz _ => ?_
  have hz' := hz (cel true n6 146 (nI (nums b)) :: H)
  refine hasNz (v := z) (l := (b.drop 22).take (128 - 22)) (by simp; omega) ?_
  refine E_ifb (fun hc3 => ?_) (fun hc3 => ?_)
  · rw [if_pos hc3] at h
    exact sm h
  rw [if_neg (by rw [hc3]; decide)] at h
  have g0 : (nI (nums b))[0]? = some (I (hdN b 4 4 : Nat)) := rfl
  have g1 : (nI (nums b))[1]? = some (I (hdN b 8 2 : Nat)) := rfl
  have g2 : (nI (nums b))[2]? = some (I (hdN b 10 4 : Nat)) := rfl
  have l0 := hdN_lt (b := b) (p := 4) (w := 4) (by omega)
  have l1 := hdN_lt (b := b) (p := 8) (w := 2) (by omega)
  have l2 := hdN_lt (b := b) (p := 10) (w := 4) (by omega)
  generalize hdN b 4 4 = a0 at g0 h l0
  generalize hdN b 8 2 = a1 at g1 h l1
  generalize hdN b 10 4 = a2 at g2 h l2
  generalize nI (nums b) = ns at g0 g1 g2 ⊢
  refine E_join1 (n := 3) [v, ptr n6, .bool (decide (4096 ≤ a0 ∨ 64 < a1))] (cel true n6 146 ns :: H) (fun q hq => ?_) ?_
  · refine Dig.E_wdA (n := 0) (by omega) ?_
    refine E_ld' g0 ?_
    refine E_geq ?_
    by_cases h1 : 4096 ≤ a0
    · rw [decide_eq_true (.inl h1)] at hq
      rw [decide_eq_true (show (4096 : Int) ≤ (a0 : Int) by omega)]
      (repeat first | refine gS ?_ | refine gA fun _ => ?_ | refine gX fun _ _ => ?_ | refine gT ?_ | refine gF ?_ | refine gI ?_)
      exact hq
    · have e : decide (4096 ≤ a0 ∨ 64 < a1) = decide ((64 : Int) < (a1 : Int)) := by rw [decide_eq_decide]; omega
      rw [e] at hq
      rw [decide_eq_false (show ¬ (4096 : Int) ≤ (a0 : Int) by omega)]
      refine E_gft ?_
      refine Dig.E_wdA (n := 1) (by omega) ?_
      refine E_gft ?_
      refine E_ld' g1 ?_
      refine E_gft ?_
      refine E_gtr ?_
      refine E_pff ?_
      exact hq
  refine E_fa fun _ => ?_
  refine E_if (fun hc4 => ?_) (fun hc4 => ?_)
  · rw [if_pos hc4] at h
    exact sm h
  rw [if_neg hc4] at h
  refine E_join1 (n := 1) [.bool (decide (b.length < 128 + a2 + 34 * a1))] (cel true n6 146 ns :: H) (fun q hq => ?_) ?_
  · refine Dig.E_wdA (n := 2) (by omega) ?_
    refine E_ld' g2 ?_
    refine E_rslen (v := v) (l := b) ?_
    refine E_subI (by omega) (by omega) ?_
    refine E_gtr ?_
    by_cases h1 : (b.length : Int) - 128 < (a2 : Int)
    · rw [decide_eq_true (show b.length < 128 + a2 + 34 * a1 by omega)] at hq
      rw [decide_eq_true h1]
      (repeat first | refine gS ?_ | refine gA fun _ => ?_ | refine gX fun _ _ => ?_ | refine gT ?_ | refine gF ?_ | refine gI ?_)
      exact hq
    · have e : decide (b.length < 128 + a2 + 34 * a1) = decide ((b.length : Int) - 128 - (a2 : Int) < 34 * (a1 : Int)) := by rw [decide_eq_decide]; omega
      rw [e] at hq
      rw [decide_eq_false h1]
      refine E_gft ?_
      refine Dig.E_wdA (n := 1) (by omega) ?_
      refine E_gft ?_
      refine E_ld' g1 ?_
      refine E_gft ?_
      refine E_mulI (by omega) (by omega) ?_
      refine E_gft ?_
      refine E_gft ?_
      refine E_rslen (v := v) (l := b) ?_
      refine E_gft ?_
      refine E_subI (by omega) (by omega) ?_
      refine E_gft ?_
      refine Dig.E_wdA (n := 2) (by omega) ?_
      refine E_gft ?_
      refine E_ld' g2 ?_
      refine E_gft ?_
      refine E_subI (by omega) (by omega) ?_
      refine E_gft ?_
      refine E_gtr ?_
      refine E_pff ?_
      exact hq
  refine E_fa fun _ => ?_
  refine E_if (fun hc5 => ?_) (fun hc5 => ?_)
  · rw [if_pos hc5] at h
    exact sm h
  · rw [if_neg hc5] at h
    exact sm h
end Go.Proofs.YtmbfmkiagdhcoaaGreat.Pk
end
section
namespace Go.Proofs.YtmbfmkiagdhcoaaGreat.Pk
open Go Go.SL Go.Proofs Go.Proofs.YtmbfmkiagdhcoaaGreat.Sh Go.Proofs.YtmbfmkiagdhcoaaGreat.Oct Go.Proofs.YtmbfmkiagdhcoaaGreat.Disk Go.Proofs.YtmbfmkiagdhcoaaGreat.Slot
def tabS (b : List UInt8) (p : Nat) : List UInt8 := (b.drop p ++ List.replicate 32 0).take 32
theorem tabS_len (b : List UInt8) (p : Nat) : (tabS b p).length = 32 := by simp [tabS]
theorem tabS_in {b : List UInt8} {p : Nat} (h : p + 32 ≤ b.length) : tabS b p = (b.drop p).take 32 := by
  unfold tabS
  rw [List.take_append_of_le_length (by rw [List.length_drop]; omega)]
def tabE (b : List UInt8) (p : Nat) : Nat := hdN b (p + 32) 2
theorem tabE_lt (b : List UInt8) (p : Nat) : tabE b p < 65536 := Nat.lt_of_lt_of_le (ofBe_lt _) (by
  have : 256 ^ ((b.drop (p + 32)).take 2).length ≤ 256 ^ 2 := Nat.pow_le_pow_right (by decide) (by rw [List.length_take]; omega)
  omega)
def rowsL (b : List UInt8) : Nat → Nat → Nat → List Sl
  | 0, _, _ => []
  | n + 1, p, q => ⟨tabS b p, q, tabE b p, tabS_len b p⟩ :: rowsL b n (p + 34) (q + tabE b p)
def okE (s : Sl) : Bool := decide (1 ≤ s.len) && decide (s.len ≤ 512)
def endL (q : Nat) (l : List Sl) : Nat := l.foldl (fun a s => a + s.len) q
theorem endL_cons (q : Nat) (s : Sl) (l : List Sl) : endL q (s :: l) = endL (q + s.len) l := rfl
theorem rows_len (b : List UInt8) : ∀ n p q, (rowsL b n p q).length = n
  | 0, _, _ => rfl
  | n + 1, p, q => by simp [rowsL, rows_len b n]
theorem rows_suc (b : List UInt8) : ∀ n p q, rowsL b (n + 1) p q = rowsL b n p q ++ [⟨tabS b (p + 34 * n), endL q (rowsL b n p q), tabE b (p + 34 * n), tabS_len b _⟩]
  | 0, p, q => by simp [rowsL, endL]
  | n + 1, p, q => by
    have ih := rows_suc b n (p + 34) (q + tabE b p)
    rw [rowsL, ih]
    have e : p + 34 + 34 * n = p + 34 * (n + 1) := by omega
    rw [show rowsL b (n + 1) p q = ⟨tabS b p, q, tabE b p, tabS_len b p⟩ :: rowsL b n (p + 34) (q + tabE b p) from rfl, endL_cons]
    simp only [e, List.cons_append]
theorem endL_snoc (q : Nat) (l : List Sl) (s : Sl) : endL q (l ++ [s]) = endL q l + s.len := by simp [endL]
def parseL (b : List UInt8) : Int × Nat × Nat × List Sl :=
  let n := hdN b 8 2
  let f := 128 + hdN b 10 4
  let l := rowsL b n f 128
  if headE b ≠ 0 then (headE b, 0, 0, []) else if ((crcS ((b.drop f).take (34 * n))).toNat : Nat) ≠ hdN b 14 4 then (5, 0, 0, []) else
  if l.all okE = false then (2, 0, 0, []) else if endL 128 l ≠ f then (4, 0, 0, []) else (0, hdN b 4 4, (f + 34 * n + 127) / 128, l)
theorem headE_0 {b : List UInt8} (h : headE b = 0) : 128 ≤ b.length ∧ hdN b 4 4 < 4096 ∧ hdN b 8 2 ≤ 64 ∧ 128 + hdN b 10 4 + 34 * hdN b 8 2 ≤ b.length := by
  unfold headE at h
  split at h
  · cases h
  split at h
  · cases h
  split at h
  · cases h
  split at h
  · cases h
  split at h
  · cases h
  split at h
  · cases h
  · omega
def chunkL (b : List UInt8) (s : Sl) : Int × List UInt8 :=
  if s.len < 1 ∨ 512 < s.len then (2, []) else if b.length < s.pos + s.len then (3, []) else
  if Dig.sum ((b.drop s.pos).take s.len) = s.sum then (0, (b.drop s.pos).take s.len) else (13, [])
section
variable {id wd : Nat} {L : Ch}
theorem img_split (id : Nat) (L : Ch) : ∃ z, imgL id L = headL id L ++ (List.replicate 106 0 ++ (L.flatten ++ (tableL L ++ z))) := ⟨List.replicate ((128 - (bodyL id L).length % 128) % 128) 0, by
  unfold imgL
  generalize List.replicate ((128 - (bodyL id L).length % 128) % 128) (0 : UInt8) = z
  unfold bodyL
  simp only [List.append_assoc]⟩
theorem img_len (id : Nat) (L : Ch) : (imgL id L).length % 128 = 0 ∧ 128 + L.flatten.length + 34 * L.length ≤ (imgL id L).length ∧ (imgL id L).length < 128 + L.flatten.length + 34 * L.length + 128 := by
  have h := body_len id L
  unfold imgL
  rw [List.length_append, List.length_replicate]
  omega
theorem hd_at {a m z : List UInt8} {p w n : Nat} (ha : a.length = p) (hn : n < 256 ^ w) (hm : m = be n w) : hdN (a ++ (m ++ z)) p w = n := by
  unfold hdN
  rw [List.drop_append_of_le_length (by omega), List.drop_of_length_le (by omega), List.nil_append, hm, List.take_append_of_le_length (by rw [be_length]; omega), List.take_of_length_le (by rw [be_length]; omega), ofBe_be _ _ hn]
theorem headL_eq (id : Nat) (L : Ch) : headL id L = [66, 73, 78, 49] ++ (be id 4 ++ (be L.length 2 ++ (be L.flatten.length 4 ++ (be (crcS (tableL L)).toNat 4 ++ be (crcS (headA id L)).toNat 4)))) := by
  unfold headL
  conv => lhs; lhs; unfold headA
  simp [fixL]
theorem crc_pow (l : List UInt8) : (crcS l).toNat < 256 ^ 4 := (crcS l).isLt
theorem img_nums (hp : POk id wd L) : hdN (imgL id L) 4 4 = id ∧ hdN (imgL id L) 8 2 = L.length ∧ hdN (imgL id L) 10 4 = L.flatten.length ∧ hdN (imgL id L) 14 4 = (crcS (tableL L)).toNat ∧ hdN (imgL id L) 18 4 = (crcS (headA id L)).toNat := by
  obtain ⟨p1, p2, p3, p4, p5, p6⟩ := hp
  obtain ⟨z, hz⟩ := img_split id L
  rw [hz, headL_eq]
  generalize hy : List.replicate 106 0 ++ (L.flatten ++ (tableL L ++ z)) = y
  clear hz hy z
  generalize hA : ([66, 73, 78, 49] : List UInt8) = A
  have hAl : A.length = 4 := by rw [← hA]; rfl
  refine ⟨?_, ?_, ?_, ?_, ?_⟩
  · have := hd_at (a := A) (m := be id 4) (z := (be L.length 2 ++ (be L.flatten.length 4 ++ (be (crcS (tableL L)).toNat 4 ++ be (crcS (headA id L)).toNat 4))) ++ y) hAl (w := 4) (show id < 256 ^ 4 by omega) rfl
    simpa [List.append_assoc] using this
  · have := hd_at (a := A ++ be id 4) (m := be L.length 2) (z := (be L.flatten.length 4 ++ (be (crcS (tableL L)).toNat 4 ++ be (crcS (headA id L)).toNat 4)) ++ y) (p := 8) (by simp [hAl, be_length]) (w := 2) (show L.length < 256 ^ 2 by omega) rfl
    simpa [List.append_assoc] using this
  · have := hd_at (a := A ++ be id 4 ++ be L.length 2) (m := be L.flatten.length 4) (z := (be (crcS (tableL L)).toNat 4 ++ be (crcS (headA id L)).toNat 4) ++ y) (p := 10) (by simp [hAl, be_length]) (w := 4) (show L.flatten.length < 256 ^ 4 by omega) rfl
    simpa [List.append_assoc] using this
  · have := hd_at (a := A ++ be id 4 ++ be L.length 2 ++ be L.flatten.length 4) (m := be (crcS (tableL L)).toNat 4) (z := be (crcS (headA id L)).toNat 4 ++ y) (p := 14) (by simp [hAl, be_length]) (w := 4) (crc_pow _) rfl
    simpa [List.append_assoc] using this
  · have := hd_at (a := A ++ be id 4 ++ be L.length 2 ++ be L.flatten.length 4 ++ be (crcS (tableL L)).toNat 4) (m := be (crcS (headA id L)).toNat 4) (z := y) (p := 18) (by simp [hAl, be_length]) (w := 4) (crc_pow _) rfl
    simpa [List.append_assoc] using this
theorem img_head (hp : POk id wd L) : headE (imgL id L) = 0 := by
  obtain ⟨n1, n2, n3, n4, n5⟩ := img_nums hp
  have hl := img_len id L
  obtain ⟨z, hz⟩ := img_split id L
  have hhl := headL_len id L
  have hal := headA_len id L
  have t4 : (imgL id L).take 4 = [66, 73, 78, 49] := by rw [hz, headL_eq]; rfl
  have t18 : (imgL id L).take 18 = headA id L := by
    rw [hz]
    unfold headL
    rw [List.append_assoc, List.take_append_of_le_length (by omega), List.take_of_length_le (by omega)]
  have t22 : ((imgL id L).drop 22).take 106 = List.replicate 106 0 := by
    rw [hz, List.drop_append_of_le_length (by omega), List.drop_of_length_le (by omega), List.nil_append, List.take_append_of_le_length (by simp), List.take_of_length_le (by simp)]
  unfold headE
  rw [n1, n2, n3, n5, t4, t18, t22, if_neg (by omega), if_neg (by simp), if_neg (by simp), if_neg (by rw [Bool.not_eq_true, List.any_eq_false]; intro x hx; rw [List.eq_of_mem_replicate hx]; simp), if_neg (by have := hp.idl; have := hp.num; omega), if_neg (by omega)]
theorem img_drop (id : Nat) (L : Ch) : ∃ z, (imgL id L).drop (128 + L.flatten.length) = tableL L ++ z := by
  obtain ⟨z, hz⟩ := img_split id L
  have hhl := headL_len id L
  refine ⟨z, ?_⟩
  rw [hz, ← List.append_assoc, ← List.append_assoc, List.drop_append_of_le_length (by simp [hhl]; omega), List.drop_of_length_le (by simp [hhl]; omega), List.nil_append]
theorem rows_img : ∀ (L : Ch) (b z : List UInt8) (p q : Nat), (∀ c ∈ L, c.length ≤ 512) → b.drop p = tableL L ++ z → rowsL b L.length p q = slotsL q L
  | [], _, _, _, _, _, _ => rfl
  | c :: L, b, z, p, q, hc, h => by
    have hcl := hc c (List.mem_cons_self ..)
    have hsl := Dig.sum_len c
    have e1 : b.drop p = Dig.sum c ++ (be c.length 2 ++ (tableL L ++ z)) := by rw [h]; simp [tableL, List.append_assoc]
    have hbl : 34 ≤ (b.drop p).length := by rw [e1]; simp [hsl, be_length]; omega
    rw [List.length_drop] at hbl
    have eS : tabS b p = Dig.sum c := by rw [tabS_in (by omega), e1, List.take_append_of_le_length (by omega), List.take_of_length_le (by omega)]
    have d32 : b.drop (p + 32) = be c.length 2 ++ (tableL L ++ z) := by
      rw [← List.drop_drop, e1, List.drop_append_of_le_length (by omega), List.drop_of_length_le (by omega), List.nil_append]
    have eE : tabE b p = c.length := by
      unfold tabE hdN
      rw [d32, List.take_append_of_le_length (by rw [be_length]; omega), List.take_of_length_le (by rw [be_length]; omega), ofBe_be _ _ (by omega)]
    have d34 : b.drop (p + 34) = tableL L ++ z := by
      rw [show p + 34 = p + 32 + 2 by omega, ← List.drop_drop, d32, List.drop_append_of_le_length (by rw [be_length]; omega), List.drop_of_length_le (by rw [be_length]; omega), List.nil_append]
    rw [List.length_cons, rowsL, slotsL, eE, rows_img L b z (p + 34) (q + c.length) (fun x hx => hc x (List.mem_cons_of_mem _ hx)) d34]
    congr 1
    exact Sl.ext eS rfl rfl
theorem slots_end (q : Nat) (L : Ch) : endL q (slotsL q L) = q + L.flatten.length := by
  induction L generalizing q with
  | nil => simp [slotsL, endL]
  | cons c L ih => rw [slotsL, endL_cons, ih]; simp; omega
theorem parse_img (hp : POk id wd L) : parseL (imgL id L) = (0, id, (imgL id L).length / 128, slotsL 128 L) := by
  obtain ⟨n1, n2, n3, n4, n5⟩ := img_nums hp
  have hl := img_len id L
  obtain ⟨z, hz⟩ := img_drop id L
  have ht := table_len L
  have hr := rows_img L (imgL id L) z (128 + L.flatten.length) 128 (fun c hc => (hp.ch c hc).2) hz
  unfold parseL
  simp only [n1, n2, n3, n4, img_head hp, hr]
  have hall : (slotsL 128 L).all okE = true := by
    rw [List.all_eq_true]
    intro s hs
    obtain ⟨i, hi, rfl⟩ := List.mem_iff_getElem.1 hs
    rw [slots_len] at hi
    obtain ⟨q, hq⟩ := slots_get (p := 128) (List.getElem?_eq_getElem hi)
    have hi' : i < (slotsL 128 L).length := by rw [slots_len]; exact hi
    rw [List.getElem?_eq_getElem hi', Option.some.injEq] at hq
    rw [hq]
    have := hp.ch _ (List.getElem_mem hi)
    simp [okE, this]
  have hE := slots_end 128 L
  rw [if_neg (by simp), hz, List.take_append_of_le_length (by omega), List.take_of_length_le (by omega), if_neg (by simp), if_neg (by rw [hall]; decide), if_neg (by rw [hE]; simp)]
  congr 3
  omega
theorem slots_at : ∀ (L : Ch) (q i : Nat) (c : List UInt8), L[i]? = some c → (slotsL q L)[i]? = some ⟨Dig.sum c, q + (L.take i).flatten.length, c.length, Dig.sum_len c⟩
  | [], _, _, _, h => by simp at h
  | d :: L, q, 0, c, h => by simp at h; subst h; simp [slotsL]
  | d :: L, q, i + 1, c, h => by
    have := slots_at L (q + d.length) i c (by simpa using h)
    simp only [slotsL, List.getElem?_cons_succ, this, List.take_succ_cons, List.flatten_cons, List.length_append]
    rw [Nat.add_assoc]
theorem flat_at : ∀ (L : Ch) (i : Nat) (c : List UInt8), L[i]? = some c → (L.flatten.drop (L.take i).flatten.length).take c.length = c ∧ (L.take i).flatten.length + c.length ≤ L.flatten.length
  | [], _, _, h => by simp at h
  | d :: L, 0, c, h => by simp at h; subst h; simp
  | d :: L, i + 1, c, h => by
    obtain ⟨h1, h2⟩ := flat_at L i c (by simpa using h)
    simp only [List.take_succ_cons, List.flatten_cons, List.length_append]
    refine ⟨?_, by omega⟩
    rw [List.drop_append, List.drop_of_length_le (by omega), List.nil_append, show d.length + (L.take i).flatten.length - d.length = (L.take i).flatten.length by omega]
    exact h1
theorem chunk_img (hp : POk id wd L) {i : Nat} {c : List UInt8} (h : L[i]? = some c) : ∃ s, (slotsL 128 L)[i]? = some s ∧ chunkL (imgL id L) s = (0, c) := by
  refine ⟨_, slots_at L 128 i c h, ?_⟩
  obtain ⟨h1, h2⟩ := flat_at L i c h
  have hl := img_len id L
  have hc := hp.ch c (List.mem_of_getElem? h)
  have hhl := headL_len id L
  obtain ⟨z, hz⟩ := img_split id L
  have e : ((imgL id L).drop (128 + (L.take i).flatten.length)).take c.length = c := by
    rw [hz, ← List.append_assoc, List.drop_append, List.drop_of_length_le (by simp [hhl]), List.nil_append, List.length_append, hhl, List.length_replicate, show 128 + (L.take i).flatten.length - (22 + 106) = (L.take i).flatten.length by omega, List.drop_append_of_le_length (by omega), List.take_append_of_le_length (by rw [List.length_drop]; omega)]
    exact h1
  unfold chunkL
  simp only [e]
  rw [if_neg (by omega), if_neg (by omega), if_pos trivial]
end
end Go.Proofs.YtmbfmkiagdhcoaaGreat.Pk
end
section
namespace Go.Proofs.YtmbfmkiagdhcoaaGreat.Bn
open Go Go.SL Go.Proofs Go.Proofs.YtmbfmkiagdhcoaaGreat.Sh Go.Proofs.YtmbfmkiagdhcoaaGreat.Oct Go.Proofs.YtmbfmkiagdhcoaaGreat.Disk Go.Proofs.YtmbfmkiagdhcoaaGreat.Slot Go.Proofs.YtmbfmkiagdhcoaaGreat.Pk Go.Proofs.YtmbfmkiagdhcoaaGreat.Ext
structure Pc where
  bin : Nat
  pos : Nat
  n : Nat
def Pc.has (p : Pc) (x : Nat) : Prop := p.pos ≤ x ∧ x < p.pos + p.n
structure Shf where
  D : Dk
  f : Nat
  T : List Bool
  R : List Rn
  P : List Pc
def Shf.t (S : Shf) : Nat := S.f + S.T.length
def known (P : List Pc) (b : Int) : Option Pc := P.find? fun p => decide ((p.bin : Int) = b)
def putP : List Pc → Pc → List Pc
  | [], p => [p]
  | q :: P, p => if q.bin < p.bin then q :: putP P p else p :: q :: P
def posP : List Pc → Int → Nat
  | [], _ => 0
  | q :: P, b => if (q.bin : Int) < b then posP P b + 1 else 0
def Srt (P : List Pc) : Prop := P.Pairwise fun p q => p.bin < q.bin
theorem put_perm : ∀ (P : List Pc) (p : Pc), (putP P p).Perm (p :: P)
  | [], _ => .refl _
  | q :: P, p => by
    unfold putP
    split
    · exact ((put_perm P p).cons q).trans (.swap ..)
    · exact .refl _
theorem mem_put {P : List Pc} {p x : Pc} : x ∈ putP P p ↔ x = p ∨ x ∈ P := by rw [(put_perm P p).mem_iff, List.mem_cons]
theorem pos_le : ∀ (P : List Pc) (b : Int), posP P b ≤ P.length
  | [], _ => Nat.le_refl _
  | q :: P, b => by
    unfold posP
    have := pos_le P b
    split <;> simp <;> omega
theorem known_none {P : List Pc} {b : Int} (h : known P b = none) : ∀ p ∈ P, (p.bin : Int) ≠ b := fun p hp => by
  have := List.find?_eq_none.1 h p hp
  simpa using this
theorem known_some {P : List Pc} {b : Int} {p : Pc} (h : known P b = some p) : p ∈ P ∧ (p.bin : Int) = b := ⟨List.mem_of_find?_eq_some h, by simpa using List.find?_some h⟩
theorem put_sort : ∀ {P : List Pc} {p : Pc}, Srt P → (∀ q ∈ P, (q.bin : Int) ≠ p.bin) → Srt (putP P p)
  | [], _, _, _ => List.pairwise_singleton ..
  | q :: P, p, hs, hn => by
    have h2 := List.pairwise_cons.1 hs
    unfold putP
    have hq := hn q (List.mem_cons_self ..)
    by_cases h : q.bin < p.bin
    · rw [if_pos h]
      refine List.pairwise_cons.2 ⟨fun x hx => ?_, put_sort h2.2 fun y hy => hn y (List.mem_cons_of_mem _ hy)⟩
      rcases mem_put.1 hx with rfl | hx
      · exact h
      · exact h2.1 x hx
    · rw [if_neg h]
      refine List.pairwise_cons.2 ⟨fun x hx => ?_, hs⟩
      rcases List.mem_cons.1 hx with rfl | hx
      · omega
      · have := h2.1 x hx; omega
def delP (P : List Pc) (b : Int) : List Pc := P.filter fun p => decide ((p.bin : Int) ≠ b)
def chunks (b : List UInt8) (n : Nat) : List (List UInt8) := (List.range n).map fun i => (b.drop (128 * i)).take 128
def wrS : Dk → Int → List (List UInt8) → Dk × Int
  | D, _, [] => (D, 0)
  | D, a, c :: cs => if D.wrE a c ≠ 0 then (D.wr a c, D.wrE a c) else wrS (D.wr a c) (a + 1) cs
def rdE (D : Dk) (a : Int) (n : Nat) : Int := (((List.range n).map fun j : Nat => D.pow (a + (j : Int))).find? fun e => decide (e ≠ 0)).getD 0
def rdB (D : Dk) (a : Int) (n : Nat) : List UInt8 := (List.range n).flatMap fun j : Nat => D.rd (a + (j : Int))
def takeN (S : Shf) (n : Nat) : Shf := { S with T := takeT S.f S.T S.R n, R := (takeV S.R n).2.2 }
def giveN (S : Shf) (x n : Int) : Shf := { S with T := (giveT S.f S.T x n).2, R := (giveV S.f (S.f + S.T.length) S.R x n).2 }
abbrev Tri := Int × Int × Int
def sealV (S : Shf) (id : Nat) (L : Ch) : Tri × Int × Shf :=
  if S.D.down = true then ((0, 0, 0), 7, S) else if L = [] then ((0, 0, 0), 2, S) else if (known S.P id).isSome = true then ((0, 0, 0), 10, S) else
  let n := (imgL id L).length / 128
  let a := (takeV S.R n).1
  if (takeV S.R n).2.1 ≠ 0 then ((0, 0, 0), (takeV S.R n).2.1, takeN S n) else
  let w := wrS S.D a (chunks (imgL id L) n)
  if w.2 ≠ 0 then ((0, 0, 0), w.2, { giveN (takeN S n) a n with D := w.1 }) else
  (((id : Int), a, (n : Int)), 0, { takeN S n with D := w.1, P := putP S.P ⟨id, a.toNat, n⟩ })
def freeS (S : Shf) (b : Int) : Int × Shf := match known S.P b with
  | none => (9, S)
  | some p => (0, { giveN S p.pos p.n with P := delP S.P b })
abbrev Par := Nat × Nat × List Sl
def wholeV (S : Shf) (b : Int) : Int × List UInt8 × Par := match known S.P b with
  | none => (9, [], 0, 0, [])
  | some p => if rdE S.D p.pos p.n ≠ 0 then (rdE S.D p.pos p.n, [], 0, 0, []) else
    if (parseL (rdB S.D p.pos p.n)).1 ≠ 0 ∨ ((parseL (rdB S.D p.pos p.n)).2.1 : Int) ≠ b then (13, [], 0, 0, []) else (0, rdB S.D p.pos p.n, (parseL (rdB S.D p.pos p.n)).2)
def chunkV (S : Shf) (b i : Int) : Int × List UInt8 :=
  if (wholeV S b).1 ≠ 0 then ((wholeV S b).1, []) else
  if i < 0 ∨ ((wholeV S b).2.2.2.2.length : Int) ≤ i then (9, []) else match (wholeV S b).2.2.2.2[i.toNat]? with
  | none => (9, [])
  | some s => if (chunkL (wholeV S b).2.1 s).1 ≠ 0 then (13, []) else (0, (chunkL (wholeV S b).2.1 s).2)
def freshN (P : List Pc) : Int := match (List.range 4096).find? fun n : Nat => (known P (n : Int)).isNone with
  | some n => n
  | none => -1
def usedN (P : List Pc) : Nat := P.foldl (fun a p => a + p.n) 0
structure Inv (S : Shf) : Prop where
  rel : Rel S.f S.T S.R
  le : S.f + S.T.length ≤ 4096
  sort : Srt S.P
  pc : ∀ p ∈ S.P, p.bin < 4096 ∧ 2 ≤ p.n ∧ p.n ≤ 64 ∧ S.f ≤ p.pos ∧ p.pos + p.n ≤ S.f + S.T.length
  free : ∀ p ∈ S.P, ∀ x, p.has x → ¬ In S.R x
  apart : ∀ p ∈ S.P, ∀ q ∈ S.P, p.bin ≠ q.bin → ∀ x, p.has x → ¬ q.has x
theorem Inv.xok {S : Shf} (h : Inv S) : XOk S.f (S.f + S.T.length) S.R := rel_ok h.rel h.le
theorem take_ok {S : Shf} (h : Inv S) {n : Nat} (hn : 1 ≤ n) (h0 : (takeV S.R n).2.1 = 0) : ∃ a : Nat, (takeV S.R n).1 = (a : Int) ∧ S.f ≤ a ∧ a + n ≤ S.f + S.T.length ∧ (∀ x, a ≤ x → x < a + n → In S.R x) ∧ ∀ x, In (takeV S.R n).2.2 x ↔ In S.R x ∧ ¬ (a ≤ x ∧ x < a + n) := by
  unfold takeV at h0 ⊢
  rw [if_neg (by omega)] at h0 ⊢
  cases ho : takeO S.R n with
  | none => rw [ho] at h0; cases h0
  | some i =>
    obtain ⟨hi, hb, _⟩ := List.findIdx?_eq_some_iff_getElem.1 ho
    have hx : S.R[i]? = some S.R[i] := List.getElem?_eq_getElem hi
    have eg : S.R.getD i (0, 0) = S.R[i] := by rw [List.getD_eq_getElem?_getD, hx]; rfl
    have hn' : n ≤ S.R[i].2 := by
      have : (n : Int) ≤ (S.R[i].2 : Int) := by simpa using hb
      omega
    have hm := h.rel.canon.mem (List.getElem_mem hi)
    have ht := h.rel.top (List.getElem_mem hi)
    simp only [eg]
    exact ⟨S.R[i].1, rfl, hm.1, by omega, fun x h1 h2 => ⟨_, List.getElem_mem hi, h1, by omega⟩, cut_in h.rel.canon hx (Nat.le_refl _) (by omega)⟩
theorem take_no {R : List Rn} {n : Nat} (hn : 1 ≤ n) (h0 : (takeV R n).2.1 ≠ 0) : (takeV R n).2.1 = 8 := by
  unfold takeV at h0 ⊢
  rw [if_neg (by omega)] at h0 ⊢
  cases ho : takeO R n with
  | none => rfl
  | some i => rw [ho] at h0; exact absurd rfl h0
theorem take_sub {R : List Rn} {n : Nat} {f : Nat} {T : List Bool} (h : Rel f T R) {x : Nat} (hx : In (takeV R n).2.2 x) : In R x := by
  unfold takeV at hx
  split at hx
  · exact hx
  · split at hx
    · rename_i i ho
      obtain ⟨hi, hb, _⟩ := List.findIdx?_eq_some_iff_getElem.1 ho
      have hxi : R[i]? = some R[i] := List.getElem?_eq_getElem hi
      have eg : R.getD i (0, 0) = R[i] := by rw [List.getD_eq_getElem?_getD, hxi]; rfl
      have hn' : (n : Int) ≤ (R[i].2 : Int) := by simpa using hb
      simp only [eg] at hx
      exact ((cut_in h.canon hxi (Nat.le_refl _) (by omega) x).1 hx).1
    · exact hx
theorem Inv.take {S : Shf} (h : Inv S) (n : Nat) : Inv (takeN S n) := by
  obtain ⟨r1, r2⟩ := rel_take h.rel n
  refine ⟨r1, by simp only [takeN]; rw [r2]; exact h.le, h.sort, fun p hp => ?_, fun p hp x hx hi => h.free p hp x hx (take_sub h.rel hi), h.apart⟩
  simp only [takeN]
  rw [r2]
  exact h.pc p hp
theorem give_sub {f t : Nat} {R : List Rn} {x n : Int} {y : Nat} (hy : In (giveV f t R x n).2 y) : In R y ∨ (x ≤ (y : Int) ∧ (y : Int) < x + n) := by
  unfold giveV at hy
  split at hy
  · exact .inl hy
  · rename_i hw
    obtain ⟨w1, w2, w3, w4⟩ := wI_of (by simpa using hw : wI f t x n = true)
    split at hy
    · exact .inl hy
    · rcases (give_in R _ _ y).1 hy with h | h
      · exact .inl h
      · right; omega
theorem Inv.give {S : Shf} (h : Inv S) {x n : Int} (hd : ∀ p ∈ S.P, ∀ y : Nat, p.has y → ¬ (x ≤ (y : Int) ∧ (y : Int) < x + n)) : Inv (giveN S x n) := by
  obtain ⟨r1, r2, _⟩ := rel_giveV h.rel x n
  refine ⟨r1, by simp only [giveN]; rw [r2]; exact h.le, h.sort, fun p hp => ?_, fun p hp y hy hi => ?_, h.apart⟩
  · simp only [giveN]
    rw [r2]
    exact h.pc p hp
  · rcases give_sub hi with h' | h'
    · exact h.free p hp y hy h'
    · exact hd p hp y hy h'
theorem Inv.dk {S : Shf} (h : Inv S) (D : Dk) : Inv { S with D := D } := ⟨h.rel, h.le, h.sort, h.pc, h.free, h.apart⟩
theorem Inv.put {S : Shf} (h : Inv S) {p : Pc} (hn : ∀ q ∈ S.P, (q.bin : Int) ≠ p.bin) (hp : p.bin < 4096 ∧ 2 ≤ p.n ∧ p.n ≤ 64 ∧ S.f ≤ p.pos ∧ p.pos + p.n ≤ S.f + S.T.length) (hf : ∀ x, p.has x → ¬ In S.R x) (ha : ∀ q ∈ S.P, ∀ x, p.has x → ¬ q.has x) : Inv { S with P := putP S.P p } := by
  refine ⟨h.rel, h.le, put_sort h.sort hn, fun q hq => ?_, fun q hq => ?_, ?_⟩
  · rcases mem_put.1 hq with rfl | hq
    · exact hp
    · exact h.pc q hq
  · rcases mem_put.1 hq with rfl | hq
    · exact hf
    · exact h.free q hq
  · intro a ha1 b hb1 hne x hxa hxb
    rcases mem_put.1 ha1 with rfl | ha2
    · rcases mem_put.1 hb1 with rfl | hb2
      · exact hne rfl
      · exact ha b hb2 x hxa hxb
    · rcases mem_put.1 hb1 with rfl | hb2
      · exact ha a ha2 x hxb hxa
      · exact h.apart a ha2 b hb2 hne x hxa hxb
theorem img_n {id wd : Nat} {L : Ch} (hp : POk id wd L) (hL : L ≠ []) : 2 ≤ (imgL id L).length / 128 ∧ (imgL id L).length / 128 ≤ 64 ∧ (imgL id L).length / 128 * 128 = (imgL id L).length := by
  obtain ⟨h1, h2, h3⟩ := img_len id L
  have h4 := hp.fit
  have h5 := hp.hi
  have h6 : 1 ≤ L.length := by
    cases L with
    | nil => exact absurd rfl hL
    | cons => simp
  omega
theorem Inv.sealS {S : Shf} (h : Inv S) {id wd : Nat} {L : Ch} (hp : POk id wd L) : Inv (sealV S id L).2.2 := by
  unfold sealV
  split
  · exact h
  split
  · exact h
  rename_i hL
  obtain ⟨n1, n2, n3⟩ := img_n hp hL
  split
  · exact h
  rename_i hk
  have hk' : known S.P id = none := by simpa using hk
  dsimp only
  generalize (imgL id L).length / 128 = n at n1 n2 n3
  split
  · exact h.take n
  rename_i h0
  obtain ⟨a, a1, a2, a3, a4, a5⟩ := take_ok h (n := n) (by omega) (by simpa using h0)
  obtain ⟨r1, r2⟩ := rel_take h.rel (n := n)
  rw [a1]
  split
  · refine ((h.take n).give (x := a) (n := n) fun q hq y hy hh => ?_).dk _
    exact h.free q hq y hy (a4 y (by omega) (by omega))
  · refine ((h.take n).put (p := ⟨id, a, n⟩) (fun q hq => ?_) ?_ (fun y hy => ?_) fun q hq y hy hq' => ?_).dk _
    · exact known_none hk' q hq
    · simp only [takeN]
      rw [r2]
      exact ⟨hp.idl, n1, n2, a2, a3⟩
    · simp only [takeN]
      rw [a5 y]
      exact fun h' => h'.2 hy
    · exact h.free q hq y hq' (a4 y hy.1 hy.2)
end Go.Proofs.YtmbfmkiagdhcoaaGreat.Bn
end
section
namespace Go.Proofs.YtmbfmkiagdhcoaaGreat.Bn
open Go Go.SL Go.Proofs Go.Proofs.YtmbfmkiagdhcoaaGreat.Sh Go.Proofs.YtmbfmkiagdhcoaaGreat.Oct Go.Proofs.YtmbfmkiagdhcoaaGreat.Disk Go.Proofs.YtmbfmkiagdhcoaaGreat.Slot Go.Proofs.YtmbfmkiagdhcoaaGreat.Pk Go.Proofs.YtmbfmkiagdhcoaaGreat.Ext
def nowAt (D : Dk) (y : Nat) : Option (List UInt8) := (D.S[y]?).map Sec.now
structure Fit (D : Dk) : Prop where
  dn : D.down = false
  tr : D.trip = 0
theorem wr_fit {D : Dk} (h : Fit D) {y : Nat} (hy : y < D.S.length) {c : List UInt8} (hc : c.length = 128) : D.wrE y c = 0 ∧ Fit (D.wr y c) ∧ (D.wr y c).S.length = D.S.length ∧ nowAt (D.wr y c) y = some c ∧ ∀ z, z ≠ y → (D.wr y c).S[z]? = D.S[z]? := by
  have hp : D.pow y = 0 := by
    unfold Dk.pow
    rw [if_neg (by rw [h.dn]; decide), if_neg (by unfold Dk.out; omega)]
  have hs : D.S[y]? = some D.S[y] := List.getElem?_eq_getElem hy
  have e : D.wr y c = D.tick.setS y fun s => { s with last := some (pad c) } := by
    unfold Dk.wr
    rw [if_neg (by rw [hp]; decide), if_neg (by omega), if_neg (by rw [h.tr]; decide), Int.toNat_natCast]
  have hpad : pad c = c := by simp [pad, hc]
  refine ⟨by unfold Dk.wrE; rw [if_neg (by rw [hp]; decide), if_neg (by omega), if_neg (by rw [h.tr]; decide)], ⟨by rw [e]; exact h.dn, by rw [e]; simp only [Dk.setS, Dk.tick, h.tr]; decide⟩, by rw [e]; simp [Dk.setS, Dk.tick], ?_, fun z hz => ?_⟩
  · rw [e]
    unfold nowAt
    simp [Dk.setS, Dk.tick, List.getElem?_modify, hs, Sec.now, hpad]
  · rw [e]
    simp only [Dk.setS, Dk.tick]
    rw [List.getElem?_modify_ne _ _ (Ne.symm hz)]
theorem wrS_fit : ∀ (cs : List (List UInt8)) {D : Dk} (_ : Fit D) {a : Nat} (_ : a + cs.length ≤ D.S.length) (_ : ∀ c ∈ cs, c.length = 128),
    (wrS D a cs).2 = 0 ∧ Fit (wrS D a cs).1 ∧ (wrS D a cs).1.S.length = D.S.length ∧ (∀ j c, cs[j]? = some c → nowAt (wrS D a cs).1 (a + j) = some c) ∧ ∀ z, (z < a ∨ a + cs.length ≤ z) → (wrS D a cs).1.S[z]? = D.S[z]?
  | [], D, h, a, _, _ => ⟨rfl, h, rfl, fun j c hj => by simp at hj, fun _ _ => rfl⟩
  | c :: cs, D, h, a, hl, hc => by
    rw [List.length_cons] at hl
    obtain ⟨w1, w2, w3, w4, w5⟩ := wr_fit h (y := a) (by omega) (hc c (List.mem_cons_self ..))
    obtain ⟨i1, i2, i3, i4, i5⟩ := wrS_fit cs w2 (a := a + 1) (by omega) fun x hx => hc x (List.mem_cons_of_mem _ hx)
    have e : wrS D a (c :: cs) = wrS (D.wr a c) ((a + 1 : Nat) : Int) cs := by
      rw [wrS, if_neg (by rw [w1]; decide)]; rfl
    rw [e]
    refine ⟨i1, i2, i3.trans w3, fun j d hj => ?_, fun z hz => ?_⟩
    · cases j with
      | zero =>
        simp only [List.getElem?_cons_zero, Option.some.injEq] at hj
        subst hj
        rw [← w4]
        unfold nowAt
        rw [i5 (a + 0) (by omega)]
        rfl
      | succ j =>
        rw [show a + (j + 1) = a + 1 + j by omega]
        exact i4 j d (by simpa using hj)
    · rw [i5 z (by rw [List.length_cons] at hz; omega), w5 z (by rw [List.length_cons] at hz; omega)]
def Lies (D : Dk) (a n : Nat) (b : List UInt8) : Prop := ∀ j, j < n → nowAt D (a + j) = some ((b.drop (128 * j)).take 128)
theorem chunk_flat (b : List UInt8) : ∀ n, b.length = 128 * n → (List.range n).flatMap (fun j => (b.drop (128 * j)).take 128) = b := fun n h => by
  have key : ∀ k, k ≤ n → (List.range k).flatMap (fun j => (b.drop (128 * j)).take 128) = b.take (128 * k) := fun k => by
    induction k with
    | zero => intro; simp
    | succ k ih =>
      intro hk
      rw [List.range_succ, List.flatMap_append, ih (by omega), show 128 * (k + 1) = 128 * k + 128 by omega, List.take_add]
      simp
  rw [key n (Nat.le_refl _), ← h, List.take_length]
theorem lies_rd {D : Dk} (h : Fit D) {a n : Nat} {b : List UInt8} (hl : Lies D a n b) (hb : b.length = 128 * n) : rdE D a n = 0 ∧ rdB D a n = b := by
  have hp : ∀ j, j < n → D.pow ((a : Int) + (j : Int)) = 0 ∧ D.rd ((a : Int) + (j : Int)) = (b.drop (128 * j)).take 128 := fun j hj => by
    have := hl j hj
    unfold nowAt at this
    obtain ⟨s, hs, he⟩ := Option.map_eq_some_iff.1 this
    have hlt := (List.getElem?_eq_some_iff.1 hs).1
    have hp : D.pow ((a : Int) + (j : Int)) = 0 := by
      unfold Dk.pow
      rw [if_neg (by rw [h.dn]; decide), if_neg (by unfold Dk.out; omega)]
    refine ⟨hp, ?_⟩
    unfold Dk.rd
    rw [if_neg (by rw [hp]; decide), show ((a : Int) + (j : Int)).toNat = a + j by omega, hs]
    exact he
  refine ⟨?_, ?_⟩
  · unfold rdE
    rw [List.find?_eq_none.2]
    · rfl
    · intro x hx
      obtain ⟨j, hj, rfl⟩ := List.mem_map.1 hx
      rw [(hp j (List.mem_range.1 hj)).1]; simp
  · have e : (List.range n).flatMap (fun j : Nat => D.rd ((a : Int) + (j : Int))) = (List.range n).flatMap fun j => (b.drop (128 * j)).take 128 := by
      rw [List.flatMap_def, List.flatMap_def, List.map_congr_left fun j hj => (hp j (List.mem_range.1 hj)).2]
    unfold rdB
    rw [e, chunk_flat b n hb]
theorem known_put_ne : ∀ {P : List Pc} {q : Pc} {b : Int}, (q.bin : Int) ≠ b → known (putP P q) b = known P b
  | [], q, b, h => by
    unfold putP known
    rw [List.find?_cons_of_neg (by simpa using h)]
  | x :: P, q, b, h => by
    have ih := known_put_ne (P := P) h
    unfold known at ih
    unfold putP known
    split
    · by_cases hx : (x.bin : Int) = b
      · rw [List.find?_cons_of_pos (by simpa using hx), List.find?_cons_of_pos (by simpa using hx)]
      · rw [List.find?_cons_of_neg (by simpa using hx), List.find?_cons_of_neg (by simpa using hx), ih]
    · rw [List.find?_cons_of_neg (by simpa using h)]
theorem known_put_eq : ∀ {P : List Pc} {q : Pc}, known P q.bin = none → known (putP P q) q.bin = some q
  | [], q, h => by
    unfold putP known
    rw [List.find?_cons_of_pos (by simp)]
  | x :: P, q, h => by
    have hx := known_none h x (List.mem_cons_self ..)
    have h' : known P q.bin = none := by
      unfold known at h ⊢
      rw [List.find?_cons_of_neg (by simpa using hx)] at h
      exact h
    have ih := known_put_eq h'
    unfold known at ih
    unfold putP known
    split
    · rw [List.find?_cons_of_neg (by simpa using hx), ih]
    · rw [List.find?_cons_of_pos (by simp)]
theorem known_del_ne : ∀ {P : List Pc} {c b : Int}, c ≠ b → known (delP P c) b = known P b
  | [], _, _, _ => rfl
  | x :: P, c, b, h => by
    have ih := known_del_ne (P := P) h
    unfold known delP at ih
    unfold known delP
    by_cases hc : (x.bin : Int) = c
    · rw [List.filter_cons_of_neg (by simpa using hc), ih, List.find?_cons_of_neg (by simp; omega)]
    · rw [List.filter_cons_of_pos (by simpa using hc)]
      by_cases hx : (x.bin : Int) = b
      · rw [List.find?_cons_of_pos (by simpa using hx), List.find?_cons_of_pos (by simpa using hx)]
      · rw [List.find?_cons_of_neg (by simpa using hx), List.find?_cons_of_neg (by simpa using hx), ih]
def Keep (S : Shf) (b : Int) (img : List UInt8) : Prop := ∃ p, known S.P b = some p ∧ img.length = 128 * p.n ∧ Lies S.D p.pos p.n img
structure Good (S : Shf) : Prop where
  inv : Inv S
  fit : Fit S.D
  room : S.f + S.T.length ≤ S.D.S.length
theorem take_len {S : Shf} (n : Nat) (h : Inv S) : (takeN S n).f + (takeN S n).T.length = S.f + S.T.length := by
  simp only [takeN]
  rw [(rel_take h.rel n).2]
theorem chunks_len (b : List UInt8) (n : Nat) : (chunks b n).length = n := by simp [chunks]
theorem chunks_at {b : List UInt8} {n j : Nat} (h : j < n) : (chunks b n)[j]? = some ((b.drop (128 * j)).take 128) := by simp [chunks, h]
theorem chunks_128 {b : List UInt8} {n : Nat} (h : b.length = 128 * n) : ∀ c ∈ chunks b n, c.length = 128 := fun c hc => by
  obtain ⟨j, hj, rfl⟩ := List.mem_map.1 hc
  have := List.mem_range.1 hj
  rw [List.length_take, List.length_drop]; omega
theorem good_seal {S : Shf} (h : Good S) {id wd : Nat} {L : Ch} (hp : POk id wd L) : Good (sealV S id L).2.2 ∧
    (∀ b img, Keep S b img → Keep (sealV S id L).2.2 b img) ∧
    ((sealV S id L).2.1 = 0 → Keep (sealV S id L).2.2 id (imgL id L) ∧ ∃ a n : Nat, (sealV S id L).1 = ((id : Int), (a : Int), (n : Int)) ∧ 2 ≤ n ∧ n ≤ 64 ∧ a + n ≤ S.D.S.length ∧ (imgL id L).length = 128 * n ∧ Lies (sealV S id L).2.2.D a n (imgL id L)) ∧
    ((sealV S id L).2.1 ≠ 0 → L = [] ∨ (sealV S id L).2.1 = 8 ∨ (known S.P id).isSome = true) := by
  have hinv := h.inv.sealS hp
  unfold sealV at hinv ⊢
  rw [if_neg (by rw [h.fit.dn]; decide)] at hinv ⊢
  by_cases hL : L = []
  · rw [if_pos hL]
    exact ⟨h, fun _ _ hk => hk, fun h0 => absurd (show (2 : Int) = 0 from h0) (by decide), fun _ => .inl hL⟩
  rw [if_neg hL] at hinv ⊢
  by_cases hk : (known S.P id).isSome = true
  · rw [if_pos hk]
    exact ⟨h, fun _ _ hk => hk, fun h0 => absurd (show (10 : Int) = 0 from h0) (by decide), fun _ => .inr (.inr hk)⟩
  rw [if_neg hk] at hinv ⊢
  have hk' : known S.P id = none := by simpa using hk
  obtain ⟨n1, n2, n3⟩ := img_n hp hL
  dsimp only at hinv ⊢
  generalize (imgL id L).length / 128 = n at n1 n2 n3 hinv ⊢
  by_cases h0 : (takeV S.R n).2.1 ≠ 0
  · rw [if_pos h0] at hinv ⊢
    refine ⟨⟨hinv, h.fit, by rw [take_len n h.inv]; exact h.room⟩, fun _ _ hk => hk, fun h1 => absurd h1 h0, fun _ => .inr (.inl (take_no (by omega) h0))⟩
  rw [if_neg h0] at hinv ⊢
  obtain ⟨a, a1, a2, a3, a4, a5⟩ := take_ok h.inv (n := n) (by omega) (by simpa using h0)
  rw [a1] at hinv ⊢
  have hroom := h.room
  obtain ⟨w1, w2, w3, w4, w5⟩ := wrS_fit (chunks (imgL id L) n) h.fit (a := a) (by rw [chunks_len]; omega) (chunks_128 (by omega))
  rw [if_neg (by rw [w1]; decide)] at hinv ⊢
  have hlies : Lies (wrS S.D a (chunks (imgL id L) n)).1 a n (imgL id L) := fun j hj => w4 j _ (chunks_at hj)
  refine ⟨⟨hinv, w2, ?_⟩, fun b img ⟨p, k1, k2, k3⟩ => ⟨p, ?_, k2, fun j hj => ?_⟩, fun _ => ⟨⟨⟨id, a, n⟩, ?_, by simp only; omega, hlies⟩, a, n, rfl, n1, n2, by omega, by omega, hlies⟩, fun h1 => absurd rfl h1⟩
  · simp only
    rw [w3, take_len n h.inv]
    exact h.room
  · have hne : (id : Int) ≠ b := fun e => by subst e; rw [hk'] at k1; cases k1
    simp only
    rw [known_put_ne (by simpa using hne)]
    exact k1
  · have hpm := (known_some k1).1
    have hout : p.pos + j < a ∨ a + (chunks (imgL id L) n).length ≤ p.pos + j := by
      rw [chunks_len]
      by_cases h2 : p.pos + j < a
      · exact .inl h2
      by_cases h3 : a + n ≤ p.pos + j
      · exact .inr h3
      · exact absurd (a4 (p.pos + j) (by omega) (by omega)) (h.inv.free p hpm _ ⟨by omega, by omega⟩)
    have := w5 _ hout
    simp only
    unfold nowAt
    rw [this]
    exact k3 j hj
  · simp only [Int.toNat_natCast]
    exact known_put_eq hk'
theorem keep_whole {S : Shf} (hf : Fit S.D) {id wd : Nat} {L : Ch} (hp : POk id wd L) (h : Keep S id (imgL id L)) : wholeV S id = (0, imgL id L, id, (imgL id L).length / 128, slotsL 128 L) := by
  obtain ⟨p, k1, k2, k3⟩ := h
  obtain ⟨r1, r2⟩ := lies_rd hf k3 k2
  unfold wholeV
  rw [k1]
  simp only
  rw [if_neg (by rw [r1]; decide), r2, parse_img hp, if_neg (by simp)]
theorem keep_chunk {S : Shf} (hf : Fit S.D) {id wd : Nat} {L : Ch} (hp : POk id wd L) (h : Keep S id (imgL id L)) {i : Nat} {c : List UInt8} (hc : L[i]? = some c) : chunkV S id i = (0, c) := by
  obtain ⟨s, h1, h2⟩ := chunk_img hp hc
  have hi := (List.getElem?_eq_some_iff.1 hc).1
  unfold chunkV
  rw [keep_whole hf hp h]
  simp only
  rw [if_neg (by decide), if_neg (by rw [slots_len]; omega), Int.toNat_natCast, h1]
  simp only
  rw [h2, if_neg (by simp)]
end Go.Proofs.YtmbfmkiagdhcoaaGreat.Bn
end
section
namespace Go.Proofs.YtmbfmkiagdhcoaaGreat.Pk
open Go Go.SL Go.Proofs Go.Proofs.YtmbfmkiagdhcoaaGreat.Sh Go.Proofs.YtmbfmkiagdhcoaaGreat.Oct Go.Proofs.YtmbfmkiagdhcoaaGreat.Disk Go.Proofs.YtmbfmkiagdhcoaaGreat.Slot
variable {B : World} {H : List Asrt} {K : Value → WT} {W : WT}
theorem E_arrS {P : Program} {t e n : Nat} {v : Value} {l : List UInt8} [hf : Rs B H v cB l] (hu : P.underlying t = some (.array n e)) (hl : l.length = n) (hn : 1 ≤ n) (h : ∀ p [PtA B H p 0 (bcs l)], E B H (K p)) : E B H (V P (Instr.arrayAt t v) K) := by
  refine Ext.E_rsC (hf := hf) (fun _ h0 => by subst h0; simp at hl; omega) fun a cap hv hle => ?_
  refine E_Vok fun w hw => ⟨.pointer (some a), w, ?_, ?_⟩
  · subst hv
    unfold Instr.arrayAt
    rw [run_bind, run_underlying' hu]
    simp only [hl, Nat.lt_irrefl, if_false, run_pure]
  · have : PtA B H (.pointer (some a)) 0 (bcs l) := ⟨a, by simp [Addr.add], fun {w'} hw' j hj => by
      rcases hf.pf hw' with ⟨h0, _, _⟩ | ⟨a', cap', hv', _, hc⟩
      · rw [h0] at hv; cases hv
      · rw [hv] at hv'
        cases hv'
        have := hc j (by rw [bcs_enc]; exact hj)
        rw [bcs_enc] at this
        exact this⟩
    exact h _ w hw
theorem build0 (w : World) : (Instr.build 58 #[]).run Tryz.prog w = .ok (.agg #[I 0, I 0, nil]) w := by kernel_rfl
theorem build2 (i s : Int) (w : World) : (Instr.build 58 #[(0, I i), (1, I s)]).run Tryz.prog w = .ok (.agg #[I i, I s, nil]) w := by kernel_rfl
def parA (b : List UInt8) (v : Value) : Value := .tuple #[.agg #[I (parseL b).2.1, I (parseL b).2.2.1, v], I (parseL b).1]
attribute [local irreducible] S.pick S.ld S.ldN S.st S.box S.nc S.fad S.ixS S.ixA S.chr S.prt S.ext S.bin S.sh S.sbin S.beq S.neg1 S.com1 S.not1 S.cvt S.str1 S.lenS S.len S.cap S.lenM S.mx S.mn S.mkM S.cond S.gd S.fa S.dr S.rck S.join S.loop S.cvv S.eqv S.slc S.slcS S.b2s S.lk V U CF Gives E cel mpb osl ros dct dit itr lpo dfo
theorem E_fail {v2 : Nat} {e : Int} {b : List UInt8} {l : List Value} (hl : l.length = 3) (he : parseL b = (e, 0, 0, [])) (h : ∀ v [CellI v], E B (sls cSl 109 34 v (parseL b).2.2.2 :: H) (K (parA b v))) :
    E B (cel true v2 58 l :: H) (V Tryz.prog (Instr.build 58 #[]) fun v19 => S.st 3 (ptr v2) v19 fun _ => S.ldN 3 (ptr v2) fun v2' => K (.tuple #[v2', I e])) := by
  refine Dig.E_Vr build0 ?_
  refine E_stW (vs := [I 0, I 0, nil]) rfl hl ?_
  refine E_ldNA ?_
  refine sls_nil cSl 34 (T := 109) ?_
  have h' := h nil
  unfold parA at h'
  rw [he] at h'
  exact sm h'
theorem parse_head {b : List UInt8} {e : Int} (h : headE b = e) (h0 : e ≠ 0) : parseL b = (e, 0, 0, []) := by
  unfold parseL
  simp only
  rw [h, if_pos h0]
theorem rows_take (b : List UInt8) (p q : Nat) : ∀ n i, i ≤ n → (rowsL b n p q).take i = rowsL b i p q
  | n, 0, _ => by simp [rowsL]
  | 0, i + 1, h => by omega
  | n + 1, i + 1, h => by rw [rowsL, rowsL, List.take_succ_cons, rows_take b (p + 34) (q + tabE b p) n i (by omega)]
theorem endL_le (q : Nat) : ∀ (l : List Sl), (∀ s ∈ l, s.len ≤ 512) → endL q l ≤ q + 512 * l.length := by
  intro l h
  induction l generalizing q with
  | nil => simp [endL]
  | cons s l ih =>
    have := ih (q + s.len) fun x hx => h x (List.mem_cons_of_mem _ hx)
    have := h s (List.mem_cons_self ..)
    rw [endL_cons, List.length_cons]; omega
theorem okE_iff {l : List Sl} : l.all okE = true ↔ ∀ s ∈ l, 1 ≤ s.len ∧ s.len ≤ 512 := by
  rw [List.all_eq_true]
  simp [okE]
theorem pkparse {v : Value} {b : List UInt8} [hv : Rb B H v b] (hm : b.length ≤ 1000000000) (h : ∀ v [CellI v], E B (sls cSl 109 34 v (parseL b).2.2.2 :: H) (K (parA b v))) : E B H (CF Tryz.prog 36 [v] K) := by
  refine E_mono (W := s36 _ K) ?_ fun _ => c36
  unfold s36
  refine E_box (v := .agg #[I 0, I 0, nil]) (vs := [I 0, I 0, nil]) fun v2 => ?_
  refine headed (v := v) (b := b) hm ?_
  refine E_neq ?_
  refine E_if (fun hc => ?_) (fun hc => ?_)
  · exact E_fail rfl (parse_head rfl hc) h
  have hc : headE b = 0 := by simpa using hc
  obtain ⟨d1, d2, d3, d4⟩ := headE_0 hc
  refine numbers (v := v) (b := b) d1 hm ?_
  refine E_box (v := .agg #[I 0, I 0, I 0, I 0]) (vs := [I 0, I 0, I 0, I 0]) fun v5 => ?_
  refine E_stW (vs := nI (nums b)) (by rfl) (by rfl) ?_
  have g0 : (nI (nums b))[0]? = some (I (hdN b 4 4 : Nat)) := rfl
  have g1 : (nI (nums b))[1]? = some (I (hdN b 8 2 : Nat)) := rfl
  have g2 : (nI (nums b))[2]? = some (I (hdN b 10 4 : Nat)) := rfl
  have g3 : (nI (nums b))[3]? = some (I (hdN b 14 4 : Nat)) := rfl
  have hpe : parseL b = let l := rowsL b (hdN b 8 2) (128 + hdN b 10 4) 128
      if ((crcS ((b.drop (128 + hdN b 10 4)).take (34 * hdN b 8 2))).toNat : Nat) ≠ hdN b 14 4 then (5, 0, 0, []) else
      if l.all okE = false then (2, 0, 0, []) else if endL 128 l ≠ 128 + hdN b 10 4 then (4, 0, 0, []) else (0, hdN b 4 4, (128 + hdN b 10 4 + 34 * hdN b 8 2 + 127) / 128, l) := by
    unfold parseL
    simp only
    rw [if_neg (by rw [hc]; decide)]
  dsimp only at hpe
  generalize hid : hdN b 4 4 = id at g0 hpe d2
  generalize hn : hdN b 8 2 = n at g1 hpe d3 d4
  generalize hs : hdN b 10 4 = sz at g2 hpe d4
  generalize hcc : hdN b 14 4 = cc at g3 hpe
  generalize nI (nums b) = ns at g0 g1 g2 g3 ⊢
  refine Dig.E_wdA (n := 2) (by omega) ?_
  refine E_ld' g2 ?_
  refine E_addI (by omega) (by omega) ?_
  refine Dig.E_wdA (n := 1) (by omega) ?_
  refine E_ld' g1 ?_
  refine E_mulI (by omega) (by omega) ?_
  refine E_addI (by omega) (by omega) ?_
  have ef : (128 : Int) + (sz : Int) = ((128 + sz : Nat) : Int) := by omega
  rw [ef]
  generalize hf : 128 + sz = f at hpe d4 ⊢
  refine E_slcB (v := v) (bs := b) (l := f) (hh := f + 34 * n) (Dig.bndN (by omega)) (Dig.bndN rfl) (by omega) (by omega) fun y hy _ => ?_
  rw [show f + 34 * n - f = 34 * n by omega] at hy
  refine E_dr ?_
  refine Dig.E_wdA (n := 3) (by omega) ?_
  refine E_ld' g3 ?_
  have htl : ((b.drop f).take (34 * n)).length = 34 * n := by rw [List.length_take, List.length_drop]; omega
  generalize hT : (b.drop f).take (34 * n) = T at hy hpe htl
  have hC := crc_lt T
  refine (fun hy1 => crc (v := y) (bs := T) (by omega) hy1) ?_
  refine E_rck1 (E_ld' g3 (E_fact rfl)) (E_rck0 ?_)
  refine E_cvtI (by omega) (by omega) ?_
  refine E_neq ?_
  refine E_if (fun hc1 => ?_) (fun hc1 => ?_)
  · refine fd (a := cel true v2 58 [I 0, I 0, nil]) ?_
    refine E_fail rfl (by rw [hpe, if_pos (by omega)]) fun u _ => ?_
    exact sm (h u)
  rw [if_neg (by omega)] at hpe
  refine Dig.E_wdA (n := 0) (by omega) ?_
  refine E_ld' g0 ?_
  refine E_rslen (v := y) (l := T) ?_
  refine E_addI (by omega) (by omega) ?_
  refine E_addI (by omega) (by omega) ?_
  refine E_subI (by omega) (by omega) ?_
  rw [show (f : Int) + (T.length : Int) + 128 - 1 = ((f + 34 * n + 127 : Nat) : Int) by omega]
  refine E_quoI (by omega) (by omega) (by omega) ?_
  rw [show ((f + 34 * n + 127 : Nat) : Int) / 128 = (((f + 34 * n + 127) / 128 : Nat) : Int) by omega]
  refine Dig.E_Vr (build2 _ _) ?_
  refine E_box (v := .agg #[I 0, I 0, nil]) (vs := [I 0, I 0, nil]) fun v8 => ?_
  generalize hse : (f + 34 * n + 127) / 128 = se at hpe
  refine E_stW (vs := [I id, I se, nil]) rfl rfl ?_
  refine Dig.E_wdA (n := 1) (by omega) ?_
  refine E_ld' g1 ?_
  refine sls_nil cSl 34 (T := 109) ?_
  refine E_loop (n := 7) (σ := Nat × Cv) (fun s => s.1 ≤ n ∧ ∀ x ∈ rowsL b s.1 f 128, 1 ≤ x.len ∧ x.len ≤ 512) (fun s => [ptr v2, I f, y, ptr v8, I (endL 128 (rowsL b s.1 f 128) : Nat), I n, I s.1])
    (fun s => sls cSl 109 34 s.2.1 (rowsL b s.1 f 128) :: cel true v8 58 [I id, I se, s.2.1] :: cel true v2 58 [I 0, I 0, nil] :: H) (fun s => n - s.1) (0, ⟨nil, rfl⟩) (fun _ => rfl) rfl ⟨Nat.zero_le _, fun x hx => by simp [rowsL] at hx⟩ (fun W hW => sm (G := sls cSl 109 34 nil [] :: cel true v8 58 [I id, I se, nil] :: cel true v2 58 [I 0, I 0, nil] :: H) hW) ?_
  rintro ⟨i, o, hco⟩ K0 ⟨hi, hok⟩ hk
  simp only at hi hok hk ⊢
  have io : CellI o := ⟨hco⟩
  have hrl := rows_len b i f 128
  have hel := endL_le 128 _ fun s hs => (hok s hs).2
  rw [hrl] at hel
  refine E_fa fun _ => ?_
  refine E_lss ?_
  refine E_if (fun hc2 => ?_) (fun hc2 => ?_)
  · have hrs := rows_suc b i f 128
    have hTL := tabE_lt b (f + 34 * i)
    refine E_mulI (by omega) (by omega) ?_
    refine E_addI (by omega) (by omega) ?_
    refine E_mulI (by omega) (by omega) ?_
    refine (fun (q1 : Rb B (sls cSl 109 34 o (rowsL b i f 128) :: cel true v8 58 [I id, I se, o] :: cel true v2 58 [I 0, I 0, nil] :: H) y T) => E_slcB (v := y) (bs := T) (l := 34 * i) (hh := 34 * (i + 1)) (Dig.bndN (by omega)) (Dig.bndN (by omega)) (by omega) (by omega) fun r hr _ => ?_) (hy _)
    rw [show 34 * (i + 1) - 34 * i = 34 by omega] at hr
    have hR : (T.drop (34 * i)).take 34 = (b.drop (f + 34 * i)).take 34 := by
      rw [← hT, List.drop_take, List.drop_drop, List.take_take, show min 34 (34 * n - 34 * i) = 34 by omega]
    rw [hR] at hr
    have hrL : ((b.drop (f + 34 * i)).take 34).length = 34 := by rw [List.length_take, List.length_drop]; omega
    have e32 : ofBe ((((b.drop (f + 34 * i)).take 34).drop 32).take 2) = tabE b (f + 34 * i) := by
      unfold tabE hdN
      rw [List.drop_take, List.drop_drop, List.take_take]
      rfl
    generalize hRr : (b.drop (f + 34 * i)).take 34 = R at hr hrL e32
    have hr1 := fun (Q : List Asrt) (q : Rb B Q v b) => @hr Q (@hy Q q)
    have i3 := hr1 (sls cSl 109 34 o (rowsL b i f 128) :: cel true v8 58 [I id, I se, o] :: cel true v2 58 [I 0, I 0, nil] :: H) inferInstance
    refine take4 (v := r) (bs := R) (w := 2) (p := 32) (by omega) (by omega) (by omega) (by omega) ?_
    rw [e32]
    generalize hE : tabE b (f + 34 * i) = len at hTL hrs
    refine E_ext ?_
    refine E_ext ?_
    refine E_ext ?_
    refine E_join1 (n := 10) [ptr v2, I f, y, ptr v8, I (endL 128 (rowsL b i f 128) : Nat), r, I len, I n, I i, .bool (decide (len < 1 ∨ 512 < len))] (sls cSl 109 34 o (rowsL b i f 128) :: cel true v8 58 [I id, I se, o] :: cel true v2 58 [I 0, I 0, nil] :: H) (fun q hq => ?_) ?_
    · refine E_lss ?_
      by_cases h1 : len < 1
      · rw [decide_eq_true (.inl h1)] at hq
        rw [decide_eq_true (show (len : Int) < 1 by omega)]
        (repeat first | refine gS ?_ | refine gA fun _ => ?_ | refine gX fun _ _ => ?_ | refine gT ?_ | refine gF ?_ | refine gI ?_)
        exact hq
      · have e : decide (len < 1 ∨ 512 < len) = decide ((512 : Int) < (len : Int)) := by rw [decide_eq_decide]; omega
        rw [e] at hq
        rw [decide_eq_false (show ¬ (len : Int) < 1 by omega)]
        refine E_gft ?_
        refine E_gft ?_
        refine E_gtr ?_
        refine E_pff ?_
        exact hq
    refine E_fa fun _ => ?_
    refine E_if (fun hc3 => ?_) (fun hc3 => ?_)
    · refine fd (a := cel true v2 58 [I 0, I 0, nil]) ?_
      refine E_fail rfl ?_ fun u _ => sm (h u)
      rw [hpe, if_pos]
      rw [← Bool.not_eq_true]
      intro ha
      have hm := okE_iff.1 ha ⟨tabS b (f + 34 * i), endL 128 (rowsL b i f 128), len, tabS_len b _⟩ (by
        have := rows_take b f 128 n (i + 1) (by omega)
        refine List.mem_of_mem_take (i := i + 1) ?_
        rw [this, hrs]
        simp)
      simp only at hm
      omega
    · have hsum : tabS b (f + 34 * i) = R.take 32 := by
        rw [tabS_in (by omega), ← hRr, List.take_take]; rfl
      have hk1 := fun x : Cv => hk (i + 1, x) ⟨by simp only; omega, fun s hs => by
        simp only [hrs] at hs
        rcases List.mem_append.1 hs with hs | hs
        · exact hok s hs
        · simp at hs; subst hs; simp only; omega⟩ (by simp only; omega)
      simp only [hrs, endL_snoc] at hk1
      refine E_dr ?_
      refine E_fad0 ?_
      refine E_ld ?_
      refine E_slcB (v := r) (bs := R) (l := 0) (hh := 32) (Dig.bndN rfl) rfl (by omega) (by omega) fun z hz _ => ?_
      rw [List.drop_zero] at hz
      have hz1 := @hz _ i3
      refine E_arrS (v := z) (l := R.take (32 - 0)) u_a32 (by rw [List.length_take]; omega) (by omega) fun p _ => ?_
      refine E_rck1 (E_ld (E_fact rfl)) (E_rck0 ?_)
      have hRt : (bcs (R.take (32 - 0))).length = 32 := by rw [Dig.bcs_len, List.length_take]; omega
      refine E_ptldN (p := p) (cs := bcs (R.take (32 - 0))) (ds := bcs (tabS b (f + 34 * i))) (by rw [List.drop_zero, hsum, List.take_of_length_le (by omega)]) (by rw [Dig.bcs_len, tabS_len]) ?_
      refine E_build (hf := slotFill (tabS_len b (f + 34 * i)) _ _) str_slot ?_
      refine E_rck1 (E_ld (E_fact rfl)) (E_rck0 ?_)
      refine Dig.E_bslK u_slots elt_slot (by omega) (fill1S (s := ⟨tabS b (f + 34 * i), endL 128 (rowsL b i f 128), len, tabS_len b _⟩)) fun bb => ?_
      refine E_rck1 (E_ld (E_fact rfl)) (E_rck0 ?_)
      refine E_slsC (enc := cSl) (sz := 34) [⟨tabS b (f + 34 * i), endL 128 (rowsL b i f 128), len, tabS_len b _⟩] 1 (by simp) rfl ?_
      refine fd (a := sls cSl 109 34 o (rowsL b i f 128)) ?_
      refine E_sapps (enc := cSl) (u := .slice (some ⟨bb, 0, none⟩) 1 1) (m := [⟨tabS b (f + 34 * i), endL 128 (rowsL b i f 128), len, tabS_len b _⟩]) u_slots elt_slot (by simp [hrl]; omega) (by simp [hrl]; omega) fun w iw => ?_
      refine E_fad0 ?_
      refine E_st ?_
      refine E_addI (by omega) (by omega) ?_
      refine E_addI (by omega) (by omega) ?_
      rw [show (endL 128 (rowsL b i f 128) : Int) + (len : Int) = ((endL 128 (rowsL b i f 128) + len : Nat) : Int) by omega]
      exact sm (hk1 ⟨w, iw.pf⟩)
  · have hie : i = n := by omega
    subst hie
    rw [if_neg (by rw [okE_iff.2 hok]; decide)] at hpe
    refine E_neq ?_
    refine E_if (fun hc3 => ?_) (fun hc3 => ?_)
    · rw [if_pos (by omega)] at hpe
      refine fd (a := cel true v2 58 [I 0, I 0, nil]) ?_
      refine E_fail rfl hpe fun u _ => sm (h u)
    · rw [if_neg (by omega)] at hpe
      refine E_ldNA ?_
      refine E_stW (vs := [I id, I se, o]) rfl rfl ?_
      refine E_ldNA ?_
      have h' := h o
      unfold parA at h'
      rw [hpe] at h'
      exact sm h'
end Go.Proofs.YtmbfmkiagdhcoaaGreat.Pk
end
section
namespace Go.Proofs.YtmbfmkiagdhcoaaGreat.Pk
open Go Go.SL Go.Proofs Go.Proofs.YtmbfmkiagdhcoaaGreat.Sh Go.Proofs.YtmbfmkiagdhcoaaGreat.Oct Go.Proofs.YtmbfmkiagdhcoaaGreat.Disk Go.Proofs.YtmbfmkiagdhcoaaGreat.Slot
variable {B : World} {H : List Asrt} {K : Value → WT} {W : WT}
theorem cSl_pos (s : Sl) : (cSl s)[32]? = some (I s.pos) := by
  have h : (bcs s.sum).length = 32 := by rw [Dig.bcs_len, s.hs]
  rw [List.getElem?_append_right (by omega), h]; rfl
theorem cSl_sum {b : Nat} {κ : Bool} {T : TypeId} {s : Sl} [hf : HasC H b κ T (cSl s)] (h : E B H (K (.agg (bcs s.sum).toArray))) : E B H (S.ldN 32 (.pointer (some ⟨b, 0, none⟩)) K) :=
  E_ldN (hf := hf) (cs := bcs s.sum) (by
    have hl : (bcs s.sum).length = 32 := by rw [Dig.bcs_len, s.hs]
    rw [List.drop_zero, List.take_append_of_le_length (by omega), List.take_of_length_le (by omega)]) (by rw [Dig.bcs_len, s.hs]) h
set_option maxRecDepth 100000
theorem noGuard32 : Tryz.prog.eqGuardType Tryz.prog.depth 107 = false := by kernel_rfl
theorem E_nesum {c : Bool} {a b : List UInt8} (ha : a.length = 32) (hb : b.length = 32) (h : E B H (K (.bool (!decide (a = b))))) : E B H (S.eqv Tryz.prog .neq 107 c (.agg (bcs a).toArray) (.agg (bcs b).toArray) K) :=
  E_ane noGuard32 (fun w => (eqg_bytes u_a32 u_byteP (fun w => by kernel_rfl) ha hb).equal (by decide) w) h
def chA (b : List UInt8) (s : Sl) (v : Value) : Value := .tuple #[v, I (chunkL b s).1]
attribute [local irreducible] S.pick S.ld S.ldN S.st S.box S.nc S.fad S.ixS S.ixA S.chr S.prt S.ext S.bin S.sh S.sbin S.beq S.neg1 S.com1 S.not1 S.cvt S.str1 S.lenS S.len S.cap S.lenM S.mx S.mn S.mkM S.cond S.gd S.fa S.dr S.rck S.join S.loop S.cvv S.eqv S.slc S.slcS S.b2s S.lk V U CF Gives E cel mpb osl ros dct dit itr lpo dfo
theorem pkchunk {v : Value} {b : List UInt8} {s : Sl} [hv : Rb B H v b] (hm : b.length ≤ 1000000000) (hp : s.pos ≤ 1000000000000000) (hl : s.len ≤ 1000000000000000)
    (h : ∀ v [CellI v], E B (sls cB 5 1 v (chunkL b s).2 :: H) (K (chA b s v))) : E B H (CF Tryz.prog 43 [v, .agg (cSl s).toArray] K) := by
  refine E_mono (W := s43 _ _ K) ?_ fun _ => c43
  unfold s43
  have er : ∀ (e : Int), chunkL b s = (e, []) → ∀ G, E B (G :: H) (K (.tuple #[nil, I e])) := fun e he G => by
    have h' := h nil
    unfold chA at h'
    rw [he] at h'
    exact sls_nil cB 1 (T := 5) (sm h')
  refine E_box (v := .agg (cSl s).toArray) (vs := cSl s) fun v3 => ?_
  refine E_join1 (n := 3) [v, ptr v3, .bool (decide (s.len < 1 ∨ 512 < s.len))] (cel true v3 109 (cSl s) :: H) (fun q hq => ?_) ?_
  · refine E_fad0 ?_
    refine E_ld' (cSl_last s) ?_
    refine E_lss ?_
    by_cases h1 : s.len < 1
    · rw [decide_eq_true (.inl h1)] at hq
      rw [decide_eq_true (show (s.len : Int) < 1 by omega)]
      refine E_gtt ?_
      refine E_gtt ?_
      refine E_gtt ?_
      refine E_ptt ?_
      refine E_gtt ?_
      refine E_gtt ?_
      refine E_gtt ?_
      refine E_ptt ?_
      exact hq
    · rw [decide_eq_false (show ¬ (s.len : Int) < 1 by omega)]
      refine E_gft ?_
      refine E_fad0 ?_
      refine E_gft ?_
      refine E_ld' (cSl_last s) ?_
      refine E_gft ?_
      refine E_gtr ?_
      refine E_pff ?_
      by_cases h2 : 512 < s.len
      · rw [decide_eq_true (.inr h2)] at hq
        rw [decide_eq_true (show (512 : Int) < (s.len : Int) by omega)]
        refine E_gtt ?_
        refine E_gtt ?_
        refine E_gtt ?_
        refine E_ptt ?_
        exact hq
      · rw [decide_eq_false (by omega)] at hq
        rw [decide_eq_false (show ¬ (512 : Int) < (s.len : Int) by omega)]
        refine E_gft ?_
        refine E_fad0 ?_
        refine E_gft ?_
        refine E_ld' (cSl_pos s) ?_
        refine E_gft ?_
        refine E_lss ?_
        refine E_pff ?_
        rw [decide_eq_false (show ¬ (s.pos : Int) < 0 by omega)]
        exact hq
  refine E_fa fun _ => ?_
  refine E_if (fun hc => ?_) (fun hc => ?_)
  · exact er 2 (by unfold chunkL; rw [if_pos hc]) _
  refine E_join1 (n := 3) [v, ptr v3, .bool (decide (b.length < s.pos + s.len))] (cel true v3 109 (cSl s) :: H) (fun q hq => ?_) ?_
  · refine E_fad0 ?_
    refine E_ld' (cSl_pos s) ?_
    refine E_rslen (v := v) (l := b) ?_
    refine E_gtr ?_
    by_cases h1 : b.length < s.pos
    · rw [decide_eq_true (by omega)] at hq
      rw [decide_eq_true (show (b.length : Int) < (s.pos : Int) by omega)]
      refine E_gtt ?_
      refine E_gtt ?_
      refine E_gtt ?_
      refine E_gtt ?_
      refine E_gtt ?_
      refine E_gtt ?_
      refine E_gtt ?_
      refine E_gtt ?_
      refine E_ptt ?_
      exact hq
    · have e : decide (b.length < s.pos + s.len) = decide ((b.length : Int) - (s.pos : Int) < (s.len : Int)) := by rw [decide_eq_decide]; omega
      rw [e] at hq
      rw [decide_eq_false (show ¬ (b.length : Int) < (s.pos : Int) by omega)]
      refine E_gft ?_
      refine E_fad0 ?_
      refine E_gft ?_
      refine E_ld' (cSl_last s) ?_
      refine E_gft ?_
      refine E_gft ?_
      refine E_rslen (v := v) (l := b) ?_
      refine E_gft ?_
      refine E_fad0 ?_
      refine E_gft ?_
      refine E_ld' (cSl_pos s) ?_
      refine E_gft ?_
      refine E_subI (by omega) (by omega) ?_
      refine E_gft ?_
      refine E_gtr ?_
      refine E_pff ?_
      exact hq
  refine E_fa fun _ => ?_
  refine E_if (fun hc1 => ?_) (fun hc1 => ?_)
  · exact er 3 (by unfold chunkL; rw [if_neg hc, if_pos hc1]) _
  refine E_fad0 ?_
  refine E_ld' (cSl_pos s) ?_
  refine E_fad0 ?_
  refine E_ld' (cSl_pos s) ?_
  refine E_fad0 ?_
  refine E_ld' (cSl_last s) ?_
  refine E_addI (by omega) (by omega) ?_
  rw [show (s.pos : Int) + (s.len : Int) = ((s.pos + s.len : Nat) : Int) by omega]
  refine E_slcB (v := v) (bs := b) (l := s.pos) (hh := s.pos + s.len) (Dig.bndN rfl) (Dig.bndN rfl) (by omega) (by omega) fun z hz _ => ?_
  rw [show s.pos + s.len - s.pos = s.len by omega] at hz
  have hz1 := hz (cel true v3 109 (cSl s) :: H)
  have hpl : ((b.drop s.pos).take s.len).length = s.len := by rw [List.length_take, List.length_drop]; omega
  have hch : chunkL b s = if Dig.sum ((b.drop s.pos).take s.len) = s.sum then (0, (b.drop s.pos).take s.len) else (13, []) := by unfold chunkL; rw [if_neg hc, if_neg hc1]
  generalize (b.drop s.pos).take s.len = p at hz1 hpl hch
  refine Dig.cloneB (v := z) (bs := p) (by omega) fun w iw => ?_
  refine E_dr ?_
  refine E_fad0 ?_
  refine cSl_sum ?_
  refine Dig.dsum (v := w) (p := p) (by omega) ?_
  refine E_rck1 (cSl_sum (E_fact rfl)) (E_rck0 ?_)
  refine E_nesum (Dig.sum_len p) s.hs ?_
  by_cases hs : Dig.sum p = s.sum
  · rw [decide_eq_true hs]
    refine E_ff ?_
    rw [if_pos hs] at hch
    have h' := h w
    unfold chA at h'
    rw [hch] at h'
    exact sm h'
  · rw [decide_eq_false hs]
    refine E_tt ?_
    rw [if_neg hs] at hch
    refine E_drop ?_
    exact er 13 hch _
end Go.Proofs.YtmbfmkiagdhcoaaGreat.Pk
end
section
namespace Go.Proofs.YtmbfmkiagdhcoaaGreat.Shf
open Go Go.SL Go.Proofs Go.Proofs.YtmbfmkiagdhcoaaGreat.Sh
attribute [local irreducible] S.pick S.ld S.ldN S.st S.box S.nc S.fad S.ixS S.ixA S.chr S.prt S.ext S.bin S.sh S.sbin S.beq S.neg1 S.com1 S.not1 S.cvt S.str1 S.lenS S.len S.cap S.lenM S.mx S.mn S.mkM S.cond S.gd S.fa S.dr S.rck S.join S.loop S.cvv S.eqv S.slc S.slcS S.b2s S.lk V U CF Gives E cel mpb osl ros dct dit itr lpo dfo
theorem u_ints : Tryz.prog.underlying 110 = some (.slice 3) := by kernel_rfl
theorem u_int : Tryz.prog.underlying 3 = some (.int .i64) := by kernel_rfl
theorem u_mapIR : Tryz.prog.underlying 95 = some (.map 3 32) := by kernel_rfl
theorem elt_int : Elt Tryz.prog 3 1 8 [.int .i64 0] := elt_of (zv := .int .i64 0) (by kernel_rfl) rfl rfl
theorem key_mapIR : Key Tryz.prog 95 3 32 (.int .i64) := ⟨u_mapIR, u_int, rfl⟩
theorem sortOk : SortOk Tryz.prog 82 := ⟨fun blk off cap zs w h1 h2 h3 => Tryz.slices_Sort_int blk off cap zs w h1 h2 h3, fun p cap w => Tryz.slices_Sort_int_none p cap w⟩
variable {B : World} {H : List Asrt} {K : Value → WT}
theorem ints_snoc (zs : List Int) (k : Int) : ints zs ++ [.int .i64 k] = ints (zs ++ [k]) := by simp [ints]
theorem sortedKeys {o : Bool} {r : Nat} {kv : List (Int × Value)} {H' : List Asrt} [ht : TakD H kI o r kv H'] (hn : kv.length ≤ 1099511627776)
    (h : ∀ sv zs, zs.Perm (kv.map (·.1)) → E B (osl 3 1 sv kv.length (ints (sortI zs)) :: dct kI o r kv :: H') (K sv)) :
    E B H (CF Tryz.prog 45 [.map (some r)] fun v9 => CF Tryz.prog 44 [v9] K) := by
  refine E_find ht.pf ?_
  refine E_mono (W := s45 _ _) ?_ fun _ => c45
  unfold s45
  (first | refine gS ?_ | refine gA fun _ => ?_ | refine gX fun _ _ => ?_ | refine gT ?_ | refine gF ?_ | refine gI ?_)
  rename_i mb
  refine E_mono (W := s44 _ _) ?_ fun _ => c44
  unfold s44
  refine E_mono (W := s81 _ _) ?_ fun _ => c81
  unfold s81
  refine E_mono (W := s115 _ _ _) ?_ fun _ => c115
  unfold s115
  (first | refine gS ?_ | refine gA fun _ => ?_ | refine gX fun _ _ => ?_ | refine gT ?_ | refine gF ?_ | refine gI ?_)
  rename_i sb
  refine E_rf (by kernel_rfl) fun l dl L hY => ?_
  refine E_mono (W := s83 _ _ _) ?_ fun _ => c83
  unfold s83
  (repeat first | refine gS ?_ | refine gA fun _ => ?_ | refine gX fun _ _ => ?_ | refine gT ?_ | refine gF ?_ | refine gI ?_)
  refine E_drange (κ := Int) u_mapIR fun it => ?_
  refine E_loop (σ := List (Int × Value) × Option (Int × Value) × List Int × Value)
    (fun s => (s.2.2.1 ++ s.1.map (·.1)).Perm (kv.map (·.1)))
    (fun s => [.func (.yield l) #[] #[], .pointer (some ⟨it, 0, none⟩)])
    (fun s => dit kI o it r kv s.1 s.2.1 :: lpo l L .ready .nrm :: osl 3 1 s.2.2.2 s.2.2.1.length (ints s.2.2.1) :: cel true sb 110 [s.2.2.2] :: dfo dl :: cel true mb 95 [.map (some r)] :: H')
    (fun s => s.1.length) (kv, none, [], .slice none 0 0) (fun s => rfl) rfl (by simp) ?_ ?_
  · intro W hW
    refine osl_nil (T := 3) (sz := 1) ?_
    exact sm (G := dit kI o it r kv kv none :: lpo l L .ready .nrm :: osl 3 1 (.slice none 0 0) 0 [] :: cel true sb 110 [.slice none 0 0] :: dfo dl :: cel true mb 95 [.map (some r)] :: H') hW
  · rintro ⟨rest, cur, zs, sv⟩ K hφ hk
    simp only at hφ hk ⊢
    refine E_fa fun _ => ?_
    refine E_dnext (κ := Int) (fun hr => ?_) (fun p rest' hp => ?_)
    · subst hr
      (repeat first | refine gS ?_ | refine gA fun _ => ?_ | refine gX fun _ _ => ?_ | refine gT ?_ | refine gF ?_ | refine gI ?_)
      refine fd (a := lpo l L .ready .nrm) (E_over (by simp) ?_)
      unfold aft
      (repeat first | refine gS ?_ | refine gA fun _ => ?_ | refine gX fun _ _ => ?_ | refine gT ?_ | refine gF ?_ | refine gI ?_)
      refine fd (a := dfo dl) (E_done1 ?_)
      refine fd (a := osl 3 1 sv zs.length (ints zs)) ?_
      have hz : zs.Perm (kv.map (·.1)) := by simpa using hφ
      have hl : zs.length = kv.length := by have := hz.length_eq; simpa using this
      refine E_sortI sortOk (by omega) ?_
      rw [hl]
      refine fd (a := dit kI o it r kv [] none) (E_idone ?_)
      refine sm (h sv zs hz)
    · (repeat first | refine gS ?_ | refine gA fun _ => ?_ | refine gX fun _ _ => ?_ | refine gT ?_ | refine gF ?_ | refine gI ?_)
      refine E_dentry (κ := Int) ?_
      (repeat first | refine gS ?_ | refine gA fun _ => ?_ | refine gX fun _ _ => ?_ | refine gT ?_ | refine gF ?_ | refine gI ?_)
      refine fd (a := lpo l L .ready .nrm) (hY _ _ _ rfl ?_)
      refine E_begun ?_
      (repeat first | refine gS ?_ | refine gA fun _ => ?_ | refine gX fun _ _ => ?_ | refine gT ?_ | refine gF ?_ | refine gI ?_)
      refine E_bsl [(0, 1)] u_ints elt_int (by simp) (by decide) (l0 := [.int .i64 0]) rfl fun b => ?_
      refine fd (a := osl 3 1 sv zs.length (ints zs)) ?_
      have hl : zs.length + rest.length = kv.length := by have := hφ.length_eq; simpa using this
      have hr : rest.length = rest'.length + 1 := by simpa using hp.length_eq
      refine E_app (m := 1) (ys := [.int .i64 p.1]) u_ints elt_int (rd_slice (l := [.int .i64 p.1]) (T := 3) (κ := true) u_ints rfl rfl (by simp [isCell])) (by omega) (by omega) fun v' _ => ?_
      rw [ints_snoc]
      (repeat first | refine gS ?_ | refine gA fun _ => ?_ | refine gX fun _ _ => ?_ | refine gT ?_ | refine gF ?_ | refine gI ?_)
      refine fd (a := lpo l L .busy .nrm) (E_ended ?_)
      refine E_notb ?_
      refine E_ff ?_
      (repeat first | refine gS ?_ | refine gA fun _ => ?_ | refine gX fun _ _ => ?_ | refine gT ?_ | refine gF ?_ | refine gI ?_)
      have h1 := (hp.map (·.1)).append_left zs
      have hk' := hk (rest', some p, zs ++ [p.1], v') (by simpa using h1.symm.trans hφ) (by simp [hr])
      simp only [List.length_append, List.length_cons, List.length_nil, Nat.zero_add] at hk'
      exact sm hk'
end Go.Proofs.YtmbfmkiagdhcoaaGreat.Shf
end
section
namespace Go.Proofs.YtmbfmkiagdhcoaaGreat.Bn
open Go Go.SL Go.Proofs Go.Proofs.YtmbfmkiagdhcoaaGreat.Sh Go.Proofs.YtmbfmkiagdhcoaaGreat.Oct Go.Proofs.YtmbfmkiagdhcoaaGreat.Disk Go.Proofs.YtmbfmkiagdhcoaaGreat.Slot Go.Proofs.YtmbfmkiagdhcoaaGreat.Pk Go.Proofs.YtmbfmkiagdhcoaaGreat.Ext
variable {B : World} {H : List Asrt} {K : Value → WT} {W : WT}
abbrev pcV (p : Pc) : Value := pI p.pos p.n
structure KV (P : List Pc) (kv : List (Int × Value)) : Prop where
  look : ∀ b, kv.lookup b = (known P b).map pcV
  keys : (kv.map (·.1)).Perm (P.map fun p => (p.bin : Int))
theorem KV.nil : KV [] [] := ⟨fun _ => rfl, .refl _⟩
theorem KV.put {P : List Pc} {kv : List (Int × Value)} (h : KV P kv) {p : Pc} (hn : known P p.bin = none) : KV (putP P p) (dput kv p.bin (pcV p)) := by
  have hl : kv.lookup (p.bin : Int) = none := by rw [h.look, hn]; rfl
  refine ⟨fun b => ?_, ?_⟩
  · rw [lookup_dput]
    by_cases hb : b = p.bin
    · subst hb
      rw [if_pos rfl, known_put_eq hn]; rfl
    · rw [if_neg hb, known_put_ne (fun e => hb e.symm)]
      exact h.look b
  · rw [dput_keys, hl, if_neg (by decide)]
    exact (List.perm_append_comm.trans ((h.keys.cons _).trans (List.Perm.map (fun p : Pc => (p.bin : Int)) (put_perm P p).symm)))
theorem KV.del {P : List Pc} {kv : List (Int × Value)} (h : KV P kv) (b : Int) : KV (delP P b) (ddel kv b) := by
  refine ⟨fun c => ?_, ?_⟩
  · rw [lookup_ddel]
    by_cases hb : c = b
    · subst hb
      rw [if_pos rfl]
      have : known (delP P c) c = none := by
        unfold known delP
        rw [List.find?_eq_none]
        intro x hx
        have := (List.mem_filter.1 hx).2
        simpa using this
      rw [this]; rfl
    · rw [if_neg hb, known_del_ne (fun e => hb e.symm)]
      exact h.look c
  · have e1 : (ddel kv b).map (·.1) = (kv.map (·.1)).filter fun k => decide (k ≠ b) := by unfold ddel; rw [List.filter_map]; rfl
    have e2 : (delP P b).map (fun p => (p.bin : Int)) = (P.map fun p => (p.bin : Int)).filter fun k => decide (k ≠ b) := by unfold delP; rw [List.filter_map]; rfl
    rw [e1, e2]
    exact h.keys.filter _
theorem KV.len {P : List Pc} {kv : List (Int × Value)} (h : KV P kv) : kv.length = P.length := by
  have := h.keys.length_eq
  simpa using this
def shf (a d m : Nat) (S : Shf) : Asrt := ex fun (x : Nat × List (Int × Value)) => all [cel true a 97 [ptr d, ptr m, .map (some x.1)], disk d S.D, xmap m S.f (S.f + S.T.length) S.R, dct kI true x.1 x.2, pur (KV S.P x.2)]
theorem E_shf {a d m : Nat} {S : Shf} (h : ∀ r kv, KV S.P kv → E B (cel true a 97 [ptr d, ptr m, .map (some r)] :: disk d S.D :: xmap m S.f (S.f + S.T.length) S.R :: dct kI true r kv :: H) W) : E B (shf a d m S :: H) W := by
  refine E_ex fun x => E_all ?_
  simp only [List.cons_append, List.nil_append]
  refine fd (a := pur (KV S.P x.2)) (E_pur fun hk => ?_)
  exact sm (h x.1 x.2 hk)
theorem E_shfS {a d m r : Nat} {S : Shf} {kv : List (Int × Value)} {D : Dk} {R : List Rn} {f t : Nat} (hk : KV S.P kv) (hD : D = S.D) (hf : f = S.f) (ht : t = S.f + S.T.length) (hR : R = S.R) (h : E B (shf a d m S :: H) W) :
    E B (cel true a 97 [ptr d, ptr m, .map (some r)] :: disk d D :: xmap m f t R :: dct kI true r kv :: H) W := by
  subst hD hf ht hR
  refine E_pur' hk ?_
  have h' := E_all' (E_ex' (f := fun (x : Nat × List (Int × Value)) => all [cel true a 97 [ptr d, ptr m, .map (some x.1)], disk d S.D, xmap m S.f (S.f + S.T.length) S.R, dct kI true x.1 x.2, pur (KV S.P x.2)]) (r, kv) h)
  simp only [List.cons_append, List.nil_append] at h'
  exact sm h'
theorem u_pSh : Tryz.prog.underlying 39 = some (.pointer 97) := by kernel_rfl
attribute [local irreducible] S.pick S.ld S.ldN S.st S.box S.nc S.fad S.ixS S.ixA S.chr S.prt S.ext S.bin S.sh S.sbin S.beq S.neg1 S.com1 S.not1 S.cvt S.str1 S.lenS S.len S.cap S.lenM S.mx S.mn S.mkM S.cond S.gd S.fa S.dr S.rck S.join S.loop S.cvv S.eqv S.slc S.slcS S.b2s S.lk V U CF Gives E cel mpb osl ros dct dit itr lpo dfo
theorem shknown {a d m : Nat} {S : Shf} {b : Int} (h : E B (shf a d m S :: H) (K (.bool (known S.P b).isSome))) : E B (shf a d m S :: H) (CF Tryz.prog 37 [ptr a, I b] K) := by
  refine E_mono (W := s37 _ _ K) ?_ fun _ => c37
  unfold s37
  refine E_shf fun r kv hk => ?_
  refine E_nc ?_
  refine E_fad0 ?_
  refine E_ld ?_
  have hl := hk.look b
  cases ho : known S.P b with
  | none =>
    rw [ho] at h hl
    refine E_dlk0 (κ := Int) (enc := kI) (k := b) hl ?_
    refine E_ext ?_
    refine E_ext ?_
    refine E_box (v := pI 0 0) (vs := [I 0, I 0]) fun v5 => ?_
    refine E_stW (vs := [I 0, I 0]) rfl rfl ?_
    refine sm (G := cel true a 97 [ptr d, ptr m, .map (some r)] :: disk d S.D :: xmap m S.f (S.f + S.T.length) S.R :: dct kI true r kv :: H) ?_
    exact E_shfS hk rfl rfl rfl rfl h
  | some p =>
    rw [ho] at h hl
    refine E_dlk1 (κ := Int) (enc := kI) (k := b) hl ?_
    refine E_ext ?_
    refine E_ext ?_
    refine E_box (v := pI 0 0) (vs := [I 0, I 0]) fun v5 => ?_
    refine E_stW (v := pcV p) (vs := [I p.pos, I p.n]) rfl rfl ?_
    refine sm (G := cel true a 97 [ptr d, ptr m, .map (some r)] :: disk d S.D :: xmap m S.f (S.f + S.T.length) S.R :: dct kI true r kv :: H) ?_
    exact E_shfS hk rfl rfl rfl rfl h
theorem drop_at {cs : List (List UInt8)} {i : Nat} {c : List UInt8} (h : cs[i]? = some c) : cs.drop i = c :: cs.drop (i + 1) := by
  obtain ⟨hi, hc⟩ := List.getElem?_eq_some_iff.1 h
  rw [List.drop_eq_getElem_cons hi, hc]
theorem gwrite {a d m n : Nat} {x : Int} {D : Dk} {mp v : Value} {b : List UInt8} [hv : Rb B H v b] (hb : 128 * n ≤ b.length) (hx : 0 ≤ x ∧ x ≤ 5000) (hn : n ≤ 100)
    (h : E B (cel true a 97 [ptr d, ptr m, mp] :: disk d (wrS D x (chunks b n)).1 :: H) (K (I (wrS D x (chunks b n)).2))) :
    E B (cel true a 97 [ptr d, ptr m, mp] :: disk d D :: H) (CF Tryz.prog 39 [ptr a, pI x n, v] K) := by
  refine E_mono (W := s39 _ _ _ K) ?_ fun _ => c39
  unfold s39
  refine E_box (v := pI x n) (vs := [I x, I n]) fun v4 => ?_
  refine E_fad0 ?_
  refine E_ld ?_
  have hcl := chunks_len b n
  refine E_loop (n := 5) (σ := Nat × Dk) (fun s => s.1 ≤ n ∧ wrS s.2 (x + (s.1 : Int)) ((chunks b n).drop s.1) = wrS D x (chunks b n)) (fun s => [ptr a, v, ptr v4, I n, I s.1])
    (fun s => cel true v4 32 [I x, I n] :: cel true a 97 [ptr d, ptr m, mp] :: disk d s.2 :: H) (fun s => n - s.1) (0, D) (fun _ => rfl) rfl ⟨Nat.zero_le _, by simp⟩ (fun W hW => hW) ?_
  rintro ⟨i, D'⟩ K0 ⟨hi, hw⟩ hk
  simp only at hi hw hk ⊢
  refine E_fa fun _ => ?_
  refine E_lss ?_
  refine E_if (fun hc => ?_) (fun hc => ?_)
  · have hx2 := chunks_at (b := b) (n := n) (j := i) (by omega)
    rw [drop_at hx2] at hw
    refine E_dr ?_
    refine E_nc ?_
    refine E_fad0 ?_
    refine E_ld ?_
    refine E_fad0 ?_
    refine E_ld ?_
    refine E_addI (by omega) (by omega) ?_
    refine E_mulI (by omega) (by omega) ?_
    refine E_addI (by omega) (by omega) ?_
    refine E_mulI (by omega) (by omega) ?_
    refine E_slcB (v := v) (bs := b) (l := 128 * i) (hh := 128 * (i + 1)) (Dig.bndN (by omega)) (Dig.bndN (by omega)) (by omega) (by omega) fun z hz _ => ?_
    rw [show 128 * (i + 1) - 128 * i = 128 by omega] at hz
    have hz1 := hz (cel true v4 32 [I x, I n] :: cel true a 97 [ptr d, ptr m, mp] :: H)
    refine fd (a := disk d D') ?_
    refine write (bs := (b.drop (128 * i)).take 128) ?_
    refine E_neq ?_
    rw [wrS] at hw
    refine E_if (fun hc1 => ?_) (fun hc1 => ?_)
    · rw [if_pos hc1] at hw
      rw [← hw] at h
      exact sm h
    · rw [if_neg hc1] at hw
      refine E_addI (by omega) (by omega) ?_
      exact sm (hk (i + 1, D'.wr (x + (i : Int)) ((b.drop (128 * i)).take 128)) ⟨by simp only; omega, by
        simp only
        rw [show x + ((i + 1 : Nat) : Int) = x + (i : Int) + 1 by omega]
        exact hw⟩ (by simp only; omega))
  · have hie : i = n := by omega
    subst hie
    rw [List.drop_of_length_le (by omega), wrS] at hw
    rw [← hw] at h
    exact sm h
theorem rdE_suc (D : Dk) (x : Int) (i : Nat) (h : rdE D x i = 0) (hz : ∀ j, j < i → D.pow (x + (j : Int)) = 0) : rdE D x (i + 1) = D.pow (x + (i : Int)) := by
  unfold rdE
  rw [List.range_succ, List.map_append, List.find?_append, List.find?_eq_none.2]
  · by_cases h0 : D.pow (x + (i : Int)) = 0
    · simp [h0]
    · simp [h0]
  · intro y hy
    obtain ⟨j, hj, rfl⟩ := List.mem_map.1 hy
    simp [hz j (List.mem_range.1 hj)]
theorem rdE_more (D : Dk) (x : Int) {i n : Nat} (hi : i ≤ n) (h : rdE D x i ≠ 0) : rdE D x n = rdE D x i := by
  unfold rdE at h ⊢
  obtain ⟨k, rfl⟩ := Nat.exists_eq_add_of_le hi
  rw [List.range_add, List.map_append, List.find?_append]
  cases ho : ((List.range i).map fun j : Nat => D.pow (x + (j : Int))).find? fun e => decide (e ≠ 0) with
  | none => rw [ho] at h; exact absurd rfl h
  | some y => rfl
theorem rdE_0 (D : Dk) (x : Int) {n : Nat} (hz : ∀ j, j < n → D.pow (x + (j : Int)) = 0) : rdE D x n = 0 := by
  unfold rdE
  rw [List.find?_eq_none.2]
  · rfl
  · intro y hy
    obtain ⟨j, hj, rfl⟩ := List.mem_map.1 hy
    simp [hz j (List.mem_range.1 hj)]
theorem rdB_suc (D : Dk) (x : Int) (i : Nat) : rdB D x (i + 1) = rdB D x i ++ D.rd (x + (i : Int)) := by unfold rdB; rw [List.range_succ, List.flatMap_append]; simp
theorem rd_len {D : Dk} (h : D.Ok) (i : Int) : (D.rd i).length ≤ 128 := by
  unfold Dk.rd
  split
  · simp
  · split
    · rename_i s hs
      obtain ⟨h1, h2⟩ := h.len s (List.mem_of_getElem? hs)
      unfold Sec.now
      cases hl : s.last with
      | none => simp [h1]
      | some b => simp [h2 b hl]
    · simp
theorem rdB_len {D : Dk} (h : D.Ok) (x : Int) (n : Nat) : (rdB D x n).length ≤ 128 * n := by
  induction n with
  | zero => simp [rdB]
  | succ n ih =>
    have := rd_len h (x + (n : Int))
    rw [rdB_suc, List.length_append]; omega
def rdA (D : Dk) (x : Int) (n : Nat) : Int × List UInt8 := if rdE D x n ≠ 0 then (rdE D x n, []) else (0, rdB D x n)
theorem gread {a d m n : Nat} {x : Int} {D : Dk} {mp : Value} (hx : 0 ≤ x ∧ x ≤ 5000) (hn : n ≤ 100)
    (h : D.Ok → ∀ v [CellI v], E B (sls cB 5 1 v (rdA D x n).2 :: cel true a 97 [ptr d, ptr m, mp] :: disk d D :: H) (K (.tuple #[v, I (rdA D x n).1]))) :
    E B (cel true a 97 [ptr d, ptr m, mp] :: disk d D :: H) (CF Tryz.prog 80 [ptr a, pI x n] K) := by
  refine E_mono (W := s80 _ _ K) ?_ fun _ => c80
  unfold s80
  refine fd (a := disk d D) ?_
  refine E_dkok fun hD => ?_
  refine sm (G := cel true a 97 [ptr d, ptr m, mp] :: disk d D :: H) ?_
  have h := h hD
  refine E_box (v := pI x n) (vs := [I x, I n]) fun v4 => ?_
  refine E_fad0 ?_
  refine E_ld ?_
  refine sls_nil cB 1 (T := 5) ?_
  refine E_loop (n := 5) (σ := Nat × Pk.Cv) (fun s => s.1 ≤ n ∧ ∀ j, j < s.1 → D.pow (x + (j : Int)) = 0) (fun s => [ptr a, ptr v4, s.2.1, I n, I s.1])
    (fun s => sls cB 5 1 s.2.1 (rdB D x s.1) :: cel true v4 32 [I x, I n] :: cel true a 97 [ptr d, ptr m, mp] :: disk d D :: H) (fun s => n - s.1) (0, ⟨Pk.nil, rfl⟩) (fun _ => rfl) rfl ⟨Nat.zero_le _, fun j hj => by omega⟩ (fun W hW => hW) ?_
  rintro ⟨i, o, hco⟩ K0 ⟨hi, hz⟩ hk
  simp only at hi hz hk ⊢
  have io : CellI o := ⟨hco⟩
  have h0 := rdE_0 D x hz
  have hbl := rdB_len hD x i
  refine E_fa fun _ => ?_
  refine E_lss ?_
  refine E_if (fun hc => ?_) (fun hc => ?_)
  · have hs := rdE_suc D x i h0 hz
    refine E_dr ?_
    refine E_nc ?_
    refine E_fad0 ?_
    refine E_ld ?_
    refine E_fad0 ?_
    refine E_ld ?_
    refine E_addI (by omega) (by omega) ?_
    refine fd (a := disk d D) ?_
    refine read fun u _ => ?_
    refine E_ext ?_
    refine E_ext ?_
    refine E_neq ?_
    refine E_if (fun hc1 => ?_) (fun hc1 => ?_)
    · have hm := rdE_more D x (i := i + 1) (n := n) (by omega) (by rw [hs]; exact hc1)
      have e : rdA D x n = (D.pow (x + (i : Int)), []) := by unfold rdA; rw [hm, hs, if_pos hc1]
      have h' := h Pk.nil
      rw [e] at h'
      exact sls_nil cB 1 (T := 5) (sm h')
    · have h1 : D.pow (x + (i : Int)) = 0 := by simpa using hc1
      have hrl := rd_len hD (x + (i : Int))
      refine E_bytes ?_
      refine fd (a := sls cB 5 1 o (rdB D x i)) ?_
      refine E_sapps (enc := cB) (u := u) (m := D.rd (x + (i : Int))) Dig.u_bytesD Dig.elt_byteD (by omega) (by omega) fun w iw => ?_
      refine E_addI (by omega) (by omega) ?_
      have hk1 := hk (i + 1, ⟨w, iw.pf⟩) ⟨by simp only; omega, fun j hj => by
        rcases Nat.lt_or_ge j i with h' | h'
        · exact hz j h'
        · have : j = i := by omega
          subst this
          exact h1⟩ (by simp only; omega)
      simp only [rdB_suc] at hk1
      exact sm hk1
  · have hie : i = n := by omega
    subst hie
    have e : rdA D x i = (0, rdB D x i) := by unfold rdA; rw [h0]; simp
    have h' := h o
    rw [e] at h'
    exact sm h'
end Go.Proofs.YtmbfmkiagdhcoaaGreat.Bn
end
section
namespace Go.Proofs.YtmbfmkiagdhcoaaGreat.Bn
open Go Go.SL Go.Proofs Go.Proofs.YtmbfmkiagdhcoaaGreat.Sh Go.Proofs.YtmbfmkiagdhcoaaGreat.Oct Go.Proofs.YtmbfmkiagdhcoaaGreat.Disk Go.Proofs.YtmbfmkiagdhcoaaGreat.Slot Go.Proofs.YtmbfmkiagdhcoaaGreat.Pk Go.Proofs.YtmbfmkiagdhcoaaGreat.Ext
variable {B : World} {H : List Asrt} {K : Value → WT} {W : WT}
abbrev nl : Value := .slice none 0 0
theorem parse_slots {b : List UInt8} (hm : b.length ≤ 1000000000) : ∀ s ∈ (parseL b).2.2.2, s.pos ≤ 1000000000000 ∧ s.len ≤ 512 := by
  have key : ∀ (l : List Sl) (q : Nat), (∀ s ∈ l, s.len ≤ 512) → (∀ n p q', l = rowsL b n p q' → q' ≤ q → ∀ s ∈ l, s.pos ≤ q + 512 * l.length) := by
    intro l
    induction l with
    | nil => intro q _ n p q' _ _ s hs; cases hs
    | cons x l ih =>
      intro q hl n p q' hr hq s hs
      cases n with
      | zero => simp [rowsL] at hr
      | succ n =>
        rw [rowsL] at hr
        simp only [List.cons.injEq] at hr
        obtain ⟨hx, hr⟩ := hr
        have hxl := hl x (List.mem_cons_self ..)
        rw [hx] at hxl
        simp only at hxl
        rcases List.mem_cons.1 hs with rfl | hs
        · rw [hx]; simp only [List.length_cons]; omega
        · have := ih (q + 512) (fun s hs => hl s (List.mem_cons_of_mem _ hs)) n (p + 34) (q' + tabE b p) hr (by omega) s hs
          simp only [List.length_cons]; omega
  intro s hs
  unfold parseL at hs
  dsimp only at hs
  split at hs
  · cases hs
  rename_i h0
  have h0 : headE b = 0 := by simpa using h0
  obtain ⟨_, _, h3, _⟩ := headE_0 h0
  split at hs
  · cases hs
  split at hs
  · cases hs
  rename_i hok
  split at hs
  · cases hs
  have hok := okE_iff.1 (by simpa using hok)
  have hk := key _ 128 (fun s hs => (hok s hs).2) _ _ _ rfl (Nat.le_refl _) s hs
  rw [rows_len] at hk
  exact ⟨by omega, (hok s hs).2⟩
abbrev binV (x : Par) (u : Value) : Value := .agg #[I x.1, I x.2.1, u]
attribute [local irreducible] S.pick S.ld S.ldN S.st S.box S.nc S.fad S.ixS S.ixA S.chr S.prt S.ext S.bin S.sh S.sbin S.beq S.neg1 S.com1 S.not1 S.cvt S.str1 S.lenS S.len S.cap S.lenM S.mx S.mn S.mkM S.cond S.gd S.fa S.dr S.rck S.join S.loop S.cvv S.eqv S.slc S.slcS S.b2s S.lk V U CF Gives E cel mpb osl ros dct dit itr lpo dfo
theorem E_none {v5 a d m : Nat} {S : Shf} {b e : Int} {l : List Value} (hl : l.length = 3) (he : wholeV S b = (e, [], 0, 0, []))
    (h : ∀ v u [CellI v] [CellI u], E B (sls cB 5 1 v (wholeV S b).2.1 :: sls cSl 109 34 u (wholeV S b).2.2.2.2 :: shf a d m S :: H) (K (.tuple #[v, binV (wholeV S b).2.2 u, I (wholeV S b).1]))) :
    E B (cel true v5 58 l :: shf a d m S :: H) (V Tryz.prog (Instr.build 58 #[]) fun v13 => SL.S.st 3 (ptr v5) v13 fun _ => SL.S.ldN 3 (ptr v5) fun v5' => K (.tuple #[nl, v5', I e])) := by
  refine Dig.E_Vr build0 ?_
  refine E_stW (vs := [I 0, I 0, nl]) rfl hl ?_
  refine E_ldNA ?_
  refine sls_nil cSl 34 (T := 109) ?_
  refine sls_nil cB 1 (T := 5) ?_
  have h' := h nl nl
  rw [he] at h'
  exact sm h'
theorem whole {a d m : Nat} {S : Shf} {b : Int} (hi : Inv S)
    (h : ∀ v u [CellI v] [CellI u], E B (sls cB 5 1 v (wholeV S b).2.1 :: sls cSl 109 34 u (wholeV S b).2.2.2.2 :: shf a d m S :: H) (K (.tuple #[v, binV (wholeV S b).2.2 u, I (wholeV S b).1]))) :
    E B (shf a d m S :: H) (CF Tryz.prog 42 [ptr a, I b] K) := by
  refine E_mono (W := s42 _ _ K) ?_ fun _ => c42
  unfold s42
  refine E_box (v := binV (0, 0, []) nl) (vs := [I 0, I 0, nl]) fun v5 => ?_
  refine E_peq u_pSh ?_
  refine E_ff ?_
  refine fd (a := shf a d m S) ?_
  refine shknown ?_
  refine E_notb ?_
  cases ho : known S.P b with
  | none =>
    refine E_tt ?_
    refine fd (a := cel true v5 58 [I 0, I 0, nl]) ?_
    exact E_none rfl (by unfold wholeV; rw [ho]) h
  | some p =>
    obtain ⟨hp, hb⟩ := known_some ho
    obtain ⟨c1, c2, c3, c4, c5⟩ := hi.pc p hp
    have hle := hi.le
    refine E_ff ?_
    refine E_shf fun r kv hk => ?_
    have hl := hk.look b
    rw [ho] at hl
    refine E_dr ?_
    refine E_nc ?_
    refine E_fad0 ?_
    refine E_nc ?_
    refine E_fad0 ?_
    refine E_ld ?_
    refine E_dlk1 (κ := Int) (enc := kI) (k := b) hl ?_
    refine sm (G := cel true a 97 [ptr d, ptr m, .map (some r)] :: disk d S.D :: xmap m S.f (S.f + S.T.length) S.R :: dct kI true r kv :: cel true v5 58 [I 0, I 0, nl] :: H) ?_
    refine gread (x := p.pos) (n := p.n) (by omega) (by omega) fun hD v iv => ?_
    refine E_ext ?_
    refine E_ext ?_
    refine E_neq ?_
    have hw : wholeV S b = if rdE S.D p.pos p.n ≠ 0 then (rdE S.D p.pos p.n, [], 0, 0, []) else
        if (parseL (rdB S.D p.pos p.n)).1 ≠ 0 ∨ ((parseL (rdB S.D p.pos p.n)).2.1 : Int) ≠ b then (13, [], 0, 0, []) else (0, rdB S.D p.pos p.n, (parseL (rdB S.D p.pos p.n)).2) := by unfold wholeV; rw [ho]
    have hbl := rdB_len hD p.pos p.n
    unfold rdA
    by_cases h0 : rdE S.D p.pos p.n ≠ 0
    · rw [if_pos h0] at hw ⊢
      refine E_ifT h0 ?_
      refine E_drop ?_
      refine sm (G := cel true a 97 [ptr d, ptr m, .map (some r)] :: disk d S.D :: xmap m S.f (S.f + S.T.length) S.R :: dct kI true r kv :: cel true v5 58 [I 0, I 0, nl] :: H) ?_
      refine E_shfS hk rfl rfl rfl rfl ?_
      refine fd (a := cel true v5 58 [I 0, I 0, nl]) ?_
      exact E_none rfl hw h
    rw [if_neg h0] at hw ⊢
    refine E_ifF (by simp) ?_
    refine pkparse (v := v) (b := rdB S.D p.pos p.n) (by omega) fun u iu => ?_
    unfold parA
    refine E_ext ?_
    refine E_ext ?_
    generalize rdB S.D p.pos p.n = bs at hw hbl ⊢
    generalize hP : parseL bs = P at hw ⊢
    refine E_box (v := binV (0, 0, []) nl) (vs := [I 0, I 0, nl]) fun v9 => ?_
    refine E_stW (v := binV P.2 u) (vs := [I P.2.1, I P.2.2.1, u]) rfl rfl ?_
    refine E_join1 (n := 4) [ptr v5, v, ptr v9, .bool (decide (P.1 ≠ 0 ∨ (P.2.1 : Int) ≠ b))] (cel true v9 58 [I P.2.1, I P.2.2.1, u] :: sls cB 5 1 v bs :: sls cSl 109 34 u P.2.2.2 :: cel true a 97 [ptr d, ptr m, .map (some r)] :: disk d S.D :: xmap m S.f (S.f + S.T.length) S.R :: dct kI true r kv :: cel true v5 58 [I 0, I 0, nl] :: H) (fun q hq => ?_) ?_
    · refine E_neq ?_
      by_cases h1 : P.1 ≠ 0
      · rw [decide_eq_true (.inl h1)] at hq
        rw [decide_eq_true h1]
        refine E_gtt ?_
        refine E_gtt ?_
        refine E_gtt ?_
        refine E_gtt ?_
        refine E_ptt ?_
        exact sm hq
      · have e : decide (P.1 ≠ 0 ∨ (P.2.1 : Int) ≠ b) = decide ((P.2.1 : Int) ≠ b) := by rw [decide_eq_decide]; constructor <;> intro h' <;> first | exact .inr h' | exact h'.resolve_left h1
        rw [e] at hq
        rw [decide_eq_false h1]
        refine E_gft ?_
        refine E_fad0 ?_
        refine E_gft ?_
        refine E_ld ?_
        refine E_gft ?_
        refine E_gft ?_
        refine E_neq ?_
        refine E_pff ?_
        exact sm hq
    refine E_fa fun _ => ?_
    refine E_if (fun hc => ?_) (fun hc => ?_)
    · rw [if_pos hc] at hw
      refine sm (G := cel true a 97 [ptr d, ptr m, .map (some r)] :: disk d S.D :: xmap m S.f (S.f + S.T.length) S.R :: dct kI true r kv :: cel true v5 58 [I 0, I 0, nl] :: H) ?_
      refine E_shfS hk rfl rfl rfl rfl ?_
      refine fd (a := cel true v5 58 [I 0, I 0, nl]) ?_
      exact E_none rfl hw h
    · rw [if_neg hc] at hw
      refine E_dr ?_
      refine E_ldNA ?_
      refine E_stW (vs := [I P.2.1, I P.2.2.1, u]) rfl rfl ?_
      refine E_ldNA ?_
      have h' := h v u
      rw [hw] at h'
      refine sm (G := cel true a 97 [ptr d, ptr m, .map (some r)] :: disk d S.D :: xmap m S.f (S.f + S.T.length) S.R :: dct kI true r kv :: sls cB 5 1 v bs :: sls cSl 109 34 u P.2.2.2 :: H) ?_
      refine E_shfS hk rfl rfl rfl rfl ?_
      exact sm h'
theorem whole_len {S : Shf} {b : Int} : (wholeV S b).1 = 0 → (∃ p, known S.P b = some p ∧ (wholeV S b).2.1 = rdB S.D p.pos p.n ∧ (wholeV S b).2.2 = (parseL (rdB S.D p.pos p.n)).2) := by
  unfold wholeV
  split
  · intro h; cases h
  · split
    · rename_i h0; intro h; exact absurd h h0
    · split
      · intro h; cases h
      · rename_i p ho _ _
        intro _
        exact ⟨p, ho, rfl, rfl⟩
theorem chunk {a d m : Nat} {S : Shf} {b i : Int} (hi : Inv S)
    (h : ∀ v [CellI v], E B (sls cB 5 1 v (chunkV S b i).2 :: shf a d m S :: H) (K (.tuple #[v, I (chunkV S b i).1]))) :
    E B (shf a d m S :: H) (CF Tryz.prog 14 [ptr a, I b, I i] K) := by
  refine E_mono (W := s14 _ _ _ K) ?_ fun _ => c14
  unfold s14
  refine E_shf fun r kv hk => ?_
  refine fd (a := disk d S.D) ?_
  refine E_dkok fun hD => ?_
  refine sm (G := cel true a 97 [ptr d, ptr m, .map (some r)] :: disk d S.D :: xmap m S.f (S.f + S.T.length) S.R :: dct kI true r kv :: H) ?_
  refine E_shfS hk rfl rfl rfl rfl ?_
  refine whole hi fun v u iv iu => ?_
  have hwl := whole_len (S := S) (b := b)
  have er : ∀ (e : Int) (G1 G2 G3 : Asrt), chunkV S b i = (e, []) → E B (G1 :: G2 :: G3 :: shf a d m S :: H) (K (.tuple #[nl, I e])) := fun e G1 G2 G3 he => by
    have h' := h nl
    rw [he] at h'
    refine sls_nil cB 1 (T := 5) ?_
    exact sm h'
  have hch : chunkV S b i = if (wholeV S b).1 ≠ 0 then ((wholeV S b).1, []) else
    if i < 0 ∨ ((wholeV S b).2.2.2.2.length : Int) ≤ i then (9, []) else match (wholeV S b).2.2.2.2[i.toNat]? with
    | none => (9, [])
    | some s => if (chunkL (wholeV S b).2.1 s).1 ≠ 0 then (13, []) else (0, (chunkL (wholeV S b).2.1 s).2) := rfl
  generalize wholeV S b = w at hwl hch ⊢
  refine E_ext ?_
  refine E_ext ?_
  refine E_ext ?_
  refine E_box (v := binV (0, 0, []) nl) (vs := [I 0, I 0, nl]) fun v9 => ?_
  refine E_stW (v := binV w.2.2 u) (vs := [I w.2.2.1, I w.2.2.2.1, u]) rfl rfl ?_
  refine E_neq ?_
  refine E_if (fun hc => ?_) (fun hc => ?_)
  · rw [if_pos hc] at hch
    exact er _ _ _ _ hch
  rw [if_neg hc] at hch
  obtain ⟨p, hkp, hw1, hw2⟩ := hwl (by simpa using hc)
  obtain ⟨c1, c2, c3, c4, c5⟩ := hi.pc p (known_some hkp).1
  have hbl := rdB_len hD p.pos p.n
  refine E_join1 (n := 4) [I i, v, ptr v9, .bool (decide (i < 0 ∨ (w.2.2.2.2.length : Int) ≤ i))] (cel true v9 58 [I w.2.2.1, I w.2.2.2.1, u] :: sls cB 5 1 v w.2.1 :: sls cSl 109 34 u w.2.2.2.2 :: shf a d m S :: H) (fun q hq => ?_) ?_
  · refine E_lss ?_
    by_cases h1 : i < 0
    · rw [decide_eq_true (.inl h1)] at hq
      rw [decide_eq_true h1]
      refine E_gtt ?_
      refine E_gtt ?_
      refine E_gtt ?_
      refine E_gtt ?_
      refine E_gtt ?_
      refine E_ptt ?_
      exact hq
    · have e : decide (i < 0 ∨ (w.2.2.2.2.length : Int) ≤ i) = decide ((w.2.2.2.2.length : Int) ≤ i) := by rw [decide_eq_decide]; omega
      rw [e] at hq
      rw [decide_eq_false h1]
      refine E_gft ?_
      refine E_gft ?_
      refine E_fad0 ?_
      refine E_gft ?_
      refine E_ld ?_
      refine E_gft ?_
      refine E_rslen (v := u) (l := w.2.2.2.2) ?_
      refine E_gft ?_
      refine E_geq ?_
      refine E_pff ?_
      exact hq
  refine E_fa fun _ => ?_
  refine E_if (fun hc1 => ?_) (fun hc1 => ?_)
  · rw [if_pos hc1] at hch
    exact er 9 _ _ _ hch
  rw [if_neg hc1] at hch
  obtain ⟨j, rfl⟩ : ∃ j : Nat, i = (j : Int) := ⟨i.toNat, by omega⟩
  rw [Int.toNat_natCast] at hch
  have hx : w.2.2.2.2[j]? = some (w.2.2.2.2[j]'(by omega)) := List.getElem?_eq_getElem (by omega)
  have hpos := parse_slots (b := rdB S.D p.pos p.n) (by omega) (w.2.2.2.2[j]'(by omega)) (by rw [← hw2]; exact List.getElem_mem _)
  generalize (w.2.2.2.2[j]'(by omega)) = s at hx hpos
  rw [hx] at hch
  dsimp only at hch
  refine E_fad0 ?_
  refine E_ld ?_
  refine E_rsix (v := u) (l := w.2.2.2.2) hx fun _ _ => ?_
  refine E_ptldN (cs := cSl s) (by rw [List.drop_zero, List.take_of_length_le (by rw [cSl_len]; omega)]) (cSl_len s) ?_
  refine pkchunk (v := v) (b := w.2.1) (s := s) (by rw [hw1]; omega) (by omega) (by omega) fun x ix => ?_
  unfold chA
  refine E_ext ?_
  refine E_ext ?_
  refine E_neq ?_
  refine E_if (fun hc2 => ?_) (fun hc2 => ?_)
  · rw [if_pos hc2] at hch
    refine E_drop ?_
    exact er 13 _ _ _ hch
  · rw [if_neg hc2] at hch
    have h' := h x
    rw [hch] at h'
    exact sm h'
end Go.Proofs.YtmbfmkiagdhcoaaGreat.Bn
end
section
namespace Go.Proofs.YtmbfmkiagdhcoaaGreat.Bn
open Go Go.SL Go.Proofs Go.Proofs.YtmbfmkiagdhcoaaGreat.Sh Go.Proofs.YtmbfmkiagdhcoaaGreat.Oct Go.Proofs.YtmbfmkiagdhcoaaGreat.Disk Go.Proofs.YtmbfmkiagdhcoaaGreat.Slot Go.Proofs.YtmbfmkiagdhcoaaGreat.Pk Go.Proofs.YtmbfmkiagdhcoaaGreat.Ext
variable {B : World} {H : List Asrt} {K : Value → WT} {W : WT}
theorem u_pMapB : Tryz.prog.underlying 74 = some (.pointer 127) := by kernel_rfl
theorem u_pDiskB : Tryz.prog.underlying 37 = some (.pointer 121) := by kernel_rfl
theorem buildG (d m : Nat) (w : World) : (Instr.build 94 #[(0, ptr d), (1, ptr m)]).run Tryz.prog w = .ok (.agg #[ptr d, ptr m]) w := by kernel_rfl
theorem buildSh (d m r : Nat) (w : World) : (Instr.build 97 #[(0, .agg #[ptr d, ptr m]), (1, .map (some r))]).run Tryz.prog w = .ok (.agg #[ptr d, ptr m, .map (some r)]) w := by kernel_rfl
attribute [local irreducible] S.pick S.ld S.ldN S.st S.box S.nc S.fad S.ixS S.ixA S.chr S.prt S.ext S.bin S.sh S.sbin S.beq S.neg1 S.com1 S.not1 S.cvt S.str1 S.lenS S.len S.cap S.lenM S.mx S.mn S.mkM S.cond S.gd S.fa S.dr S.rck S.join S.loop S.cvv S.eqv S.slc S.slcS S.b2s S.lk V U CF Gives E cel mpb osl ros dct dit itr lpo dfo
theorem bnew {d m f : Nat} {D : Dk} {T : List Bool} {R : List Rn} (h : ∀ a, E B (shf a d m ⟨D, f, T, R, []⟩ :: H) (K (.tuple #[ptr a, I 0]))) : E B (disk d D :: xmap m f (f + T.length) R :: H) (CF Tryz.prog 15 [ptr d, ptr m] K) := by
  refine E_mono (W := s15 _ _ K) ?_ fun _ => c15
  unfold s15
  refine E_join1 (n := 3) [ptr d, ptr m, .bool false] (disk d D :: xmap m f (f + T.length) R :: H) (fun q hq => ?_) ?_
  · refine E_peq u_pDiskB ?_
    refine E_gft ?_
    refine E_gft ?_
    refine E_peq u_pMapB ?_
    refine E_pff ?_
    exact hq
  refine E_fa fun _ => ?_
  refine E_ff ?_
  refine Dig.E_Vr (buildG d m) ?_
  refine E_mkM fun r => E_dnew (enc := kI) ?_
  refine Dig.E_Vr (buildSh d m r) ?_
  refine E_box (v := .agg #[ptr d, ptr m, .map (some r)]) (vs := [ptr d, ptr m, .map (some r)]) fun a => ?_
  refine sm (G := cel true a 97 [ptr d, ptr m, .map (some r)] :: disk d D :: xmap m f (f + T.length) R :: dct kI true r [] :: H) ?_
  exact E_shfS (S := ⟨D, f, T, R, []⟩) KV.nil rfl rfl rfl rfl (h a)
theorem bnew0 {v : Value} (h : E B H (K (.tuple #[.pointer none, I 1]))) : E B H (CF Tryz.prog 15 [.pointer none, v] K) := by
  refine E_mono (W := s15 _ _ K) ?_ fun _ => c15
  unfold s15
  refine E_join1 (n := 3) [.pointer none, v, .bool true] H (fun q hq => ?_) ?_
  · refine E_peq0 u_pDiskB ?_
    refine E_gtt ?_
    refine E_gtt ?_
    refine E_ptt ?_
    exact hq
  refine E_fa fun _ => ?_
  refine E_tt ?_
  exact h
theorem bnew1 {d : Nat} (h : E B H (K (.tuple #[.pointer none, I 1]))) : E B H (CF Tryz.prog 15 [ptr d, .pointer none] K) := by
  refine E_mono (W := s15 _ _ K) ?_ fun _ => c15
  unfold s15
  refine E_join1 (n := 3) [ptr d, .pointer none, .bool true] H (fun q hq => ?_) ?_
  · refine E_peq u_pDiskB ?_
    refine E_gft ?_
    refine E_gft ?_
    refine E_peq0 u_pMapB ?_
    refine E_pff ?_
    exact hq
  refine E_fa fun _ => ?_
  refine E_tt ?_
  exact h
abbrev plV (b x n : Int) : Value := .agg #[I b, I x, I n]
theorem free {a d m : Nat} {Z : Shf} {b : Int} (hi : Inv Z) (h : E B (shf a d m (freeS Z b).2 :: H) (K (I (freeS Z b).1))) : E B (shf a d m Z :: H) (CF Tryz.prog 12 [ptr a, I b] K) := by
  refine E_mono (W := s12 _ _ K) ?_ fun _ => c12
  unfold s12
  unfold freeS at h
  refine E_peq u_pSh ?_
  refine E_ff ?_
  refine shknown ?_
  refine E_notb ?_
  cases ho : known Z.P b with
  | none =>
    rw [ho] at h
    refine E_tt ?_
    exact h
  | some p =>
    rw [ho] at h
    obtain ⟨hp, hb⟩ := known_some ho
    refine E_ff ?_
    refine E_shf fun r kv hk => ?_
    have hl := hk.look b
    rw [ho] at hl
    refine E_dr ?_
    refine E_nc ?_
    refine E_fad0 ?_
    refine E_fad0 ?_
    refine E_ld ?_
    refine E_nc ?_
    refine E_fad0 ?_
    refine E_ld ?_
    refine E_dlk1 (κ := Int) (enc := kI) (k := b) hl ?_
    refine fd (a := xmap m Z.f (Z.f + Z.T.length) Z.R) ?_
    refine xgive hi.xok ?_
    refine E_nc ?_
    refine E_fad0 ?_
    refine E_ld ?_
    refine E_ddel (κ := Int) (enc := kI) (k := b) rfl Shf.key_mapIR ?_
    obtain ⟨r1, r2, r3⟩ := rel_giveV hi.rel (p.pos : Int) (p.n : Int)
    refine sm (G := cel true a 97 [ptr d, ptr m, .map (some r)] :: disk d Z.D :: xmap m Z.f (Z.f + Z.T.length) (giveV Z.f (Z.f + Z.T.length) Z.R p.pos p.n).2 :: dct kI true r (ddel kv b) :: H) ?_
    exact E_shfS (S := { giveN Z p.pos p.n with P := delP Z.P b }) (hk.del b) rfl rfl (by simp only [giveN]; rw [r2]) rfl h
theorem fresh_is {P : List Pc} {i : Nat} (h : i < 4096) (hk : known P i = none) (hz : ∀ j, j < i → (known P (j : Nat)).isSome = true) : freshN P = i := by
  unfold freshN
  have : (List.range 4096).find? (fun n : Nat => (known P (n : Int)).isNone) = some i := by
    rw [List.find?_range_eq_some]
    refine ⟨by rw [hk]; rfl, by simp [h], fun j hj => ?_⟩
    have := hz j hj
    cases hkj : known P (j : Nat) with
    | none => rw [hkj] at this; cases this
    | some p => rfl
  rw [this]
theorem fresh_no {P : List Pc} (hz : ∀ j, j < 4096 → (known P (j : Nat)).isSome = true) : freshN P = -1 := by
  unfold freshN
  rw [List.find?_eq_none.2]
  intro j hj
  have := hz j (List.mem_range.1 hj)
  cases hkj : known P (j : Nat) with
  | none => rw [hkj] at this; cases this
  | some p => simp
theorem fresh {a d m : Nat} {Z : Shf} (h : E B (shf a d m Z :: H) (K (I (freshN Z.P)))) : E B (shf a d m Z :: H) (CF Tryz.prog 16 [ptr a] K) := by
  refine E_mono (W := s16 _ K) ?_ fun _ => c16
  unfold s16
  refine E_peq u_pSh ?_
  refine E_ff ?_
  refine E_loop (n := 2) (σ := Nat) (fun i => i ≤ 4096 ∧ ∀ j, j < i → (known Z.P (j : Nat)).isSome = true) (fun i => [ptr a, I i]) (fun _ => shf a d m Z :: H) (fun i => 4096 - i) 0 (fun _ => rfl) rfl ⟨Nat.zero_le _, fun j hj => by omega⟩ (fun W hW => hW) ?_
  rintro i K0 ⟨hi, hz⟩ hk
  refine E_fa fun _ => ?_
  refine E_lss ?_
  refine E_if (fun hc => ?_) (fun hc => ?_)
  · refine shknown ?_
    refine E_notb ?_
    cases ho : known Z.P (i : Nat) with
    | none =>
      refine E_tt ?_
      rw [fresh_is (by omega) ho hz] at h
      exact h
    | some p =>
      refine E_ff ?_
      refine E_addI (by omega) (by omega) ?_
      refine hk (i + 1) ⟨by omega, fun j hj => ?_⟩ (by omega)
      rcases Nat.lt_or_ge j i with h' | h'
      · exact hz j h'
      · have : j = i := by omega
        subst this
        rw [ho]; rfl
  · have : i = 4096 := by omega
    subst this
    rw [fresh_no hz] at h
    exact h
end Go.Proofs.YtmbfmkiagdhcoaaGreat.Bn
end
section
namespace Go.Proofs.YtmbfmkiagdhcoaaGreat.Bn
open Go Go.SL Go.Proofs Go.Proofs.YtmbfmkiagdhcoaaGreat.Sh Go.Proofs.YtmbfmkiagdhcoaaGreat.Oct Go.Proofs.YtmbfmkiagdhcoaaGreat.Disk Go.Proofs.YtmbfmkiagdhcoaaGreat.Slot Go.Proofs.YtmbfmkiagdhcoaaGreat.Pk Go.Proofs.YtmbfmkiagdhcoaaGreat.Ext
variable {B : World} {H : List Asrt} {K : Value → WT} {W : WT}
abbrev cPl (p : Pc) : List Value := [I p.bin, I p.pos, I p.n]
instance encPl : Enc cPl 3 := ⟨fun _ => rfl, fun p y hy => by
  simp only [List.mem_cons, List.not_mem_nil, or_false] at hy
  rcases hy with rfl | rfl | rfl <;> rfl⟩
theorem u_places : Tryz.prog.underlying 67 = some (.slice 34) := by kernel_rfl
theorem elt_place : Elt Tryz.prog 34 3 24 [I 0, I 0, I 0] := elt_of (zv := .agg #[I 0, I 0, I 0]) (by kernel_rfl) rfl rfl
theorem buildPl (b x n : Int) (w : World) : (Instr.build 34 #[(0, I b), (1, .agg #[I x, I n])]).run Tryz.prog w = .ok (.agg #[I b, I x, I n]) w := by kernel_rfl
theorem buildPl0 (w : World) : (Instr.build 34 #[]).run Tryz.prog w = .ok (.agg #[I 0, I 0, I 0]) w := by kernel_rfl
theorem srt_len {N : Nat} : ∀ {P : List Pc} (lo : Nat), Srt P → (∀ p ∈ P, lo ≤ p.bin ∧ p.bin < N) → P.length ≤ N - lo
  | [], _, _, _ => Nat.zero_le _
  | q :: P, lo, hs, h => by
    have h2 := List.pairwise_cons.1 hs
    have h1 := h q (List.mem_cons_self ..)
    have := srt_len (P := P) (q.bin + 1) h2.2 fun p hp => ⟨h2.1 p hp, (h p (List.mem_cons_of_mem _ hp)).2⟩
    simp only [List.length_cons]
    omega
theorem Inv.plen {Z : Shf} (h : Inv Z) : Z.P.length ≤ 4096 := srt_len 0 h.sort fun p hp => ⟨Nat.zero_le _, (h.pc p hp).1⟩
theorem sort_bins {Z : Shf} (h : Srt Z.P) {zs : List Int} (hz : zs.Perm (Z.P.map fun p : Pc => (p.bin : Int))) : sortI zs = Z.P.map fun p : Pc => (p.bin : Int) := by
  refine List.Perm.eq_of_pairwise (le := fun x y : Int => x ≤ y) (fun a b _ _ h1 h2 => by omega) ?_ ?_ ((List.mergeSort_perm ..).trans hz)
  · have := List.pairwise_mergeSort (le := fun x y : Int => decide (x ≤ y)) (by intro a b c; simp; omega) (by intro a b; simp; omega) zs
    exact this.imp fun h => by simpa using h
  · rw [List.pairwise_map]
    exact h.imp fun h => by omega
theorem known_at {P : List Pc} (h : Srt P) {i : Nat} {p : Pc} (hp : P[i]? = some p) : known P p.bin = some p := by
  induction P generalizing i with
  | nil => simp at hp
  | cons q P ih =>
    have h2 := List.pairwise_cons.1 h
    unfold known
    cases i with
    | zero =>
      simp only [List.getElem?_cons_zero, Option.some.injEq] at hp
      subst hp
      rw [List.find?_cons_of_pos (by simp)]
    | succ i =>
      simp only [List.getElem?_cons_succ] at hp
      have := h2.1 p (List.mem_of_getElem? hp)
      rw [List.find?_cons_of_neg (by simp; omega)]
      exact ih h2.2 hp
attribute [local irreducible] S.pick S.ld S.ldN S.st S.box S.nc S.fad S.ixS S.ixA S.chr S.prt S.ext S.bin S.sh S.sbin S.beq S.neg1 S.com1 S.not1 S.cvt S.str1 S.lenS S.len S.cap S.lenM S.mx S.mn S.mkM S.cond S.gd S.fa S.dr S.rck S.join S.loop S.cvv S.eqv S.slc S.slcS S.b2s S.lk V U CF Gives E cel mpb osl ros dct dit itr lpo dfo
theorem places {a d m : Nat} {Z : Shf} (hi : Inv Z) (h : ∀ v [CellI v], E B (sls cPl 34 3 v Z.P :: shf a d m Z :: H) (K v)) : E B (shf a d m Z :: H) (CF Tryz.prog 18 [ptr a] K) := by
  refine E_mono (W := s18 _ K) ?_ fun _ => c18
  unfold s18
  have hpl := hi.plen
  refine E_joinC (σ := Pk.Cv) (fun _ => True) (fun v => [v.1]) (fun v => sls cPl 34 3 v.1 Z.P :: shf a d m Z :: H) (fun kk hkk => ?_) (fun s _ => ?_)
  · refine E_pne u_pSh ?_
    refine E_tt ?_
    refine E_shf fun r kv hk => ?_
    refine E_nc ?_
    refine E_fad0 ?_
    refine E_ld ?_
    have hkl := hk.len
    refine Shf.sortedKeys (by omega) fun sv zs hz => ?_
    have hs := sort_bins hi.sort (hz.trans hk.keys)
    rw [hs]
    have hbl : (Z.P.map fun p : Pc => (p.bin : Int)).length = kv.length := by rw [List.length_map, hkl]
    rw [← hbl]
    refine E_rslen (v := sv) (l := Z.P.map fun p : Pc => (p.bin : Int)) ?_
    refine sls_nil cPl 3 (T := 34) ?_
    rw [List.length_map]
    refine E_loop (n := 5) (σ := Nat × Pk.Cv) (fun s => s.1 ≤ Z.P.length) (fun s => [ptr a, s.2.1, sv, I Z.P.length, I s.1])
      (fun s => sls cPl 34 3 s.2.1 (Z.P.take s.1) :: osl 3 1 sv (Z.P.map fun p : Pc => (p.bin : Int)).length (ints (Z.P.map fun p : Pc => (p.bin : Int))) :: cel true a 97 [ptr d, ptr m, .map (some r)] :: disk d Z.D :: xmap m Z.f (Z.f + Z.T.length) Z.R :: dct kI true r kv :: H) (fun s => Z.P.length - s.1) (0, ⟨nl, rfl⟩) (fun _ => rfl) rfl (Nat.zero_le _) (fun W hW => ?_) ?_
    · simp only [List.length_map] at hW
      exact sm (G := sls cPl 34 3 nl [] :: osl 3 1 sv Z.P.length (ints (Z.P.map fun p : Pc => (p.bin : Int))) :: cel true a 97 [ptr d, ptr m, .map (some r)] :: disk d Z.D :: xmap m Z.f (Z.f + Z.T.length) Z.R :: dct kI true r kv :: H) hW
    rintro ⟨i, o, hco⟩ K0 hil hk0
    simp only at hil hk0 ⊢
    have io : CellI o := ⟨hco⟩
    refine E_fa fun _ => ?_
    refine E_lss ?_
    refine E_if (fun hc => ?_) (fun hc => ?_)
    · have hx : Z.P[i]? = some (Z.P[i]'(by omega)) := List.getElem?_eq_getElem (by omega)
      generalize (Z.P[i]'(by omega)) = p at hx
      have hx2 : (Z.P.map fun p : Pc => (p.bin : Int))[i]? = some (p.bin : Int) := by rw [List.getElem?_map, hx]; rfl
      have hl := hk.look p.bin
      rw [known_at hi.sort hx] at hl
      have hk1 := fun x : Pk.Cv => hk0 (i + 1, x) (by simp only; omega) (by simp only; omega)
      have ht : Z.P.take (i + 1) = Z.P.take i ++ [p] := by rw [List.take_add_one, hx]; rfl
      simp only [ht] at hk1
      have htl : (Z.P.take i).length ≤ 4096 := by rw [List.length_take]; omega
      refine E_rsix (v := sv) (l := Z.P.map fun p : Pc => (p.bin : Int)) hx2 fun _ _ => ?_
      refine E_ptld ?_
      refine E_nc ?_
      refine E_fad0 ?_
      refine E_ld ?_
      refine E_dlk1 (κ := Int) (enc := kI) (k := (p.bin : Int)) hl ?_
      refine Dig.E_Vr (buildPl _ _ _) ?_
      refine fd (a := sls cPl 34 3 o (Z.P.take i)) ?_
      refine E_sapp1 (enc := cPl) (xv := plV p.bin p.pos p.n) p u_places elt_place rfl (by omega) (by omega) (by omega) fun w iw => ?_
      refine E_addI (by omega) (by omega) ?_
      exact sm (hk1 ⟨w, iw.pf⟩)
    · have hie : i = Z.P.length := by omega
      subst hie
      rw [List.take_length]
      have := hkk ⟨o, hco⟩ trivial
      refine sm (G := cel true a 97 [ptr d, ptr m, .map (some r)] :: disk d Z.D :: xmap m Z.f (Z.f + Z.T.length) Z.R :: dct kI true r kv :: sls cPl 34 3 o Z.P :: H) ?_
      refine E_shfS hk rfl rfl rfl rfl ?_
      exact sm this
  · have is : CellI s.1 := ⟨s.2⟩
    refine E_fa fun _ => ?_
    exact h s.1
theorem used_suc {P : List Pc} {i : Nat} {p : Pc} (h : P[i]? = some p) : usedN (P.take (i + 1)) = usedN (P.take i) + p.n := by
  unfold usedN
  rw [List.take_add_one, h, List.foldl_append]; rfl
theorem used_le {P : List Pc} (h : ∀ p ∈ P, p.n ≤ 64) : usedN P ≤ 64 * P.length := by
  have key : ∀ (P : List Pc) (q : Nat), (∀ p ∈ P, p.n ≤ 64) → P.foldl (fun a p => a + p.n) q ≤ q + 64 * P.length := by
    intro P
    induction P with
    | nil => intro q _; simp
    | cons p P ih =>
      intro q h
      have h1 := h p (List.mem_cons_self ..)
      have := ih (q + p.n) fun x hx => h x (List.mem_cons_of_mem _ hx)
      simp only [List.foldl_cons, List.length_cons]; omega
  have := key P 0 h
  unfold usedN; omega
theorem used {a d m : Nat} {Z : Shf} (hi : Inv Z) (h : E B (shf a d m Z :: H) (K (I (usedN Z.P)))) : E B (shf a d m Z :: H) (CF Tryz.prog 17 [ptr a] K) := by
  refine E_mono (W := s17 _ K) ?_ fun _ => c17
  unfold s17
  have hpl := hi.plen
  refine places hi fun v _ => ?_
  refine E_rslen (v := v) (l := Z.P) ?_
  refine E_loop (n := 4) (σ := Nat) (fun i => i ≤ Z.P.length) (fun i => [I (usedN (Z.P.take i)), v, I Z.P.length, I i]) (fun _ => sls cPl 34 3 v Z.P :: shf a d m Z :: H) (fun i => Z.P.length - i) 0 (fun _ => rfl) rfl (Nat.zero_le _) (fun W hW => hW) ?_
  intro i K0 hil hk
  refine E_fa fun _ => ?_
  refine E_lss ?_
  refine E_if (fun hc => ?_) (fun hc => ?_)
  · have hx : Z.P[i]? = some (Z.P[i]'(by omega)) := List.getElem?_eq_getElem (by omega)
    have hpn := (hi.pc _ (List.getElem_mem (show i < Z.P.length by omega))).2.2.1
    generalize (Z.P[i]'(by omega)) = p at hx hpn
    have hul := used_le (P := Z.P.take i) fun p hp => (hi.pc p (List.mem_of_mem_take hp)).2.2.1
    have htl : (Z.P.take i).length ≤ 4096 := by rw [List.length_take]; omega
    have hk1 := hk (i + 1) (by omega) (by omega)
    rw [used_suc hx] at hk1
    refine E_rsix (v := v) (l := Z.P) hx fun _ _ => ?_
    refine E_ptldA ?_
    refine E_box (v := plV 0 0 0) (vs := [I 0, I 0, I 0]) fun v5 => ?_
    refine E_stW (vs := [I p.bin, I p.pos, I p.n]) rfl rfl ?_
    refine E_fad0 ?_
    refine E_fad ?_
    refine E_ld ?_
    refine E_addI (by omega) (by omega) ?_
    refine E_addI (by omega) (by omega) ?_
    rw [show (usedN (Z.P.take i) : Int) + (p.n : Int) = ((usedN (Z.P.take i) + p.n : Nat) : Int) by omega]
    exact sm hk1
  · have hie : i = Z.P.length := by omega
    subst hie
    rw [List.take_length]
    exact sm h
end Go.Proofs.YtmbfmkiagdhcoaaGreat.Bn
end
