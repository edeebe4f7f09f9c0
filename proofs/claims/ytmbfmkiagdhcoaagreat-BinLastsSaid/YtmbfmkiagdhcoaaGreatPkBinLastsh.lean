/-
  Part 8: BnK, BnL, BnN, BnP, BnG, BnH, BnI, BnQ, BnR, BnS, BnT, BnU, BnV, BnW, BnX, BnY, BnZ, BoA, BoB, BoC, BoD, BoE, BoF, BoG, BoH, BoI, BoJ, BoL, BoN, BoO, BoP, BoQ, BoR, BoS, BoT, BoU, BoV, BoW.
-/
import Derived.Test.YtmbfmkiagdhcoaaGreatPkBinLastsf
import Derived.Test.YtmbfmkiagdhcoaaGreatPkBinLastsg
set_option linter.unusedSimpArgs false
set_option linter.unusedVariables false
set_option linter.unusedSectionVars false
section
namespace Go.Proofs.YtmbfmkiagdhcoaaGreat.Ext
open Go Go.SL Go.Proofs Go.Proofs.YtmbfmkiagdhcoaaGreat.Sh Go.Proofs.YtmbfmkiagdhcoaaGreat.Oct Go.Proofs.YtmbfmkiagdhcoaaGreat.Disk Go.Proofs.YtmbfmkiagdhcoaaGreat.Slot
variable {B : World} {H : List Asrt} {K : Value → WT} {W : WT}
abbrev nil : Value := .slice none 0 0
abbrev Cv := { v : Value // isCell v = true }
abbrev Rn := Nat × Nat
abbrev cR (p : Rn) : List Value := [I p.1, I p.2]
instance encR : Enc cR 2 := ⟨fun _ => rfl, fun x y hy => by simp at hy; rcases hy with rfl | rfl <;> rfl⟩
abbrev pv (p : Rn) : Value := .agg #[I p.1, I p.2]
theorem u_runs : Tryz.prog.underlying 125 = some (.slice 32) := by kernel_rfl
theorem u_int : Tryz.prog.underlying 3 = some (.int .i64) := by kernel_rfl
theorem elt_run : Elt Tryz.prog 32 2 16 [I 0, I 0] := elt_of (zv := .agg #[I 0, I 0]) (by kernel_rfl) rfl rfl
theorem size_run (w : World) : (sizeOf 32).run Tryz.prog w = .ok 2 w := by kernel_rfl
theorem setMid {A X R Y : List Value} {a : Nat} (ha : A.length = a) (h : X.length = Y.length) : setAll (A ++ (X ++ R)) a Y = A ++ (Y ++ R) := by
  subst ha
  unfold setAll
  have e : (A ++ (X ++ R)).drop (A.length + Y.length) = R := by
    rw [← h, ← List.append_assoc, ← List.length_append, List.drop_left]
  rw [e, List.take_left, List.append_assoc]
theorem setGrow {A Z C S rc : List Value} {a : Nat} (ha : A.length = a) (hr : rc.length = 2) (hz : Z.length = 2 + C.length) : setAll (setAll (A ++ Z ++ S) a rc) (a + 2) C = A ++ rc ++ C ++ S := by
  have e : A ++ Z ++ S = A ++ (Z.take 2 ++ (Z.drop 2 ++ S)) := by rw [List.append_assoc, ← List.append_assoc (Z.take 2), List.take_append_drop]
  rw [e, setMid ha (by rw [List.length_take, hr]; omega), ← List.append_assoc, setMid (by rw [List.length_append]; omega) (by rw [List.length_drop]; omega)]
  simp only [List.append_assoc]
theorem setRoom {A C S rc : List Value} {a : Nat} (ha : A.length = a) (hr : rc.length = 2) (hs : 2 ≤ S.length) : setAll (setAll (A ++ C ++ S) (a + 2) C) a rc = A ++ rc ++ C ++ S.drop 2 := by
  have e1 : (C ++ S).drop 2 = ((C ++ S).drop 2).take C.length ++ S.drop 2 := by
    conv => lhs; rw [← List.take_append_drop C.length ((C ++ S).drop 2)]
    rw [List.drop_drop, Nat.add_comm 2, ← List.drop_drop, List.drop_left]
  have hl : (((C ++ S).drop 2).take C.length).length = C.length := by rw [List.length_take, List.length_drop, List.length_append]; omega
  have e : A ++ C ++ S = (A ++ (C ++ S).take 2) ++ (((C ++ S).drop 2).take C.length ++ S.drop 2) := by rw [← e1, List.append_assoc, List.append_assoc, List.take_append_drop]
  have h2 : ((C ++ S).take 2).length = 2 := by rw [List.length_take, List.length_append]; omega
  rw [e, setMid (by rw [List.length_append]; omega) hl, List.append_assoc, setMid ha (by omega)]
  simp only [List.append_assoc]
theorem shape_of {w : World} {b : Nat} {T : TypeId} {l : List Value} {fr : Nat × Nat} (h : w.heap[b]? = some (.cells l.toArray T fr)) : w.shape? b = some (T, l.length) := by
  unfold World.shape?; rw [h]; simp
@[irreducible] noncomputable def fovl : Func := match Tryz.prog.funcs[111]? with
  | some f => f
  | none => default
theorem func_ovl : Tryz.prog.funcs[111]? = some fovl := by kernel_rfl
theorem ovl_ne {a b : Nat} {T1 : TypeId} {la lb : List Value} {κ : Bool} {T2 : TypeId} {w : World} [hb : HasC H b κ T2 lb] (hw : sat B (raw a T1 la :: H) w) : a ≠ b := by
  obtain ⟨H', hf⟩ := hb.pf
  obtain ⟨_, l, ⟨l1, l2, e, e1, ⟨l3, l4, e2, ⟨fr', _, e3⟩, _⟩⟩, hc⟩ := sat_perm (hf.perm.cons _) hw
  subst e e2
  have e1 : l1 = [⟨true, a, .cells la.toArray T1 (0, 0)⟩] := e1
  have e3 : l3 = [⟨κ, b, .cells lb.toArray T2 fr'⟩] := e3
  subst e1 e3
  exact (List.pairwise_cons.1 hc.2).1 ⟨κ, b, .cells lb.toArray T2 fr'⟩ (by simp) (.inl rfl)
theorem ovl_run {a b n c m d o : Nat} {la lb : List Value} {T2 : TypeId} {w : World} (h1 : w.heap[a]? = some (.cells la.toArray 32 (0, 0))) (h2 : ∃ fr, w.heap[b]? = some (.cells lb.toArray T2 fr)) (hl : lb ≠ []) (hne : a ≠ b) :
    (callFunc 111 #[.slice (some ⟨a, 0, none⟩) n c, .slice (some ⟨b, o, none⟩) m d]).run Tryz.prog w = .ok (.value (.bool false)) w := by
  obtain ⟨fr, h2⟩ := h2
  rw [run_callFunc_extern func_ovl (by kernel_rfl) (by kernel_rfl) (by kernel_rfl) (e := Extern.SlicesOverlaps.overlaps #[125, 125] #[4]) (by kernel_rfl),
    Lib.run_overlaps_apart w 125 4 32 u_runs 2 size_run ⟨a, 0, none⟩ ⟨b, o, none⟩ n c m d hne _ _ _ _ (shape_of h1) (shape_of h2) (by simpa using hl) (by unfold World.frozen?; rw [h1]; simp) (by unfold World.frozen?; rw [h1]; simp)]
  rfl
theorem E_gvR {P : Program} {s : Sem Next} {v : Value} (hr : ∀ w, sat B H w → s.run P w = .ok (.value v) w) (h : E B H (K v)) : E B H (Gives P s K) := fun w hw => by
  unfold Gives
  rw [hr w hw]
  exact h w hw
theorem E_ovl {a b n c m d o : Nat} {la lb : List Value} {κ : Bool} {T2 : TypeId} [hb : HasC H b κ T2 lb] (hl : lb ≠ []) (h : E B (raw a 32 la :: H) (K (.bool false))) :
    E B (raw a 32 la :: H) (Gives Tryz.prog (callFunc 111 #[.slice (some ⟨a, 0, none⟩) n c, .slice (some ⟨b, o, none⟩) m d]) K) :=
  @E_gvR B (raw a 32 la :: H) K Tryz.prog _ (.bool false) (fun w hw => @ovl_run a b n c m d o la lb T2 w (sat.get hw) (@sat_has B H w κ b T2 lb hb (sat.tail hw)) hl (@ovl_ne B H a b 32 la lb κ T2 w hb hw)) h
end Go.Proofs.YtmbfmkiagdhcoaaGreat.Ext
end
section
namespace Go.Proofs.YtmbfmkiagdhcoaaGreat.Ext
open Go Go.SL Go.Proofs Go.Proofs.YtmbfmkiagdhcoaaGreat.Sh Go.Proofs.YtmbfmkiagdhcoaaGreat.Oct Go.Proofs.YtmbfmkiagdhcoaaGreat.Disk Go.Proofs.YtmbfmkiagdhcoaaGreat.Slot
variable {B : World} {H : List Asrt} {K : Value → WT} {W : WT}
abbrev rns (v : Value) (R : List Rn) : Asrt := sls cR 32 2 v R
theorem rs_app {B : World} {H : List Asrt} {α : Type} {enc : α → List Value} {v : Value} {l : List α} : ∀ (G : List Asrt), Rs B H v enc l → Rs B (G ++ H) v enc l
  | [], h => h
  | a :: G, h => by
    have := rs_app G h
    exact rs_there
theorem E_rsC {α : Type} {enc : α → List Value} {v : Value} {l : List α} [hf : Rs B H v enc l] (h0 : v = nil → l = [] → E B H W) (h : ∀ a cap, v = .slice (some a) l.length cap → l.length ≤ cap → E B H W) : E B H W := fun w hw => by
  rcases hf.pf hw with ⟨h1, h2, _⟩ | ⟨a, cap, h1, h2, _⟩
  · exact h0 h1 (List.length_eq_zero_iff.1 h2) w hw
  · exact h a cap h1 h2 w hw
theorem E_slcM {α : Type} {enc : α → List Value} {sz : Nat} [hE : Enc enc sz] {v : Value} {l : List α} {i : Nat} [hf : Rs B H v enc l] (hi : i ≤ l.length)
    (h : ∀ v' [∀ H' [Rs B H' v enc l], Rs B H' v' enc (l.take i)] [CellI v'], E B H (K v')) : E B H (S.slc sz v none (some (I i)) (some (I i)) K) := by
  have hb : ∀ d, S.bound (some (I i)) d = some i := fun d => by simp [S.bound]
  intro w hw
  rcases hf.pf hw with ⟨hv, h1, hbb⟩ | ⟨a, cap, hv, hle, _⟩
  · subst hv
    have hi' : i = 0 := by omega
    subst hi'
    have hl : l = [] := List.length_eq_zero_iff.1 h1
    subst hl
    refine ⟨0, 0, 0, rfl, rfl, rfl, Nat.le_refl _, Nat.le_refl _, Nat.le_refl _, (fun _ => rfl), ?_⟩
    have hr : ∀ H' [Rs B H' (.slice none 0 0) enc ([] : List α)], Rs B H' (.slice none 0 0) enc (([] : List α).take 0) := fun _ _ => ⟨fun _ => .inl ⟨rfl, rfl, rfl⟩⟩
    exact @h (.slice none 0 0) hr ⟨rfl⟩ w hw
  · subst hv
    refine ⟨0, i, i, hb _, hb _, rfl, Nat.zero_le _, Nat.le_refl _, by omega, (fun _ => rfl), ?_⟩
    have hlen : (l.take i).length = i := by simp; omega
    have hr : ∀ H' [Rs B H' (.slice (some a) l.length cap) enc l], Rs B H' (.slice (if i = 0 then (some a : Option Addr) else (some a).map (·.add (0 * sz))) (i - 0) (i - 0)) enc (l.take i) := fun H' hf' => ⟨fun {w'} hw' => by
      rcases hf'.pf hw' with ⟨h0, _⟩ | ⟨a', cap', hv', _, hc⟩
      · cases h0
      · cases hv'
        have ea : a.add (0 * sz) = a := by rw [Nat.zero_mul]; rfl
        refine .inr ⟨a, i, ?_, by rw [hlen]; omega, fun m hm => ?_⟩
        · rw [hlen]; simp only [Option.map_some, ea, ite_self]; rfl
        · rw [enc_length, hlen] at hm
          have hle3 : i * sz ≤ l.length * sz := Nat.mul_le_mul_right _ (by omega)
          rw [hc m (by rw [enc_length]; omega), ← enc_take, List.getElem?_take_of_lt hm]⟩
    have hcl : CellI (.slice (if i = 0 then (some a : Option Addr) else (some a).map (·.add (0 * sz))) (i - 0) (i - 0)) := ⟨rfl⟩
    exact @h _ hr hcl w hw
theorem cR_cells (R : List Rn) : ∀ v ∈ R.flatMap cR, isCell v = true := fun v hv => by
  obtain ⟨p, _, hp⟩ := List.mem_flatMap.1 hv
  simp at hp
  rcases hp with rfl | rfl <;> rfl
theorem cR_len (R : List Rn) : (R.flatMap cR).length = R.length * 2 := enc_length R
theorem cR_ins (R : List Rn) (i : Nat) (r : Rn) (S : List Value) : (R.take i).flatMap cR ++ cR r ++ (R.drop i).flatMap cR ++ S = (R.take i ++ r :: R.drop i).flatMap cR ++ S := by
  simp [List.flatMap_append]
attribute [local irreducible] S.pick S.ld S.ldN S.st S.box S.nc S.fad S.ixS S.ixA S.chr S.prt S.ext S.bin S.sh S.sbin S.beq S.neg1 S.com1 S.not1 S.cvt S.str1 S.lenS S.len S.cap S.lenM S.mx S.mn S.mkM S.cond S.gd S.fa S.dr S.rck S.join S.loop S.cvv S.eqv S.slc S.slcS S.b2s S.lk V U CF Gives E cel mpb osl ros dct dit itr lpo dfo
theorem cloneR {v : Value} {R : List Rn} [hv : Rs B H v cR R] (hl : R.length ≤ 1000000) (h : ∀ v' [CellI v'], E B (rns v' R :: H) (K v')) : E B H (CF Tryz.prog 77 [v] K) := by
  refine E_mono (W := s77 _ K) ?_ fun _ => c77
  unfold s77
  refine E_rsC (hf := hv) (fun hv0 hl0 => ?_) (fun a cap hv0 hle => ?_)
  · subst hv0 hl0
    refine E_sleq u_runs ?_
    refine E_tt ?_
    exact sls_nil cR 2 (T := 32) (h nil)
  · subst hv0
    refine E_sleq u_runs ?_
    refine E_ff ?_
    refine E_sbsl0 cR u_runs elt_run fun v5 _ => ?_
    refine E_sapps (enc := cR) (u := .slice (some a) R.length cap) (m := R) u_runs elt_run (by simp; omega) (by simp; omega) fun v7 _ => ?_
    rw [List.nil_append]
    exact h v7
theorem insertR {v : Value} {R : List Rn} {i bv : Nat} {r : Rn} (hi : i ≤ R.length) (hl : R.length ≤ 1000000) (h : ∀ v' [CellI v'], E B (rns v' (R.take i ++ r :: R.drop i) :: H) (K v')) :
    E B (rns v R :: raw bv 32 (cR r) :: H) (CF Tryz.prog 76 [v, I i, .slice (some ⟨bv, 0, none⟩) 1 1] K) := by
  refine E_mono (W := s76 _ _ _ K) ?_ fun _ => c76
  unfold s76
  refine E_slcS2 (enc := cR) (sz := 2) (v := v) (l := R) (i := i) (j := R.length) rfl (Dig.bndN rfl) hi (Nat.le_refl _) fun _ _ _ => ?_
  refine E_len ?_
  refine E_eql ?_
  refine E_ifF (by omega) ?_
  refine E_rslen (v := v) (l := R) ?_
  refine E_eql ?_
  refine E_if (fun he => ?_) (fun he => ?_)
  · have he' : i = R.length := by omega
    subst he'
    refine fd (a := raw bv 32 (cR r)) (E_raw ?_)
    refine fd (a := rns v R) ?_
    have : Rs B (cel true bv 32 (cR r) :: H) (.slice (some ⟨bv, 0, none⟩) 1 1) cR [r] := rs_cel (xs := cR r) (by simp) rfl
    refine E_sapps (enc := cR) (u := .slice (some ⟨bv, 0, none⟩) 1 1) (m := [r]) u_runs elt_run (by simp; omega) (by simp; omega) fun v' _ => ?_
    have h' := h v'
    rw [List.take_length, List.drop_length] at h'
    exact sm (G := rns v' (R ++ [r]) :: H) h'
  · have hi' : i < R.length := by omega
    refine E_addI (by omega) (by omega) ?_
    refine E_oslo (by omega) fun b cap spare hv hle hxl hsl => ?_
    subst hv
    have hA : ((R.take i).flatMap cR).length = i * 2 := by rw [cR_len, List.length_take]; omega
    have hC : ((R.drop i).flatMap cR).length = (R.length - i) * 2 := by rw [cR_len, List.length_drop]
    have hAC : R.flatMap cR = (R.take i).flatMap cR ++ (R.drop i).flatMap cR := by rw [← List.flatMap_append, List.take_append_drop]
    refine E_cap ?_
    refine E_gtr ?_
    refine E_if (fun hg => ?_) (fun hg => ?_)
    · refine E_slc (sz := 2) (o := 0) (l := 0) (hh := i) (m := cap) rfl (Dig.bndN rfl) rfl (by omega) (by omega) (Nat.le_refl _) (fun h => by cases h) ?_
      rw [if_neg (by omega), Nat.zero_mul, Nat.add_zero, Nat.sub_zero, Nat.sub_zero]
      refine E_addI (by omega) (by omega) ?_
      refine E_subI (by omega) (by omega) ?_
      rw [show (R.length : Int) + ((1 : Nat) : Int) - (i : Int) = ((R.length + 1 - i : Nat) : Int) by omega]
      refine E_appzF (sz := 2) (n := i) (cap := cap) (b := b) (l := R.flatMap cR ++ spare) u_runs u_int elt_run (by omega) (by rw [Int.toNat_natCast]; omega) (by rw [Int.toNat_natCast]; omega) (by omega) (by rw [Int.toNat_natCast]; omega) (by rw [List.length_append, hxl]; omega) fun v40 _ => ?_
      rw [Int.toNat_natCast, hAC, List.append_assoc ((R.take i).flatMap cR), List.take_left' hA]
      refine E_oslo (by omega) fun b' cap' spare' hv' hle' hxl' hsl' => ?_
      subst hv'
      refine E_slc (sz := 2) (o := 0) (l := i) (hh := i + (R.length + 1 - i)) (m := cap') rfl rfl (Dig.bndN rfl) (by omega) (by omega) (Nat.le_refl _) (fun h => by cases h) ?_
      rw [if_neg (by omega), Nat.zero_add]
      refine fd (a := raw bv 32 (cR r)) (E_raw ?_)
      refine E_copyC (sz := 2) (n := 1) (cs := cR r) (b := b') (b2 := bv) (o2 := 0) u_runs elt_run (by show min _ _ = 1; omega) rfl rfl (by simp [isCell]) (by rw [List.length_append, hxl']; omega) ?_
      refine E_dr ?_
      refine E_addI (by omega) (by omega) ?_
      rw [show (i : Int) + ((1 : Nat) : Int) = ((i + 1 : Nat) : Int) by omega]
      refine E_slc (sz := 2) (o := 0) (l := i + 1) (hh := i + (R.length + 1 - i)) (m := cap') rfl rfl (Dig.bndN rfl) (by omega) (by omega) (Nat.le_refl _) (fun h => by cases h) ?_
      rw [if_neg (by omega), Nat.zero_add]
      refine E_slc (sz := 2) (o := 0) (l := i) (hh := R.length) (m := cap) rfl rfl (Dig.bndN rfl) (by omega) (by omega) (Nat.le_refl _) (fun h => by cases h) ?_
      rw [if_neg (by omega), Nat.zero_add]
      have hz : (rep (R.length + 1 - i) [I 0, I 0]).length = 2 + ((R.drop i).flatMap cR).length := by rw [rep_length, hC]; show (R.length + 1 - i) * 2 = _; omega
      refine E_copyC (sz := 2) (n := R.length - i) (cs := (R.drop i).flatMap cR) (b := b') (b2 := b) (o2 := i * 2) u_runs elt_run (by show min _ _ = _; omega) (by rw [← hA, List.drop_left, ← hC, List.take_left]) hC (cR_cells _) (by
        have h1 : (setAll ((R.take i).flatMap cR ++ rep (R.length + 1 - i) [I 0, I 0] ++ spare') (i * 2) (cR r)).length = ((R.take i).flatMap cR ++ rep (R.length + 1 - i) [I 0, I 0] ++ spare').length := by
          unfold setAll
          simp only [List.length_append, List.length_take, List.length_drop, hA, hz, hC]
          simp; omega
        rw [h1, List.length_append, hxl']; omega) ?_
      rw [show (i + 1) * 2 = i * 2 + 2 by omega, setGrow hA rfl hz, cR_ins]
      refine E_osls (n := i + (R.length + 1 - i)) (cap := cap') (sz := 2) hle' (by rw [cR_len]; simp; omega) hsl' ?_
      have hlen : i + (R.length + 1 - i) = (R.take i ++ r :: R.drop i).length := by simp; omega
      rw [hlen]
      change E B (rns (.slice (some ⟨b', 0, none⟩) (R.take i ++ r :: R.drop i).length cap') (R.take i ++ r :: R.drop i) :: _) _
      exact sm (h (.slice (some ⟨b', 0, none⟩) (R.take i ++ r :: R.drop i).length cap'))
    · have hs2 : 2 ≤ spare.length := by rw [hsl]; omega
      refine E_addI (by omega) (by omega) ?_
      rw [show (R.length : Int) + ((1 : Nat) : Int) = ((R.length + 1 : Nat) : Int) by omega]
      refine E_slc (sz := 2) (o := 0) (l := 0) (hh := R.length + 1) (m := cap) rfl (Dig.bndN rfl) rfl (by omega) (by omega) (Nat.le_refl _) (fun h => by cases h) ?_
      rw [if_neg (by omega), Nat.zero_mul, Nat.add_zero, Nat.sub_zero, Nat.sub_zero]
      refine E_addI (by omega) (by omega) ?_
      rw [show (i : Int) + ((1 : Nat) : Int) = ((i + 1 : Nat) : Int) by omega]
      refine E_slc (sz := 2) (o := 0) (l := i + 1) (hh := R.length + 1) (m := cap) rfl rfl (Dig.bndN rfl) (by omega) (by omega) (Nat.le_refl _) (fun h => by cases h) ?_
      rw [if_neg (by omega), Nat.zero_add]
      refine fd (a := raw bv 32 (cR r)) ?_
      refine E_ovl (b := b) (lb := R.flatMap cR ++ spare) (fun e => by rw [List.append_eq_nil_iff] at e; rw [e.2] at hs2; simp at hs2) ?_
      refine E_notb ?_
      refine E_tt ?_
      refine E_raw ?_
      refine E_dr ?_
      refine E_addI (by omega) (by omega) ?_
      rw [show (i : Int) + ((1 : Nat) : Int) = ((i + 1 : Nat) : Int) by omega]
      refine E_slc (sz := 2) (o := 0) (l := i + 1) (hh := R.length + 1) (m := cap) rfl rfl (Dig.bndN rfl) (by omega) (by omega) (Nat.le_refl _) (fun h => by cases h) ?_
      rw [if_neg (by omega), Nat.zero_add]
      refine E_slc (sz := 2) (o := 0) (l := i) (hh := R.length + 1) (m := cap) rfl rfl (Dig.bndN rfl) (by omega) (by omega) (Nat.le_refl _) (fun h => by cases h) ?_
      rw [if_neg (by omega), Nat.zero_add, hAC]
      refine E_copyC (sz := 2) (n := R.length - i) (cs := (R.drop i).flatMap cR) (b := b) (b2 := b) (o2 := i * 2) u_runs elt_run (by show min _ _ = _; omega) (by rw [← hA, List.append_assoc, List.drop_left, ← hC, List.take_left]) hC (cR_cells _) (by
        rw [List.length_append, List.length_append, hA, hC]; omega) ?_
      refine E_slc (sz := 2) (o := 0) (l := i) (hh := R.length + 1) (m := cap) rfl rfl (Dig.bndN rfl) (by omega) (by omega) (Nat.le_refl _) (fun h => by cases h) ?_
      rw [if_neg (by omega), Nat.zero_add]
      refine E_copyC (sz := 2) (n := 1) (cs := cR r) (b := b) (b2 := bv) (o2 := 0) u_runs elt_run (by show min _ _ = 1; omega) rfl rfl (by simp [isCell]) (by
        unfold setAll
        simp only [List.length_append, List.length_take, List.length_drop, hA, hC]; omega) ?_
      rw [show (i + 1) * 2 = i * 2 + 2 by omega, setRoom hA rfl hs2, cR_ins]
      refine E_osls (n := R.length + 1) (cap := cap) (sz := 2) (by omega) (by rw [cR_len]; simp; omega) (by rw [List.length_drop, hsl]; omega) ?_
      have hlen : R.length + 1 = (R.take i ++ r :: R.drop i).length := by simp; omega
      rw [hlen]
      change E B (rns (.slice (some ⟨b, 0, none⟩) (R.take i ++ r :: R.drop i).length cap) (R.take i ++ r :: R.drop i) :: _) _
      exact sm (h (.slice (some ⟨b, 0, none⟩) (R.take i ++ r :: R.drop i).length cap))
end Go.Proofs.YtmbfmkiagdhcoaaGreat.Ext
end
section
namespace Go.Proofs.YtmbfmkiagdhcoaaGreat.Ext
open Go Go.SL Go.Proofs Go.Proofs.YtmbfmkiagdhcoaaGreat.Sh Go.Proofs.YtmbfmkiagdhcoaaGreat.Oct Go.Proofs.YtmbfmkiagdhcoaaGreat.Disk Go.Proofs.YtmbfmkiagdhcoaaGreat.Slot
variable {B : World} {H : List Asrt} {K : Value → WT} {W : WT}
theorem E_appS {P : Program} {ty t0 t1 T sz by_ n m cap b : Nat} {z l ys : List Value} {x : Value} (hu : P.underlying t0 = some (.slice T))
    (he : Elt P T sz by_ z) (hs : Rd P B (cel true b T l :: H) t1 x sz m ys) (hroom : n + m ≤ cap) (hl : cap * sz ≤ l.length)
    (h : E B (cel true b T (setAll l (n * sz) ys) :: H) (K (.slice (some ⟨b, 0, none⟩) (n + m) cap))) :
    E B (cel true b T l :: H) (V P (Builtin.append_ #[t0, t1] ty #[.slice (some ⟨b, 0, none⟩) n cap, x]) K) := by
  obtain ⟨i, zv, hinfo, hsz, hby, hzv, hzl, hzn⟩ := he.pf
  subst hsz
  refine E_Vok fun w hw => ?_
  have hsrc := hs w hw
  have hyl : ys.length = m * i.size := hsrc.newsLen
  have hle2 : n * i.size + ys.length ≤ l.length := by
    rw [hyl, ← Nat.add_mul]; exact Nat.le_trans (Nat.mul_le_mul_right _ hroom) hl
  obtain ⟨h1, h2⟩ := sat_setCells ys l (n * i.size) w hw hle2
  refine ⟨_, _, run_append_room_src w t0 t1 ty T i hu hinfo b 0 n cap x m ys hsrc hroom (fun j hj => ?_) (fun j hj => ?_), ?_⟩
  · simpa using (h2 j hj).1
  · simpa using (h2 j hj).2
  · refine h _ ?_
    simpa using h1
theorem setDel {A X C S Z : List Value} {a : Nat} (ha : A.length = a) (hx : X.length = 2) (hz : Z.length = 2) : setAll (setAll (A ++ (X ++ C) ++ S) a C) (a + C.length) Z = A ++ C ++ (Z ++ S) := by
  have e : A ++ (X ++ C) ++ S = A ++ ((X ++ C).take C.length ++ ((X ++ C).drop C.length ++ S)) := by
    rw [← List.append_assoc ((X ++ C).take C.length), List.take_append_drop, List.append_assoc]
  rw [e, setMid ha (by rw [List.length_take, List.length_append]; omega), ← List.append_assoc, setMid (by rw [List.length_append]; omega) (by rw [List.length_drop, List.length_append]; omega)]
theorem cR_set {R : List Rn} {i a n m : Nat} (h : R[i]? = some (a, n)) (S : List Value) : (R.flatMap cR ++ S).set (i * 2 + 1) (I m) = (R.set i (a, m)).flatMap cR ++ S := by
  induction R generalizing i with
  | nil => simp at h
  | cons p R ih =>
    cases i with
    | zero =>
      simp only [List.getElem?_cons_zero, Option.some.injEq] at h
      subst h
      simp
    | succ i =>
      simp only [List.getElem?_cons_succ] at h
      have := ih h
      have e : (i + 1) * 2 + 1 = (i * 2 + 1) + 1 + 1 := by omega
      rw [e]
      simp only [List.flatMap_cons, List.cons_append, List.nil_append, List.set_cons_succ, List.append_assoc]
      rw [this]
attribute [local irreducible] S.pick S.ld S.ldN S.st S.box S.nc S.fad S.ixS S.ixA S.chr S.prt S.ext S.bin S.sh S.sbin S.beq S.neg1 S.com1 S.not1 S.cvt S.str1 S.lenS S.len S.cap S.lenM S.mx S.mn S.mkM S.cond S.gd S.fa S.dr S.rck S.join S.loop S.cvv S.eqv S.slc S.slcS S.b2s S.lk V U CF Gives E cel mpb osl ros dct dit itr lpo dfo
theorem deleteR {v : Value} {R : List Rn} {j : Nat} (hj : j < R.length) (hl : R.length ≤ 1000000) (h : ∀ v' [CellI v'], E B (rns v' (R.take j ++ R.drop (j + 1)) :: H) (K v')) :
    E B (rns v R :: H) (CF Tryz.prog 113 [v, I j, I ((j + 1 : Nat) : Int)] K) := by
  refine E_mono (W := s113 _ _ _ K) ?_ fun _ => c113
  unfold s113
  refine E_oslo (by omega) fun b cap spare hv hle hxl hsl => ?_
  subst hv
  refine E_len ?_
  refine E_slc (sz := 2) (o := 0) (l := j) (hh := j + 1) (m := R.length) (Dig.bndN rfl) (Dig.bndN rfl) (Dig.bndN rfl) (by omega) (by omega) hle (fun _ => rfl) ?_
  refine E_eql ?_
  refine E_ifF (by omega) ?_
  refine E_len ?_
  refine E_dr ?_
  refine E_slc (sz := 2) (o := 0) (l := 0) (hh := j) (m := cap) rfl (Dig.bndN rfl) rfl (by omega) (by omega) (Nat.le_refl _) (fun h => by cases h) ?_
  rw [if_neg (by omega), Nat.zero_mul, Nat.add_zero, Nat.sub_zero, Nat.sub_zero]
  refine E_slc (sz := 2) (o := 0) (l := j + 1) (hh := R.length) (m := cap) rfl rfl (Dig.bndN rfl) (by omega) (by omega) (Nat.le_refl _) (fun h => by cases h) ?_
  have hA : ((R.take j).flatMap cR).length = j * 2 := by rw [cR_len, List.length_take]; omega
  have hx : R[j]? = some R[j] := List.getElem?_eq_getElem hj
  have hAC : R.flatMap cR = (R.take j).flatMap cR ++ (cR R[j] ++ (R.drop (j + 1)).flatMap cR) := by
    conv => lhs; rw [← List.take_append_drop j R, List.drop_eq_getElem_cons hj]
    rw [List.flatMap_append, List.flatMap_cons]
  have hC : ((R.drop (j + 1)).flatMap cR).length = (R.length - (j + 1)) * 2 := by rw [cR_len, List.length_drop]
  rw [hAC]
  generalize hL : (R.take j).flatMap cR ++ (cR R[j] ++ (R.drop (j + 1)).flatMap cR) ++ spare = L
  have hLl : L.length = cap * 2 := by rw [← hL, ← hAC, List.length_append, hxl, hsl]; omega
  have hsrc : Rd Tryz.prog B (cel true b 32 L :: H) 125 (.slice (if cap = j + 1 then some ⟨b, 0, none⟩ else some ⟨b, 0 + (j + 1) * 2, none⟩) (R.length - (j + 1)) (cap - (j + 1))) 2 (R.length - (j + 1)) ((R.drop (j + 1)).flatMap cR) := by
    by_cases hc : cap = j + 1
    · rw [if_pos hc]
      have h0 : R.length - (j + 1) = 0 := by omega
      have h1 : (R.drop (j + 1)).flatMap cR = [] := by rw [List.drop_of_length_le (by omega)]; rfl
      rw [h1, h0]
      exact rd_slice (l := L) (sz := 2) u_runs (by simp) (by simp) (by simp)
    · rw [if_neg hc]
      refine rd_slice (l := L) (sz := 2) u_runs ?_ (by rw [hC]) (cR_cells _)
      have e2 : (R.take j).flatMap cR ++ (cR R[j] ++ (R.drop (j + 1)).flatMap cR) ++ spare = ((R.take j).flatMap cR ++ cR R[j]) ++ ((R.drop (j + 1)).flatMap cR ++ spare) := by simp only [List.append_assoc]
      have e : (j + 1) * 2 = ((R.take j).flatMap cR ++ cR R[j]).length := by rw [List.length_append, hA]; simp; omega
      rw [← hL, Nat.zero_add, e2, e, List.drop_left, ← hC, List.take_left]
  refine E_appS (n := j) (m := R.length - (j + 1)) (sz := 2) (cap := cap) u_runs elt_run hsrc (by omega) (by omega) ?_
  refine E_len ?_
  refine E_slc (sz := 2) (o := 0) (l := R.length - 1) (hh := R.length) (m := cap) rfl (Dig.bndN rfl) (Dig.bndN (by omega)) (by omega) (by omega) (Nat.le_refl _) (fun h => by cases h) ?_
  rw [if_neg (by omega), Nat.zero_add, show R.length - (R.length - 1) = 1 by omega]
  have hL2 : (setAll L (j * 2) ((R.drop (j + 1)).flatMap cR)).length = cap * 2 := by
    unfold setAll
    simp only [List.length_append, List.length_take, List.length_drop, hC, hLl]; omega
  refine E_clear (sz := 2) (z := [I 0, I 0]) rfl u_runs elt_run (by simp [isCell]) (by omega) (by rw [hL2]; omega) ?_
  rw [← hL, show (R.length - 1) * 2 = j * 2 + ((R.drop (j + 1)).flatMap cR).length by rw [hC]; omega, setDel hA rfl rfl, ← List.flatMap_append]
  have hlen : j + (R.length - (j + 1)) = (R.take j ++ R.drop (j + 1)).length := by simp; omega
  refine E_osls (n := j + (R.length - (j + 1))) (cap := cap) (sz := 2) (by omega) (by rw [cR_len, ← hlen]) (by rw [List.length_append, hsl]; show 2 + _ = _; omega) ?_
  rw [hlen]
  change E B (rns (.slice (some ⟨b, 0, none⟩) (R.take j ++ R.drop (j + 1)).length cap) (R.take j ++ R.drop (j + 1)) :: _) _
  exact sm (h (.slice (some ⟨b, 0, none⟩) (R.take j ++ R.drop (j + 1)).length cap))
end Go.Proofs.YtmbfmkiagdhcoaaGreat.Ext
end
section
namespace Go.Proofs.YtmbfmkiagdhcoaaGreat.Ext
abbrev Rx := Nat × Nat
def Canon : Nat → List Rx → Prop
  | _, [] => True
  | lo, p :: R => lo ≤ p.1 ∧ 1 ≤ p.2 ∧ Canon (p.1 + p.2 + 1) R
def In (R : List Rx) (x : Nat) : Prop := ∃ p ∈ R, p.1 ≤ x ∧ x < p.1 + p.2
theorem in_nil (x : Nat) : ¬ In [] x := fun ⟨_, h, _⟩ => by simp at h
theorem in_cons {p : Rx} {R : List Rx} {x : Nat} : In (p :: R) x ↔ (p.1 ≤ x ∧ x < p.1 + p.2) ∨ In R x := by
  unfold In
  simp only [List.mem_cons, exists_eq_or_imp]
theorem in_app {R S : List Rx} {x : Nat} : In (R ++ S) x ↔ In R x ∨ In S x := by
  unfold In
  simp only [List.mem_append]
  constructor
  · rintro ⟨p, h | h, k⟩
    · exact .inl ⟨p, h, k⟩
    · exact .inr ⟨p, h, k⟩
  · rintro (⟨p, h, k⟩ | ⟨p, h, k⟩)
    · exact ⟨p, .inl h, k⟩
    · exact ⟨p, .inr h, k⟩
theorem Canon.mono {lo lo' : Nat} {R : List Rx} (h : Canon lo R) (hl : lo' ≤ lo) : Canon lo' R := by
  cases R with
  | nil => trivial
  | cons p R => exact ⟨by have := h.1; omega, h.2⟩
theorem Canon.mem {lo : Nat} {R : List Rx} (h : Canon lo R) {p : Rx} (hp : p ∈ R) : lo ≤ p.1 ∧ 1 ≤ p.2 := by
  induction R generalizing lo with
  | nil => simp at hp
  | cons q R ih =>
    rcases List.mem_cons.1 hp with rfl | hp
    · exact ⟨h.1, h.2.1⟩
    · have := ih h.2.2 hp
      have := h.1
      omega
theorem Canon.ge {lo : Nat} {R : List Rx} (h : Canon lo R) {x : Nat} (hx : In R x) : lo ≤ x := by
  obtain ⟨p, hp, h1, _⟩ := hx
  have := h.mem hp
  omega
theorem Canon.hole {lo : Nat} {R : List Rx} (h : Canon lo R) {p : Rx} (hp : p ∈ R) : ¬ In R (p.1 + p.2) := by
  induction R generalizing lo with
  | nil => simp at hp
  | cons q R ih =>
    intro hx0
    rcases in_cons.1 hx0 with hx | hx
    · rcases List.mem_cons.1 hp with rfl | hp
      · omega
      · have := h.2.2.mem hp
        omega
    · rcases List.mem_cons.1 hp with rfl | hp
      · have := h.2.2.ge hx
        omega
      · exact ih h.2.2 hp hx
theorem canon_uniq {lo : Nat} {R S : List Rx} (hR : Canon lo R) (hS : Canon lo S) (h : ∀ x, In R x ↔ In S x) : R = S := by
  induction R generalizing lo S with
  | nil =>
    cases S with
    | nil => rfl
    | cons q S => exact (in_nil _ ((h q.1).2 (in_cons.2 (.inl ⟨Nat.le_refl _, by have := hS.2.1; omega⟩)))).elim
  | cons p R ih =>
    cases S with
    | nil => exact (in_nil _ ((h p.1).1 (in_cons.2 (.inl ⟨Nat.le_refl _, by have := hR.2.1; omega⟩)))).elim
    | cons q S =>
      obtain ⟨p1, p2⟩ := p
      obtain ⟨q1, q2⟩ := q
      obtain ⟨r1, r2, r3⟩ := hR
      obtain ⟨s1, s2, s3⟩ := hS
      simp only at r1 r2 r3 s1 s2 s3
      have e1 : p1 = q1 := by
        have h1 := (h p1).1 (in_cons.2 (.inl ⟨Nat.le_refl _, by simp only; omega⟩))
        have h2 := (h q1).2 (in_cons.2 (.inl ⟨Nat.le_refl _, by simp only; omega⟩))
        rcases in_cons.1 h1 with h1 | h1
        · rcases in_cons.1 h2 with h2 | h2
          · simp only at h1 h2; omega
          · have := r3.ge h2; simp only at h1; omega
        · have := s3.ge h1
          rcases in_cons.1 h2 with h2 | h2
          · simp only at h2; omega
          · have := r3.ge h2; omega
      subst e1
      have e2 : p2 = q2 := by
        rcases Nat.lt_trichotomy p2 q2 with hl | hl | hl
        · have h1 := (h (p1 + p2)).2 (in_cons.2 (.inl ⟨by simp only; omega, by simp only; omega⟩))
          rcases in_cons.1 h1 with h1 | h1
          · simp only at h1; omega
          · have := r3.ge h1; omega
        · exact hl
        · have h1 := (h (p1 + q2)).1 (in_cons.2 (.inl ⟨by simp only; omega, by simp only; omega⟩))
          rcases in_cons.1 h1 with h1 | h1
          · simp only at h1; omega
          · have := s3.ge h1; omega
      subst e2
      have : R = S := ih r3 s3 fun x => by
        constructor
        · intro hx
          have hg := r3.ge hx
          rcases in_cons.1 ((h x).1 (in_cons.2 (.inr hx))) with h1 | h1
          · simp only at h1; omega
          · exact h1
        · intro hx
          have hg := s3.ge hx
          rcases in_cons.1 ((h x).2 (in_cons.2 (.inr hx))) with h1 | h1
          · simp only at h1; omega
          · exact h1
      rw [this]
theorem Canon.one {lo : Nat} {R : List Rx} (h : Canon lo R) {b k : Nat} (hk : 1 ≤ k) (ha : ∀ x, b ≤ x → x < b + k → In R x) : ∃ p ∈ R, p.1 ≤ b ∧ b + k ≤ p.1 + p.2 := by
  obtain ⟨p, hp, h1, h2⟩ := ha b (Nat.le_refl _) (by omega)
  refine ⟨p, hp, h1, ?_⟩
  rcases Nat.lt_or_ge (p.1 + p.2) (b + k) with hl | hl
  · exact (h.hole hp (ha _ (by omega) hl)).elim
  · exact hl
def leftsL (p : Rx) (b k : Nat) : List Rx := (if p.1 < b then [(p.1, b - p.1)] else []) ++ (if b + k < p.1 + p.2 then [(b + k, p.1 + p.2 - (b + k))] else [])
def cutL (R : List Rx) (i b k : Nat) : List Rx := R.take i ++ leftsL (R.getD i (0, 0)) b k ++ R.drop (i + 1)
theorem canon_lefts {lo : Nat} {p : Rx} {R : List Rx} {b k : Nat} (h : Canon lo (p :: R)) (h1 : p.1 ≤ b) (h2 : b + k ≤ p.1 + p.2) (hk : 1 ≤ k) : Canon lo (leftsL p b k ++ R) := by
  obtain ⟨r1, r2, r3⟩ := h
  unfold leftsL
  split
  · split
    · refine ⟨r1, by simp only; omega, by simp only; omega, by simp only; omega, ?_⟩
      exact r3.mono (by simp only; omega)
    · exact ⟨r1, by simp only; omega, r3.mono (by simp only; omega)⟩
  · split
    · exact ⟨by simp only; omega, by simp only; omega, r3.mono (by simp only; omega)⟩
    · exact r3.mono (by omega)
theorem in_lefts {p : Rx} {b k x : Nat} (h1 : p.1 ≤ b) (h2 : b + k ≤ p.1 + p.2) : In (leftsL p b k) x ↔ (p.1 ≤ x ∧ x < p.1 + p.2) ∧ ¬ (b ≤ x ∧ x < b + k) := by
  unfold leftsL
  rw [in_app]
  split <;> split <;> (constructor <;> intro h <;> (try simp only [in_cons, in_nil, or_false, false_or] at h) <;> (try simp only [in_cons, in_nil, or_false, false_or]) <;> omega)
theorem cut_canon {R : List Rx} {b k : Nat} (hk : 1 ≤ k) : ∀ {lo i : Nat} {p : Rx}, Canon lo R → R[i]? = some p → p.1 ≤ b → b + k ≤ p.1 + p.2 → Canon lo (cutL R i b k) := by
  induction R with
  | nil => intro lo i p _ h; simp at h
  | cons q R ih =>
    intro lo i p hc h h1 h2
    cases i with
    | zero =>
      simp only [List.getElem?_cons_zero, Option.some.injEq] at h
      subst h
      simpa [cutL] using canon_lefts hc h1 h2 hk
    | succ i =>
      simp only [List.getElem?_cons_succ] at h
      have := ih hc.2.2 h h1 h2
      simp only [cutL, List.take_succ_cons, List.getD_cons_succ, List.drop_succ_cons, List.cons_append]
      exact ⟨hc.1, hc.2.1, this⟩
theorem cut_in {R : List Rx} {b k : Nat} : ∀ {lo i : Nat} {p : Rx}, Canon lo R → R[i]? = some p → p.1 ≤ b → b + k ≤ p.1 + p.2 → ∀ x, In (cutL R i b k) x ↔ In R x ∧ ¬ (b ≤ x ∧ x < b + k) := by
  induction R with
  | nil => intro lo i p _ h; simp at h
  | cons q R ih =>
    intro lo i p hc h h1 h2 x
    cases i with
    | zero =>
      simp only [List.getElem?_cons_zero, Option.some.injEq] at h
      subst h
      have e : cutL (q :: R) 0 b k = leftsL q b k ++ R := by simp [cutL]
      rw [e, in_app, in_lefts h1 h2, in_cons]
      constructor
      · rintro (⟨h3, h4⟩ | h3)
        · exact ⟨.inl h3, h4⟩
        · have := hc.2.2.ge h3
          exact ⟨.inr h3, by omega⟩
      · rintro ⟨h3 | h3, h4⟩
        · exact .inl ⟨h3, h4⟩
        · exact .inr h3
    | succ i =>
      simp only [List.getElem?_cons_succ] at h
      have := ih hc.2.2 h h1 h2 x
      have hp := hc.2.2.mem (List.mem_of_getElem? h)
      have e : cutL (q :: R) (i + 1) b k = q :: cutL R i b k := by simp [cutL]
      rw [e, in_cons, in_cons, this]
      constructor
      · rintro (h3 | ⟨h3, h4⟩)
        · exact ⟨.inl h3, by omega⟩
        · exact ⟨.inr h3, h4⟩
      · rintro ⟨h3 | h3, h4⟩
        · exact .inl h3
        · exact .inr ⟨h3, h4⟩
def joinL (R : List Rx) (i : Nat) : List Rx := match R[i]?, R[i + 1]? with
  | some p, some q => if p.1 + p.2 = q.1 then R.take i ++ (p.1, p.2 + q.2) :: R.drop (i + 2) else R
  | _, _ => R
theorem join_succ (p : Rx) (R : List Rx) (i : Nat) : joinL (p :: R) (i + 1) = p :: joinL R i := by
  unfold joinL
  simp only [List.getElem?_cons_succ]
  cases R[i]? with
  | none => rfl
  | some a =>
    cases R[i + 1]? with
    | none => rfl
    | some c =>
      simp only
      split <;> simp
theorem join_two (p q : Rx) (R : List Rx) : joinL (p :: q :: R) 0 = if p.1 + p.2 = q.1 then (p.1, p.2 + q.2) :: R else p :: q :: R := rfl
theorem in_join (R : List Rx) (i x : Nat) : In (joinL R i) x ↔ In R x := by
  induction R generalizing i with
  | nil => rfl
  | cons p R ih =>
    cases i with
    | succ i => rw [join_succ, in_cons, in_cons, ih]
    | zero =>
      cases R with
      | nil => rfl
      | cons q R =>
        rw [join_two]
        split
        · rename_i h
          rw [in_cons, in_cons, in_cons, ← or_assoc]
          refine or_congr ?_ Iff.rfl
          simp only
          omega
        · rfl
def posL (R : List Rx) (b : Nat) : Nat := (R.takeWhile fun p => p.1 < b).length
def giveL (R : List Rx) (b k : Nat) : List Rx := if posL R b = 0 then joinL ((b, k) :: R) 0 else joinL (joinL (R.take (posL R b) ++ (b, k) :: R.drop (posL R b)) (posL R b)) (posL R b - 1)
theorem pos_lt {p : Rx} {R : List Rx} {b : Nat} (h : p.1 < b) : posL (p :: R) b = posL R b + 1 := by simp [posL, h]
theorem pos_ge {p : Rx} {R : List Rx} {b : Nat} (h : ¬ p.1 < b) : posL (p :: R) b = 0 := by simp [posL, h]
theorem pos_le (R : List Rx) (b : Nat) : posL R b ≤ R.length := by
  induction R with
  | nil => exact Nat.zero_le _
  | cons p R ih =>
    by_cases h : p.1 < b
    · rw [pos_lt h, List.length_cons]; omega
    · rw [pos_ge h]; exact Nat.zero_le _
theorem pos_at {R : List Rx} {b i : Nat} (h : i < posL R b) : ∃ p, R[i]? = some p ∧ p.1 < b := by
  induction R generalizing i with
  | nil => simp [posL] at h
  | cons p R ih =>
    by_cases hp : p.1 < b
    · rw [pos_lt hp] at h
      cases i with
      | zero => exact ⟨p, rfl, hp⟩
      | succ i => exact ih (by omega)
    · rw [pos_ge hp] at h; omega
theorem pos_end {R : List Rx} {b : Nat} {p : Rx} (h : R[posL R b]? = some p) : ¬ p.1 < b := by
  induction R with
  | nil => simp at h
  | cons q R ih =>
    by_cases hp : q.1 < b
    · rw [pos_lt hp] at h
      exact ih (by simpa using h)
    · rw [pos_ge hp] at h
      simp only [List.getElem?_cons_zero, Option.some.injEq] at h
      subst h; exact hp
theorem pre_canon {lo b k : Nat} {R : List Rx} (hk : 1 ≤ k) (hb : lo ≤ b) (hR : Canon (b + k) R) : Canon lo (joinL ((b, k) :: R) 0) := by
  cases R with
  | nil => exact ⟨hb, hk, trivial⟩
  | cons q R =>
    rw [join_two]
    obtain ⟨q1, q2, q3⟩ := hR
    split
    · rename_i h
      exact ⟨hb, by simp only; omega, q3.mono (by simp only at h ⊢; omega)⟩
    · rename_i h
      exact ⟨hb, hk, by simp only at h ⊢; omega, q2, q3⟩
theorem canon_up {lo c : Nat} {R : List Rx} (h : Canon lo R) (hc : ∀ p, R[0]? = some p → c ≤ p.1) : Canon c R := by
  cases R with
  | nil => trivial
  | cons p R => exact ⟨hc p rfl, h.2⟩
theorem give_cons {p : Rx} {R : List Rx} {b k : Nat} (h : p.1 < b) : giveL (p :: R) b k = if posL R b = 0 then joinL (p :: joinL ((b, k) :: R) 0) 0 else p :: giveL R b k := by
  unfold giveL
  rw [pos_lt h, if_neg (by omega)]
  by_cases h0 : posL R b = 0
  · rw [if_pos h0, h0]
    simp only [Nat.zero_add, List.take_succ_cons, List.take_zero, List.drop_succ_cons, List.drop_zero, List.cons_append, List.nil_append, Nat.sub_self]
    rw [join_succ]
  · rw [if_neg h0, if_neg h0]
    simp only [List.take_succ_cons, List.drop_succ_cons, List.cons_append]
    rw [join_succ]
    obtain ⟨j, hj⟩ : ∃ j, posL R b = j + 1 := ⟨posL R b - 1, by omega⟩
    rw [hj, Nat.add_sub_cancel, Nat.add_sub_cancel, join_succ]
theorem give_canon {R : List Rx} {b k : Nat} (hk : 1 ≤ k) : ∀ {lo : Nat}, Canon lo R → lo ≤ b → (∀ x, b ≤ x → x < b + k → ¬ In R x) → Canon lo (giveL R b k) := by
  induction R with
  | nil => intro lo _ hb _; exact ⟨hb, hk, trivial⟩
  | cons p R ih =>
    intro lo hc hb hd
    have hd2 : ∀ x, b ≤ x → x < b + k → ¬ In R x := fun x h1 h2 h3 => hd x h1 h2 (in_cons.2 (.inr h3))
    have hd1 : ∀ x, b ≤ x → x < b + k → ¬ (p.1 ≤ x ∧ x < p.1 + p.2) := fun x h1 h2 h3 => hd x h1 h2 (in_cons.2 (.inl h3))
    obtain ⟨r1, r2, r3⟩ := hc
    by_cases hp : p.1 < b
    · have hpe : p.1 + p.2 ≤ b := by
        have := hd1 b (Nat.le_refl _) (by omega)
        omega
      rw [give_cons hp]
      split
      · rename_i h0
        have hup : Canon (b + k) R := canon_up r3 fun q hq => by
          have h1 := pos_end (R := R) (b := b) (p := q) (by rw [h0]; exact hq)
          have h2 := r3.mem (List.mem_of_getElem? hq)
          rcases Nat.lt_or_ge q.1 (b + k) with hl | hl
          · exact (hd2 q.1 (by omega) hl ⟨q, List.mem_of_getElem? hq, Nat.le_refl _, by omega⟩).elim
          · exact hl
        have h3 : Canon b (joinL ((b, k) :: R) 0) := pre_canon hk (Nat.le_refl _) hup
        have h4 := pre_canon (k := p.2) (b := p.1) r2 r1 (h3.mono hpe)
        exact h4
      · rename_i h0
        obtain ⟨q, hq, hqb⟩ := pos_at (R := R) (b := b) (i := 0) (by omega)
        have := r3.mem (List.mem_of_getElem? hq)
        exact ⟨r1, r2, ih r3 (by omega) hd2⟩
    · have : giveL (p :: R) b k = joinL ((b, k) :: p :: R) 0 := by unfold giveL; rw [pos_ge hp, if_pos rfl]
      rw [this]
      refine pre_canon hk hb ⟨?_, r2, r3⟩
      rcases Nat.lt_or_ge p.1 (b + k) with hl | hl
      · exact (hd1 p.1 (by omega) hl ⟨Nat.le_refl _, by omega⟩).elim
      · exact hl
theorem give_in (R : List Rx) (b k x : Nat) : In (giveL R b k) x ↔ In R x ∨ (b ≤ x ∧ x < b + k) := by
  unfold giveL
  split
  · rw [in_join, in_cons, or_comm]
  · rw [in_join, in_join, in_app, in_cons]
    conv => rhs; rw [← List.take_append_drop (posL R b) R, in_app]
    constructor
    · rintro (h | h | h)
      · exact .inl (.inl h)
      · exact .inr h
      · exact .inl (.inr h)
    · rintro ((h | h) | h)
      · exact .inl h
      · exact .inr (.inr h)
      · exact .inr (.inl h)
end Go.Proofs.YtmbfmkiagdhcoaaGreat.Ext
end
section
namespace Go.Proofs.YtmbfmkiagdhcoaaGreat.Dig
open Go Go.SL Go.Proofs Go.Proofs.YtmbfmkiagdhcoaaGreat.Sh Go.Proofs.YtmbfmkiagdhcoaaGreat.Oct Go.Proofs.YtmbfmkiagdhcoaaGreat.Disk Go.Proofs.YtmbfmkiagdhcoaaGreat.Slot
variable {B : World} {H : List Asrt} {K : Value → WT} {W : WT}
abbrev cW (x : Wd) : List Value := [u32 x]
instance encW : Enc cW 1 := ⟨fun _ => rfl, fun x y hy => by simp at hy; subst hy; rfl⟩
theorem cW_us (l : List Wd) : l.flatMap cW = us l := by
  induction l with
  | nil => rfl
  | cons x l ih => rw [List.flatMap_cons, ih]; rfl
theorem u_ws : Tryz.prog.underlying 165 = some (.slice 143) := by kernel_rfl
theorem elt_wd : Elt Tryz.prog 143 1 4 [.int .u32 0] := elt_of (zv := .int .u32 0) (by kernel_rfl) rfl rfl
def wT (p : List UInt8) (t : Nat) : List Wd := more (t - 16) (w16 p (min t 16))
theorem wT_len (p : List UInt8) (t : Nat) : (wT p t).length = t := by unfold wT; rw [more_len, w16_len]; omega
theorem wT_lo {p : List UInt8} {t : Nat} (h : t < 16) : wT p (t + 1) = wT p t ++ [wd p t] := by
  unfold wT
  rw [show t + 1 - 16 = 0 by omega, show t - 16 = 0 by omega, show min (t + 1) 16 = t + 1 by omega, show min t 16 = t by omega]
  exact w16_suc p t
theorem wT_hi {p : List UInt8} {t : Nat} (h : 16 ≤ t) : wT p (t + 1) = wT p t ++ [nxt (wT p t)] := by
  unfold wT
  rw [show t + 1 - 16 = (t - 16) + 1 by omega, show min (t + 1) 16 = 16 by omega, show min t 16 = 16 by omega]
  rfl
theorem wT_end (p : List UInt8) : wT p 64 = sched p := rfl
theorem getD_at {l : List Wd} {j : Nat} (h : j < l.length) : l[j]? = some (l.getD j 0#32) := by
  rw [List.getD_eq_getElem?_getD, List.getElem?_eq_getElem h]; rfl
theorem nxt_t {l : List Wd} {t : Nat} (hl : l.length = t) (h : 16 ≤ t) : sg1 (l.getD (t - 2) 0#32) + l.getD (t - 7) 0#32 + sg0 (l.getD (t - 15) 0#32) + l.getD (t - 16) 0#32 = nxt l := by
  have := nxt_eq l
  rw [hl] at this; exact this
theorem fillK : Instr.fill (fun i => some (i * 1, 1)) (rep 64 [.int .u32 0]).toArray ((List.range 64).map fun i => (i, u32 (kk.getD i 0#32))) = some (us kk).toArray := by kernel_rfl
theorem fill8 (a b c d e f g h : Wd) : Instr.fill (fun i => some (i * 1, 1)) (rep 8 [.int .u32 0]).toArray [(0, u32 a), (1, u32 b), (2, u32 c), (3, u32 d), (4, u32 e), (5, u32 f), (6, u32 g), (7, u32 h)] = some #[u32 a, u32 b, u32 c, u32 d, u32 e, u32 f, u32 g, u32 h] := by kernel_rfl
theorem build32 (w : World) : (Instr.build 107 #[]).run Tryz.prog w = .ok (.agg zb.toArray) w := by kernel_rfl
theorem E_rw {v : Value} {l : List Wd} {n : Nat} {x : Wd} {k : IntKind} {c : Int} {K : Value → Value → WT} [hf : Rs B H v cW l] (hc : c = (n : Int)) (hx : l[n]? = some x) (h : ∀ q [PtA B H q 0 (cW x)], E B H (K q (u32 x))) :
    E B H (S.ixS 1 v (.int k c) fun p => S.ld p fun v => K p v) := by
  subst hc
  refine E_rsix (v := v) hx fun q _ => ?_
  refine E_ptld ?_
  exact h q
theorem E_rckp {q : Value} {x : Wd} {fs : List WT} [PtA B H q 0 (cW x)] (h : E B H (S.rck fs W)) : E B H (S.rck (S.ld q (fun v' _ => v' = u32 x) :: fs) W) := E_rck1 (E_ptld (E_fact rfl)) h
attribute [local irreducible] S.pick S.ld S.ldN S.st S.box S.nc S.fad S.ixS S.ixA S.chr S.prt S.ext S.bin S.sh S.sbin S.beq S.neg1 S.com1 S.not1 S.cvt S.str1 S.lenS S.len S.cap S.lenM S.mx S.mn S.mkM S.cond S.gd S.fa S.dr S.rck S.join S.loop S.cvv S.eqv S.slc S.slcS S.b2s S.lk V U CF Gives E cel mpb osl ros dct dit itr lpo dfo
theorem kK (h : ∀ v [CellI v], E B (sls cW 143 1 v kk :: H) (K v)) : E B H (CF Tryz.prog 96 [] K) := by
  refine E_mono (W := s96 K) ?_ fun _ => c96
  unfold s96
  refine E_bslK u_ws elt_wd (by omega) fillK fun b => ?_
  refine E_slsC (enc := cW) (sz := 1) kk 64 (cW_us kk) rfl ?_
  exact h _
end Go.Proofs.YtmbfmkiagdhcoaaGreat.Dig
end
section
namespace Go.Proofs.YtmbfmkiagdhcoaaGreat.Dig
open Go Go.SL Go.Proofs Go.Proofs.YtmbfmkiagdhcoaaGreat.Sh Go.Proofs.YtmbfmkiagdhcoaaGreat.Oct Go.Proofs.YtmbfmkiagdhcoaaGreat.Disk Go.Proofs.YtmbfmkiagdhcoaaGreat.Slot
variable {B : World} {H : List Asrt} {K : Value → WT} {W : WT}
theorem E_rb1 {v : Value} {l : List UInt8} {n : Nat} {x : UInt8} {k : IntKind} {c : Int} {K : Value → Value → WT} [hf : Rs B H v cB l] (hc : c = (n : Int)) (hx : l[n]? = some x) (h : ∀ q [PtA B H q 0 (cB x)], E B H (K q (.int .u8 x.toNat))) :
    E B H (S.ixS 1 v (.int k c) fun p => S.ld p fun v => K p v) := by
  subst hc
  refine E_rsix (v := v) hx fun q _ => ?_
  refine E_ptld ?_
  exact h q
theorem t1_eq (v : S8) (k w : Wd) : v.h + (rr v.e 6 ^^^ rr v.e 11 ^^^ rr v.e 25) + ((v.e &&& v.f) ^^^ (~~~ v.e &&& v.g)) + k + w = rx v k w := by
  unfold rx
  rw [ch_eq]
theorem t2_eq (v : S8) : (rr v.a 2 ^^^ rr v.a 13 ^^^ rr v.a 22) + ((v.a &&& v.b) ^^^ (v.a &&& v.c) ^^^ (v.b &&& v.c)) = ry v := by
  unfold ry
  rw [maj_eq]
theorem byteAt0 (g : S8) {i : Nat} {x : Wd} (hi : i < 8) (h : g.l[i]? = some x) : UInt8.ofNat (x >>> 24).toNat = byteAt g (4 * i) ∧ UInt8.ofNat (x >>> 16).toNat = byteAt g (4 * i + 1) ∧ UInt8.ofNat (x >>> 8).toNat = byteAt g (4 * i + 2) ∧ UInt8.ofNat x.toNat = byteAt g (4 * i + 3) := by
  have e : g.l.getD i 0#32 = x := by rw [List.getD_eq_getElem?_getD, h]; rfl
  unfold byteAt
  rw [show 4 * i / 4 = i by omega, show (4 * i + 1) / 4 = i by omega, show (4 * i + 2) / 4 = i by omega, show (4 * i + 3) / 4 = i by omega, e,
    show 24 - 8 * (4 * i % 4) = 24 by omega, show 24 - 8 * ((4 * i + 1) % 4) = 16 by omega, show 24 - 8 * ((4 * i + 2) % 4) = 8 by omega, show 24 - 8 * ((4 * i + 3) % 4) = 0 by omega]
  exact ⟨rfl, rfl, rfl, by simp⟩
theorem blk_at {m : List UInt8} {a j : Nat} (hj : j < 64) (ha : a + 64 ≤ m.length) : ∃ x, m[a + j]? = some x ∧ ((m.drop a).take 64)[j]? = some x := by
  refine ⟨m[a + j]'(by omega), List.getElem?_eq_getElem (by omega), ?_⟩
  rw [List.getElem?_take_of_lt hj, List.getElem?_drop, List.getElem?_eq_getElem (by omega)]
theorem E_setO {b n : Nat} {T : TypeId} {g : S8} {x : UInt8} {H' : List Asrt} {len : Nat} {k : IntKind} {c : Int} [hf : TakC H b T (bcs (outP g n)) H'] (hc : c = (n : Int)) (hl : len = 32) (hn : n < 32) (hx : x = byteAt g n) (h : E B (cel true b T (bcs (outP g (n + 1))) :: H') (K undef)) :
    E B H (S.ixA len 1 (.pointer (some ⟨b, 0, none⟩)) (.int k c) fun p => S.st 1 p (.int .u8 (x.toNat : Int)) K) := by
  subst hc hl
  refine E_wdA hn ?_
  rw [show 0 + n * 1 = n by omega]
  refine E_st' (by rw [bcs_len, outP_len (by omega)]; omega) ?_
  rw [bcs_set, hx, outP_set hn]; exact h
attribute [local irreducible] S.pick S.ld S.ldN S.st S.box S.nc S.fad S.ixS S.ixA S.chr S.prt S.ext S.bin S.sh S.sbin S.beq S.neg1 S.com1 S.not1 S.cvt S.str1 S.lenS S.len S.cap S.lenM S.mx S.mn S.mkM S.cond S.gd S.fa S.dr S.rck S.join S.loop S.cvv S.eqv S.slc S.slcS S.b2s S.lk V U CF Gives E cel mpb osl ros dct dit itr lpo dfo
theorem rsum {v : Value} {p : List UInt8} [hr : Rb B H v p] (hl : p.length ≤ 1000000000) (h : E B H (K (.agg (bcs (sum p)).toArray))) : E B H (CF Tryz.prog 52 [v] K) := by
  refine E_mono (W := s52 _ K) ?_ fun _ => c52
  unfold s52
  refine E_box32 fun v2 => ?_
  refine E_bslK u_ws elt_wd (by omega) (fill8 s0.a s0.b s0.c s0.d s0.e s0.f s0.g s0.h) fun b21 => ?_
  refine E_slsC (enc := cW) (sz := 1) s0.l 8 rfl rfl ?_
  generalize hv21 : Value.slice (some ⟨b21, 0, none⟩) 8 8 = v21
  refine kK fun v22 _ => ?_
  refine padded (v := v) (p := p) hl fun v24 _ => ?_
  have hml : (p ++ tail p.length).length % 64 = 0 ∧ (p ++ tail p.length).length ≤ 2000000000 := by
    rw [← pad_tail, List.length_append, padZ_len, be_length]
    have := zs_ok p.length
    have := zs_lt p.length
    omega
  have hsum : sum p = outB (hash s0 (p ++ tail p.length)) := rfl
  rw [hsum] at h
  generalize p ++ tail p.length = m at hml h ⊢
  obtain ⟨hm64, hmle⟩ := hml
  refine E_loop (n := 5) (σ := S8 × Nat) (fun t => hash t.1 (m.drop (64 * t.2)) = hash s0 m ∧ 64 * t.2 ≤ m.length) (fun t => [ptr v2, v21, v22, v24, I ((64 * t.2 : Nat) : Int)])
    (fun t => sls cW 143 1 v21 t.1.l :: sls cW 143 1 v22 kk :: sls cB 5 1 v24 m :: cel true v2 107 zb :: H) (fun t => m.length - 64 * t.2) (s0, 0) (fun _ => rfl) rfl ⟨rfl, Nat.zero_le _⟩ (fun W hW => sm hW) ?_
  rintro ⟨s, b⟩ K0 ⟨h1, h2⟩ hk
  simp only at h1 h2 hk ⊢
  refine E_fa fun _ => ?_
  refine E_rslen (v := v24) (l := m) ?_
  refine E_lss ?_
  refine E_if (fun hc => ?_) (fun hc => ?_)
  · have hle : 64 * b + 64 ≤ m.length := by omega
    have hk0 := hk (s.add (rds (sched ((m.drop (64 * b)).take 64)) 64 s), b + 1) ⟨by
      rw [← h1, hash_ge (p := m.drop (64 * b)) (by rw [List.length_drop]; omega), List.drop_drop]; rfl, by omega⟩ (by omega)
    simp only at hk0
    have hat : ∀ j, j < 64 → ∃ x, m[64 * b + j]? = some x ∧ ((m.drop (64 * b)).take 64)[j]? = some x := fun j hj => blk_at hj hle
    generalize (m.drop (64 * b)).take 64 = q at hk0 hat
    clear hk h1
    refine E_bsl0 u_ws elt_wd fun bw => ?_
    refine E_slsC (enc := cW) (sz := 1) [] 0 rfl rfl ?_
    refine E_loop (n := 7) (σ := Nat × Cv) (fun t => t.1 ≤ 64) (fun t => [ptr v2, v21, v22, v24, I ((64 * b : Nat) : Int), t.2.1, I t.1])
      (fun t => sls cW 143 1 t.2.1 (wT q t.1) :: sls cW 143 1 v21 s.l :: sls cW 143 1 v22 kk :: sls cB 5 1 v24 m :: cel true v2 107 zb :: H) (fun t => 64 - t.1) (0, ⟨.slice (some ⟨bw, 0, none⟩) 0 0, rfl⟩) (fun _ => rfl) rfl (Nat.zero_le _) (fun W hW => hW) ?_
    rintro ⟨t, w, hcw⟩ K1 ht hk1
    simp only at ht hk1 ⊢
    refine E_fa fun _ => ?_
    refine E_lss ?_
    refine E_if (fun hct => ?_) (fun hct => ?_)
    · have hwl := wT_len q t
      refine E_joinC (n := 7) (σ := Cv) (fun _ => True) (fun x => [ptr v2, v21, v22, v24, I ((64 * b : Nat) : Int), x.1, I t])
        (fun x => sls cW 143 1 x.1 (wT q (t + 1)) :: sls cW 143 1 v21 s.l :: sls cW 143 1 v22 kk :: sls cB 5 1 v24 m :: cel true v2 107 zb :: H) ?_ ?_
      · intro k hkk
        refine E_lss ?_
        refine E_if (fun h16 => ?_) (fun h16 => ?_)
        · obtain ⟨x0, hx0, hq0⟩ := hat (4 * t) (by omega)
          obtain ⟨x1, hx1, hq1⟩ := hat (4 * t + 1) (by omega)
          obtain ⟨x2, hx2, hq2⟩ := hat (4 * t + 2) (by omega)
          obtain ⟨x3, hx3, hq3⟩ := hat (4 * t + 3) (by omega)
          refine E_mulI (by omega) (by omega) ?_
          refine E_addI (by omega) (by omega) ?_
          refine E_dr ?_
          refine E_rb1 (v := v24) (n := 64 * b + 4 * t) (by omega) hx0 fun _ _ => ?_
          refine E_cvt32 ?_
          refine E_shl32n 24 rfl (by omega) ?_
          refine E_addI (by omega) (by omega) ?_
          refine E_rb1 (v := v24) (n := 64 * b + (4 * t + 1)) (by omega) hx1 fun _ _ => ?_
          refine E_cvt32 ?_
          refine E_shl32n 16 rfl (by omega) ?_
          refine E_or32 ?_
          refine E_addI (by omega) (by omega) ?_
          refine E_rb1 (v := v24) (n := 64 * b + (4 * t + 2)) (by omega) hx2 fun _ _ => ?_
          refine E_cvt32 ?_
          refine E_shl32n 8 rfl (by omega) ?_
          refine E_or32 ?_
          refine E_addI (by omega) (by omega) ?_
          refine E_rb1 (v := v24) (n := 64 * b + (4 * t + 3)) (by omega) hx3 fun _ _ => ?_
          refine E_cvt32 ?_
          refine E_or32 ?_
          rw [wd_eq hq0 hq1 hq2 hq3]
          refine E_sapp1 (enc := cW) (xv := u32 (wd q t)) (wd q t) u_ws elt_wd rfl (by omega) (by omega) (by omega) fun w' i' => ?_
          rw [← wT_lo (by omega)]
          exact hkk ⟨w', i'.pf⟩ trivial
        · refine E_dr ?_
          refine E_subI (by omega) (by omega) ?_
          refine E_rw (v := w) (l := wT q t) (n := t - 15) (by omega) (getD_at (by omega)) fun q1 _ => ?_
          refine E_subI (by omega) (by omega) ?_
          refine E_rw (v := w) (l := wT q t) (n := t - 15) (by omega) (getD_at (by omega)) fun q2 _ => ?_
          refine E_subI (by omega) (by omega) ?_
          refine E_rw (v := w) (l := wT q t) (n := t - 15) (by omega) (getD_at (by omega)) fun q3 _ => ?_
          refine E_shr32n 3 rfl (by omega) ?_
          refine right (n := 7) (by omega) ?_
          refine E_rckp (E_rckp (E_rck0 ?_))
          refine right (n := 18) (by omega) ?_
          refine E_rckp (E_rck0 ?_)
          refine E_xor32 ?_
          refine E_xor32 ?_
          refine E_dr ?_
          refine E_subI (by omega) (by omega) ?_
          refine E_rw (v := w) (l := wT q t) (n := t - 2) (by omega) (getD_at (by omega)) fun q4 _ => ?_
          refine E_subI (by omega) (by omega) ?_
          refine E_rw (v := w) (l := wT q t) (n := t - 2) (by omega) (getD_at (by omega)) fun q5 _ => ?_
          refine E_subI (by omega) (by omega) ?_
          refine E_rw (v := w) (l := wT q t) (n := t - 2) (by omega) (getD_at (by omega)) fun q6 _ => ?_
          refine E_shr32n 10 rfl (by omega) ?_
          refine right (n := 17) (by omega) ?_
          refine E_rckp (E_rckp (E_rck0 ?_))
          refine right (n := 19) (by omega) ?_
          refine E_rckp (E_rck0 ?_)
          refine E_xor32 ?_
          refine E_xor32 ?_
          refine E_dr ?_
          refine E_subI (by omega) (by omega) ?_
          refine E_rw (v := w) (l := wT q t) (n := t - 7) (by omega) (getD_at (by omega)) fun q7 _ => ?_
          refine E_add32 ?_
          refine E_add32 ?_
          refine E_subI (by omega) (by omega) ?_
          refine E_rw (v := w) (l := wT q t) (n := t - 16) (by omega) (getD_at (by omega)) fun q8 _ => ?_
          refine E_add32 ?_
          have hn := nxt_t hwl (by omega)
          unfold sg0 sg1 at hn
          rw [hn]
          refine E_sapp1 (enc := cW) (xv := u32 (nxt (wT q t))) (nxt (wT q t)) u_ws elt_wd rfl (by omega) (by omega) (by omega) fun w' i' => ?_
          rw [← wT_hi (by omega)]
          exact hkk ⟨w', i'.pf⟩ trivial
      · rintro ⟨w', hcw'⟩ _
        refine E_fa fun _ => ?_
        refine E_addI (by omega) (by omega) ?_
        exact hk1 (t + 1, ⟨w', hcw'⟩) (by simp only; omega) (by simp only; omega)
    · have : t = 64 := by omega
      subst this
      rw [wT_end]
      have hsl := sched_len q
      generalize sched q = ws at hk0 hsl ⊢
      clear hk1 hat
      refine E_bsl0 u_ws elt_wd fun bv => ?_
      refine E_slsC (enc := cW) (sz := 1) [] 0 rfl rfl ?_
      have h8 : s.l.length = 8 := rfl
      refine E_sapps (enc := cW) (u := v21) (m := s.l) u_ws elt_wd (by simp only [h8, List.length_nil]; omega) (by simp only [h8, List.length_nil]; omega) fun v12 i12 => ?_
      rw [List.nil_append]
      refine E_loop (n := 8) (σ := Nat × Cv) (fun t => t.1 ≤ 64) (fun t => [ptr v2, v21, v22, v24, I ((64 * b : Nat) : Int), w, t.2.1, I t.1])
        (fun t => sls cW 143 1 t.2.1 (rds ws t.1 s).l :: sls cW 143 1 w ws :: sls cW 143 1 v21 s.l :: sls cW 143 1 v22 kk :: sls cB 5 1 v24 m :: cel true v2 107 zb :: H) (fun t => 64 - t.1) (0, ⟨v12, i12.pf⟩) (fun _ => rfl) rfl (Nat.zero_le _) (fun W hW => hW) ?_
      rintro ⟨t, v12, hc12⟩ K3 ht hk3
      simp only at ht hk3 ⊢
      refine E_fa fun _ => ?_
      refine E_lss ?_
      refine E_if (fun hct => ?_) (fun hct => ?_)
      · have hw : ws[t]? = some (ws[t]'(by omega)) := List.getElem?_eq_getElem (by omega)
        have hkk : kk[t]? = some (kk[t]'(by rw [kk_len]; omega)) := List.getElem?_eq_getElem (by rw [kk_len]; omega)
        generalize (ws[t]'(by omega)) = wx at hw
        generalize (kk[t]'(by rw [kk_len]; omega)) = kx at hkk
        have hk4 := fun x : Cv => hk3 (t + 1, x) (by simp only; omega) (by simp only; omega)
        simp only [rds_suc hkk hw] at hk4
        generalize rds ws t s = g at hk4 ⊢
        refine E_rw (v := v12) (l := g.l) (n := 0) rfl rfl fun _ _ => ?_
        refine E_rw (v := v12) (l := g.l) (n := 4) rfl rfl fun _ _ => ?_
        refine E_dr ?_
        refine E_rw (v := v12) (l := g.l) (n := 7) rfl rfl fun _ _ => ?_
        refine E_rw (v := v12) (l := g.l) (n := 5) rfl rfl fun _ _ => ?_
        refine E_and32 ?_
        refine E_com32 ?_
        refine E_rw (v := v12) (l := g.l) (n := 6) rfl rfl fun _ _ => ?_
        refine E_and32 ?_
        refine E_xor32 ?_
        refine E_rw (v := v22) (l := kk) (n := t) rfl hkk fun _ _ => ?_
        refine E_rw (v := w) (l := ws) (n := t) rfl hw fun _ _ => ?_
        refine right (n := 6) (by omega) ?_
        refine E_rckp (E_rckp (E_rckp (E_rckp (E_rckp (E_rck0 ?_)))))
        refine right (n := 11) (by omega) ?_
        refine E_rckp (E_rckp (E_rckp (E_rckp (E_rckp (E_rck0 ?_)))))
        refine E_xor32 ?_
        refine right (n := 25) (by omega) ?_
        refine E_rckp (E_rckp (E_rckp (E_rckp (E_rckp (E_rck0 ?_)))))
        refine E_xor32 ?_
        refine E_add32 ?_
        refine E_add32 ?_
        refine E_add32 ?_
        refine E_add32 ?_
        rw [t1_eq]
        refine E_dr ?_
        refine E_rw (v := v12) (l := g.l) (n := 1) rfl rfl fun _ _ => ?_
        refine E_and32 ?_
        refine E_rw (v := v12) (l := g.l) (n := 2) rfl rfl fun _ _ => ?_
        refine E_and32 ?_
        refine E_xor32 ?_
        refine E_rw (v := v12) (l := g.l) (n := 1) rfl rfl fun _ _ => ?_
        refine E_rw (v := v12) (l := g.l) (n := 2) rfl rfl fun _ _ => ?_
        refine E_and32 ?_
        refine E_xor32 ?_
        refine right (n := 2) (by omega) ?_
        refine E_rckp (E_rckp (E_rckp (E_rckp (E_rck0 ?_))))
        refine right (n := 13) (by omega) ?_
        refine E_rckp (E_rckp (E_rckp (E_rckp (E_rck0 ?_))))
        refine E_xor32 ?_
        refine right (n := 22) (by omega) ?_
        refine E_rckp (E_rckp (E_rckp (E_rckp (E_rck0 ?_))))
        refine E_xor32 ?_
        refine E_add32 ?_
        rw [t2_eq]
        refine E_dr ?_
        refine E_add32 ?_
        refine E_rw (v := v12) (l := g.l) (n := 0) rfl rfl fun _ _ => ?_
        refine E_rw (v := v12) (l := g.l) (n := 1) rfl rfl fun _ _ => ?_
        refine E_rw (v := v12) (l := g.l) (n := 2) rfl rfl fun _ _ => ?_
        refine E_rw (v := v12) (l := g.l) (n := 3) rfl rfl fun _ _ => ?_
        refine E_add32 ?_
        refine E_rw (v := v12) (l := g.l) (n := 4) rfl rfl fun _ _ => ?_
        refine E_rw (v := v12) (l := g.l) (n := 5) rfl rfl fun _ _ => ?_
        refine E_rw (v := v12) (l := g.l) (n := 6) rfl rfl fun _ _ => ?_
        refine E_bslK u_ws elt_wd (by omega) (fill8 _ _ _ _ _ _ _ _) fun bn => ?_
        refine E_slsC (enc := cW) (sz := 1) (rnd g kx wx).l 8 rfl rfl ?_
        refine E_addI (by omega) (by omega) ?_
        exact sm (hk4 ⟨.slice (some ⟨bn, 0, none⟩) 8 8, rfl⟩)
      · have : t = 64 := by omega
        subst this
        generalize rds ws 64 s = g at hk0 ⊢
        refine E_loop (n := 7) (σ := Nat) (fun i => i ≤ 8) (fun i => [ptr v2, v21, v22, v24, I ((64 * b : Nat) : Int), v12, I i])
          (fun i => sls cW 143 1 v21 ((s.add g).l.take i ++ s.l.drop i) :: sls cW 143 1 v12 g.l :: sls cW 143 1 v22 kk :: sls cB 5 1 v24 m :: cel true v2 107 zb :: H) (fun i => 8 - i) 0 (fun _ => rfl) rfl (Nat.zero_le _) (fun W hW => sm (G := sls cW 143 1 v21 s.l :: sls cW 143 1 v12 g.l :: sls cW 143 1 v22 kk :: sls cB 5 1 v24 m :: cel true v2 107 zb :: H) hW) ?_
        rintro i K4 hi hk4
        refine E_fa fun _ => ?_
        refine E_lss ?_
        refine E_if (fun hci => ?_) (fun hci => ?_)
        · have hk5 := hk4 (i + 1) (by omega) (by omega)
          rw [← add_part s g i (by omega)] at hk5
          have g1 := part_get s g i (by omega)
          have g2 := l_get g i (by omega)
          have hlen := part_len s g i (by omega)
          generalize (s.add g).l.take i ++ s.l.drop i = l at hk5 g1 hlen ⊢
          refine E_dr ?_
          refine E_rw (v := v21) (l := l) (n := i) rfl g1 fun _ _ => ?_
          refine E_rw (v := v12) (l := g.l) (n := i) rfl g2 fun _ _ => ?_
          refine E_add32 ?_
          refine E_sset (enc := cW) _ (by omega) rfl ?_
          refine E_addI (by omega) (by omega) ?_
          exact hk5
        · have : i = 8 := by omega
          subst this
          have e : (s.add g).l.take 8 ++ s.l.drop 8 = (s.add g).l := rfl
          rw [e]
          refine E_addI (by omega) (by omega) ?_
          rw [show ((64 * b : Nat) : Int) + 64 = ((64 * (b + 1) : Nat) : Int) by omega]
          exact sm hk0
  · have hb : 64 * b = m.length := by omega
    rw [hb, List.drop_length, hash_lt (by simp)] at h1
    subst h1
    generalize hash s0 m = g at h ⊢
    clear hk
    refine E_Vr build32 ?_
    refine E_box32 fun v19 => ?_
    refine E_stW (vs := zb) rfl rfl ?_
    refine E_loop (n := 4) (σ := Nat) (fun i => i ≤ 8) (fun i => [ptr v2, v21, ptr v19, I i])
      (fun i => cel true v19 107 (bcs (outP g (4 * i))) :: sls cW 143 1 v21 g.l :: cel true v2 107 zb :: H) (fun i => 8 - i) 0 (fun _ => rfl) rfl (Nat.zero_le _) (fun W hW => sm (G := cel true v19 107 zb :: sls cW 143 1 v21 g.l :: cel true v2 107 zb :: H) hW) ?_
    rintro i K5 hi hk5
    refine E_fa fun _ => ?_
    refine E_lss ?_
    refine E_if (fun hci => ?_) (fun hci => ?_)
    · have g2 := l_get g i (by omega)
      generalize g.l.getD i 0#32 = x at g2
      obtain ⟨b0, b1, b2, b3⟩ := byteAt0 g (by omega) g2
      refine E_mulI (by omega) (by omega) ?_
      refine E_rw (v := v21) (l := g.l) (n := i) rfl g2 fun _ _ => ?_
      refine E_shr32n 24 rfl (by omega) ?_
      refine E_cvt8 (Int.natCast_nonneg _) ?_
      rw [Int.toNat_natCast]
      refine E_setO (g := g) (n := 4 * i) (by omega) rfl (by omega) b0 ?_
      refine E_mulI (by omega) (by omega) ?_
      refine E_addI (by omega) (by omega) ?_
      refine E_rw (v := v21) (l := g.l) (n := i) rfl g2 fun _ _ => ?_
      refine E_shr32n 16 rfl (by omega) ?_
      refine E_cvt8 (Int.natCast_nonneg _) ?_
      rw [Int.toNat_natCast]
      refine E_setO (g := g) (n := 4 * i + 1) (by omega) rfl (by omega) b1 ?_
      refine E_mulI (by omega) (by omega) ?_
      refine E_addI (by omega) (by omega) ?_
      refine E_rw (v := v21) (l := g.l) (n := i) rfl g2 fun _ _ => ?_
      refine E_shr32n 8 rfl (by omega) ?_
      refine E_cvt8 (Int.natCast_nonneg _) ?_
      rw [Int.toNat_natCast]
      refine E_setO (g := g) (n := 4 * i + 2) (by omega) rfl (by omega) b2 ?_
      refine E_mulI (by omega) (by omega) ?_
      refine E_addI (by omega) (by omega) ?_
      refine E_rw (v := v21) (l := g.l) (n := i) rfl g2 fun _ _ => ?_
      refine E_cvt8 (Int.natCast_nonneg _) ?_
      rw [Int.toNat_natCast]
      refine E_setO (g := g) (n := 4 * i + 3) (by omega) rfl (by omega) b3 ?_
      refine E_addI (by omega) (by omega) ?_
      exact hk5 (i + 1) (by omega) (by omega)
    · have : i = 8 := by omega
      subst this
      rw [show 4 * 8 = 32 by omega, outP_end]
      have hol : (outB g).length = 32 := by rw [← outP_end, outP_len (Nat.le_refl _)]
      refine E_cells0 hol rfl ?_
      refine E_stW (vs := bcs (outB g)) (by rw [bcs_len, hol]) rfl ?_
      refine E_cells0 hol rfl ?_
      refine sm (G := H) h
end Go.Proofs.YtmbfmkiagdhcoaaGreat.Dig
end
section
namespace Go.Proofs.YtmbfmkiagdhcoaaGreat.Dig
open Go Go.SL Go.Proofs Go.Proofs.YtmbfmkiagdhcoaaGreat.Sh Go.Proofs.YtmbfmkiagdhcoaaGreat.Oct Go.Proofs.YtmbfmkiagdhcoaaGreat.Disk Go.Proofs.YtmbfmkiagdhcoaaGreat.Slot
variable {B : World} {H : List Asrt} {K : Value → WT} {W : WT}
theorem bit0 (r : Wd) : r.getLsbD 0 = decide (r.toNat % 2 = 1) := by
  rw [BitVec.getLsbD, Nat.testBit_zero]
theorem step_odd {r : Wd} (h : r.toNat % 2 = 1) : (r >>> 1) ^^^ poly = step1 r := by
  have h0 : r.getLsbD 0 = true := by rw [bit0]; simpa using h
  unfold step1
  rw [neg_bit, h0, cond_true, BitVec.and_allOnes]
theorem step_even {r : Wd} (h : ¬ r.toNat % 2 = 1) : r >>> 1 = step1 r := by
  have h0 : r.getLsbD 0 = false := by rw [bit0]; simpa using h
  unfold step1
  rw [neg_bit, h0, cond_false, BitVec.and_zero, BitVec.xor_zero]
attribute [local irreducible] S.pick S.ld S.ldN S.st S.box S.nc S.fad S.ixS S.ixA S.chr S.prt S.ext S.bin S.sh S.sbin S.beq S.neg1 S.com1 S.not1 S.cvt S.str1 S.lenS S.len S.cap S.lenM S.mx S.mn S.mkM S.cond S.gd S.fa S.dr S.rck S.join S.loop S.cvv S.eqv S.slc S.slcS S.b2s S.lk V U CF Gives E cel mpb osl ros dct dit itr lpo dfo
theorem rcrc {v : Value} {bs : List UInt8} [Rb B H v bs] (hm : bs.length ≤ 9223372036854775806) (h : E B H (K (u32 (crcS bs)))) : E B H (CF Tryz.prog 147 [.int .u32 0, v] K) := by
  refine E_mono (W := s147 _ _ K) ?_ fun _ => c147
  unfold s147
  refine E_com32 (a := 0#32) ?_
  refine E_loop (n := 3) (σ := Nat) (fun i => i ≤ bs.length) (fun i => [v, u32 ((bs.take i).foldl crcB (~~~ 0#32)), I i]) (fun _ => H) (fun i => bs.length - i) 0 (fun _ => rfl) rfl (Nat.zero_le _) (fun W hW => hW) ?_
  intro i K0 hi hk
  refine E_fa fun _ => ?_
  refine E_rslen (v := v) (l := bs) ?_
  refine E_lss ?_
  refine E_if (fun hc => ?_) (fun hc => ?_)
  · have hs : bs[i]? = some bs[i] := List.getElem?_eq_getElem (by omega)
    generalize bs[i] = x at hs
    have hk' := hk (i + 1) (by omega) (by omega)
    rw [take_snocB hs, List.foldl_append] at hk'
    simp only [List.foldl_cons, List.foldl_nil] at hk'
    generalize (bs.take i).foldl crcB (~~~ 0#32) = r at hk'
    refine E_rsix (v := v) hs fun _ _ => ?_
    refine E_ptld ?_
    refine E_cvt32 ?_
    refine E_xor32 ?_
    unfold crcB at hk'
    generalize r ^^^ BitVec.ofNat 32 x.toNat = q at hk'
    refine E_loop (n := 4) (σ := Nat × Wd) (fun s => s.1 ≤ 8 ∧ stepN (8 - s.1) s.2 = stepN 8 q) (fun s => [v, u32 s.2, I i, I s.1]) (fun _ => H) (fun s => 8 - s.1) (0, q) (fun _ => rfl) rfl ⟨Nat.zero_le _, rfl⟩ (fun W hW => hW) ?_
    rintro ⟨j, p⟩ K1 ⟨hj, hp⟩ hk1
    simp only at hj hp hk1 ⊢
    refine E_fa fun _ => ?_
    refine E_lss ?_
    refine E_if (fun hc => ?_) (fun hc => ?_)
    · refine E_join1 (n := 4) [v, u32 (step1 p), I i, I j] H ?_ ?_
      · intro k hkk
        refine E_rem0 (a := p.toNat) (b := 2) (by decide) ?_
        refine E_eql ?_
        refine E_if (fun ho => ?_) (fun ho => ?_)
        · refine E_shr32 ?_
          refine E_xor32 (b := poly) ?_
          rw [step_odd (by omega)]
          exact hkk
        · refine E_shr32 ?_
          rw [step_even (by omega)]
          exact hkk
      · refine E_fa fun _ => ?_
        refine E_addI (by omega) (by omega) ?_
        refine hk1 (j + 1, step1 p) ⟨by simp only; omega, ?_⟩ (by simp only; omega)
        rw [← hp]
        have e : 8 - j = (8 - (j + 1)) + 1 := by omega
        rw [e]; rfl
    · have : j = 8 := by omega
      subst this
      simp only [Nat.sub_self, stepN] at hp
      subst hp
      refine E_addI (by omega) (by omega) ?_
      exact hk'
  · have : i = bs.length := by omega
    subst this
    rw [List.take_length]
    refine E_com32 ?_
    exact h
end Go.Proofs.YtmbfmkiagdhcoaaGreat.Dig
end
section
namespace Go.Proofs.YtmbfmkiagdhcoaaGreat.Ext
open Go Go.SL Go.Proofs Go.Proofs.YtmbfmkiagdhcoaaGreat.Sh Go.Proofs.YtmbfmkiagdhcoaaGreat.Oct Go.Proofs.YtmbfmkiagdhcoaaGreat.Disk Go.Proofs.YtmbfmkiagdhcoaaGreat.Slot
variable {B : World} {H : List Asrt} {K : Value → WT} {W : WT}
def wI (f t : Nat) (a n : Int) : Bool := decide (1 ≤ n ∧ (f : Int) ≤ a ∧ a < (t : Int) ∧ n ≤ (t : Int) - a)
abbrev pI (a n : Int) : Value := .agg #[I a, I n]
abbrev idxI (o : Option Nat) : Int := match o with
  | some i => (i : Int)
  | none => -1
theorem u_runss : Tryz.prog.underlying 195 = some (.slice 125) := by kernel_rfl
theorem elt_runs : Elt Tryz.prog 125 1 24 [nil] := elt_of (zv := nil) (by kernel_rfl) rfl rfl
theorem ok_take : callOk Tryz.prog 70 = true := by kernel_rfl
theorem ok_give : callOk Tryz.prog 75 = true := by kernel_rfl
theorem ok_claim : callOk Tryz.prog 79 = true := by kernel_rfl
theorem rep_cR (n : Nat) : rep n [I 0, I 0] = (List.replicate n ((0, 0) : Rn)).flatMap cR := by
  induction n with
  | zero => rfl
  | succ n ih => rw [List.replicate_succ, List.flatMap_cons, ← ih]; rfl
attribute [local irreducible] S.pick S.ld S.ldN S.st S.box S.nc S.fad S.ixS S.ixA S.chr S.prt S.ext S.bin S.sh S.sbin S.beq S.neg1 S.com1 S.not1 S.cvt S.str1 S.lenS S.len S.cap S.lenM S.mx S.mn S.mkM S.cond S.gd S.fa S.dr S.rck S.join S.loop S.cvv S.eqv S.slc S.slcS S.b2s S.lk V U CF Gives E cel mpb osl ros dct dit itr lpo dfo
theorem within {a f t : Nat} {κ : Bool} {v : Value} {x n : Int} [HasC H a κ 127 [I f, I t, v]] (ht : t ≤ 4096) (h : E B H (K (.bool (wI f t x n)))) : E B H (CF Tryz.prog 73 [ptr a, pI x n] K) := by
  refine E_mono (W := s73 _ _ K) ?_ fun _ => c73
  unfold s73
  unfold wI at h
  by_cases h1 : 1 ≤ n
  · by_cases h2 : (f : Int) ≤ x
    · by_cases h3 : x < (t : Int)
      · simp only [h1, h2, h3, true_and] at h
        (repeat first | refine gS ?_ | refine gA fun _ => ?_ | refine gX fun _ _ => ?_ | refine gT ?_ | refine gF ?_ | refine gI ?_)
        exact sm h
      · simp only [h1, h2, h3, true_and, false_and, decide_false] at h
        (repeat first | refine gS ?_ | refine gA fun _ => ?_ | refine gX fun _ _ => ?_ | refine gT ?_ | refine gF ?_ | refine gI ?_)
        exact sm h
    · simp only [h1, h2, true_and, false_and, decide_false] at h
      (repeat first | refine gS ?_ | refine gA fun _ => ?_ | refine gX fun _ _ => ?_ | refine gT ?_ | refine gF ?_ | refine gI ?_)
      exact sm h
  · simp only [h1, false_and, decide_false] at h
    (repeat first | refine gS ?_ | refine gA fun _ => ?_ | refine gX fun _ _ => ?_ | refine gT ?_ | refine gF ?_ | refine gI ?_)
    exact sm h
theorem idxR {v f : Value} {R : List Rn} {P : Rn → Bool} [hv : Rs B H v cR R] (hl : R.length ≤ 1000000) (hf : ∀ p ∈ R, ∀ (K' : Value → WT), E B H (K' (.bool (P p))) → E B H (S.cvv Tryz.prog f [pv p] K'))
    (h : E B H (K (I (idxI (R.findIdx? P))))) : E B H (CF Tryz.prog 69 [v, f] K) := by
  refine E_mono (W := s69 _ _ K) ?_ fun _ => c69
  unfold s69
  refine E_rslen (v := v) (l := R) ?_
  refine E_loop (n := 4) (σ := Nat) (fun i => i ≤ R.length ∧ ∀ j (hj : j < R.length), j < i → P R[j] = false) (fun i => [v, f, I R.length, I i]) (fun _ => H) (fun i => R.length - i) 0 (fun _ => rfl) rfl ⟨Nat.zero_le _, fun j _ hj => by omega⟩ (fun W hW => hW) ?_
  rintro i K0 ⟨hi, hp⟩ hk
  refine E_fa fun _ => ?_
  refine E_lss ?_
  refine E_if (fun hc => ?_) (fun hc => ?_)
  · have hlt : i < R.length := by omega
    have hx : R[i]? = some R[i] := List.getElem?_eq_getElem hlt
    refine E_rsix (v := v) (l := R) hx fun _ _ => ?_
    refine E_ptldA ?_
    refine hf R[i] (List.getElem_mem hlt) _ ?_
    refine E_ifb (fun hb => ?_) (fun hb => ?_)
    · have e : R.findIdx? P = some i := List.findIdx?_eq_some_iff_getElem.2 ⟨hlt, hb, fun j hj => by rw [hp j (by omega) hj]; simp⟩
      rw [e] at h
      exact h
    · refine E_addI (by omega) (by omega) ?_
      refine hk (i + 1) ⟨by omega, fun j hj hji => ?_⟩ (by omega)
      rcases Nat.lt_or_ge j i with h' | h'
      · exact hp j hj h'
      · have : j = i := by omega
        subst this
        exact hb
  · have hie : i = R.length := by omega
    subst hie
    have e : R.findIdx? P = none := List.findIdx?_eq_none_iff.2 fun x hx => by
      obtain ⟨j, hj, rfl⟩ := List.mem_iff_getElem.1 hx
      exact hp j hj hj
    rw [e] at h
    exact h
theorem takeC {nb : Nat} {κ : Bool} {n : Int} {p : Rn} [HasC H nb κ 3 [I n]] (h : E B H (K (.bool (decide (n ≤ (p.2 : Int)))))) : E B H (S.cvv Tryz.prog (.func (.func 70) #[] #[ptr nb]) [pv p] K) := by
  refine E_cvv ok_take ?_
  refine E_mono (W := s70 _ _ K) ?_ fun _ => c70
  unfold s70
  (repeat first | refine gS ?_ | refine gA fun _ => ?_ | refine gX fun _ _ => ?_ | refine gT ?_ | refine gF ?_ | refine gI ?_)
  exact sm h
theorem claimC {nb : Nat} {κ : Bool} {a n : Int} {p : Rn} [HasC H nb κ 32 [I a, I n]] (hp : p.1 + p.2 ≤ 1000000) (ha : -1000000 ≤ a + n ∧ a + n ≤ 1000000) (h : E B H (K (.bool (decide ((p.1 : Int) ≤ a) && decide (a + n ≤ (p.1 : Int) + p.2))))) : E B H (S.cvv Tryz.prog (.func (.func 79) #[] #[ptr nb]) [pv p] K) := by
  refine E_cvv ok_claim ?_
  refine E_mono (W := s79 _ _ K) ?_ fun _ => c79
  unfold s79
  by_cases h1 : (p.1 : Int) ≤ a
  · rw [decide_eq_true h1, Bool.true_and] at h
    (repeat first | refine gS ?_ | refine gA fun _ => ?_ | refine gX fun _ _ => ?_ | refine gT ?_ | refine gF ?_ | refine gI ?_)
    exact sm h
  · rw [decide_eq_false h1, Bool.false_and] at h
    (repeat first | refine gS ?_ | refine gA fun _ => ?_ | refine gX fun _ _ => ?_ | refine gT ?_ | refine gF ?_ | refine gI ?_)
    exact sm h
theorem giveC {nb : Nat} {κ : Bool} {a n : Int} {p : Rn} [HasC H nb κ 32 [I a, I n]] (hp : p.1 + p.2 ≤ 1000000) (ha : -1000000 ≤ a + n ∧ a + n ≤ 1000000) (h : E B H (K (.bool (decide ((p.1 : Int) < a + n) && decide (a < (p.1 : Int) + p.2))))) : E B H (S.cvv Tryz.prog (.func (.func 75) #[] #[ptr nb]) [pv p] K) := by
  refine E_cvv ok_give ?_
  refine E_mono (W := s75 _ _ K) ?_ fun _ => c75
  unfold s75
  by_cases h1 : (p.1 : Int) < a + n
  · rw [decide_eq_true h1, Bool.true_and] at h
    (repeat first | refine gS ?_ | refine gA fun _ => ?_ | refine gX fun _ _ => ?_ | refine gT ?_ | refine gF ?_ | refine gI ?_)
    exact sm h
  · rw [decide_eq_false h1, Bool.false_and] at h
    (repeat first | refine gS ?_ | refine gA fun _ => ?_ | refine gX fun _ _ => ?_ | refine gT ?_ | refine gF ?_ | refine gI ?_)
    exact sm h
structure Rv where
  v : Value
  l : List Rn
  cell : isCell v = true
abbrev cV (b : Rv) : List Value := [b.v]
instance encV : Enc cV 1 := ⟨fun _ => rfl, fun x y hy => by simp at hy; subst hy; exact x.cell⟩
theorem growR {n : Nat} (hn : n ≤ 1000000) (h : ∀ v [CellI v], E B (rns v [] :: H) (K v)) : E B H (CF Tryz.prog 132 [nil, I n] K) := by
  refine E_mono (W := s132 _ _ K) ?_ fun _ => c132
  unfold s132
  refine E_join1 [nil, I n] H (fun q hq => ?_) ?_
  · refine E_lss ?_
    refine E_ifF (by omega) ?_
    exact hq
  refine E_fa fun _ => ?_
  refine E_joinC (σ := Cv) (fun _ => True) (fun v => [v.1]) (fun v => rns v.1 [] :: H) (fun q hq => ?_) (fun v _ => ?_)
  · (repeat first | refine gS ?_ | refine gA fun _ => ?_ | refine gX fun _ _ => ?_ | refine gT ?_ | refine gF ?_ | refine gI ?_)
    refine E_if (fun hc => ?_) (fun hc => ?_)
    · (repeat first | refine gS ?_ | refine gA fun _ => ?_ | refine gX fun _ _ => ?_ | refine gT ?_ | refine gF ?_ | refine gI ?_)
      refine sls_nil cR 2 (T := 32) ?_
      refine fd (a := rns nil []) ?_
      refine E_stake (k := 0) (Nat.zero_le _) fun v0 _ => ?_
      have e : ((n : Int) - (((0 : Nat) : Int) - ((0 : Nat) : Int))) = (n : Int) := by omega
      rw [e]
      show E B (osl 32 2 v0 0 [] :: H) _
      refine E_appz (k := (n : Int)) u_runs u_int elt_run (by simp [isCell]) (by omega) (by rw [Int.toNat_natCast]; omega) (by rw [Int.toNat_natCast]; omega) (by omega) (by omega) fun v' _ => ?_
      have e2 := rep_cR n
      rw [Int.toNat_natCast, e2, List.nil_append]
      have hl : (0 + n) = (List.replicate n ((0, 0) : Rn)).length := by simp
      rw [hl]
      show E B (rns v' (List.replicate n ((0, 0) : Rn)) :: H) _
      (repeat first | refine gS ?_ | refine gA fun _ => ?_ | refine gX fun _ _ => ?_ | refine gT ?_ | refine gF ?_ | refine gI ?_)
      refine E_stake (k := 0) (Nat.zero_le _) fun v2 hv2 => ?_
      exact hq ⟨v2, hv2.pf⟩ trivial
    · refine sls_nil cR 2 (T := 32) ?_
      exact hq ⟨nil, rfl⟩ trivial
  · refine E_fa fun _ => ?_
    have : CellI v.1 := ⟨v.2⟩
    exact h v.1
end Go.Proofs.YtmbfmkiagdhcoaaGreat.Ext
end
section
namespace Go.Proofs.YtmbfmkiagdhcoaaGreat.Ext
open Go Go.SL Go.Proofs Go.Proofs.YtmbfmkiagdhcoaaGreat.Sh Go.Proofs.YtmbfmkiagdhcoaaGreat.Oct Go.Proofs.YtmbfmkiagdhcoaaGreat.Disk Go.Proofs.YtmbfmkiagdhcoaaGreat.Slot
variable {B : World} {H : List Asrt} {K : Value → WT} {W : WT}
def catR (l : List Rv) : List Rn := l.flatMap (·.l)
theorem catR_suc {l : List Rv} {i : Nat} {x : Rv} (h : l[i]? = some x) : catR (l.take (i + 1)) = catR (l.take i) ++ x.l := by
  unfold catR
  rw [List.take_add_one, h, List.flatMap_append]; simp
theorem catR_le (l : List Rv) (i : Nat) : (catR (l.take i)).length ≤ (catR l).length := by
  conv => rhs; rw [← List.take_append_drop i l]
  unfold catR
  rw [List.flatMap_append, List.length_append]; omega
theorem buildRun (a n : Int) (w : World) : (Instr.build 32 #[(0, I a), (1, I n)]).run Tryz.prog w = .ok (.agg #[I a, I n]) w := by kernel_rfl
theorem fill2 (a n c m : Int) : Instr.fill (fun i => some (i * 2, 2)) (rep 2 [I 0, I 0]).toArray [(0, .agg #[I a, I n]), (1, .agg #[I c, I m])] = some #[I a, I n, I c, I m] := by kernel_rfl
theorem fill1 (a n : Int) : Instr.fill (fun i => some (i * 2, 2)) (rep 1 [I 0, I 0]).toArray [(0, .agg #[I a, I n])] = some #[I a, I n] := by kernel_rfl
theorem cells_one {v : Value} (h : isCell v = true) : v.cells = #[v] := by cases v <;> first | rfl | simp [isCell] at h
theorem fill3 {a b c : Value} (ha : isCell a = true) (hb : isCell b = true) (hc : isCell c = true) : Instr.fill (fun i => some (i * 1, 1)) (rep 3 [nil]).toArray [(0, a), (1, b), (2, c)] = some #[a, b, c] := by
  have e : (rep 3 [nil]).toArray = #[nil, nil, nil] := rfl
  rw [e]
  simp [Instr.fill, cells_one ha, cells_one hb, cells_one hc]
def two (p : Rn) (b k : Nat) : List Rn := [(p.1, b - p.1), (b + k, p.1 + p.2 - (b + k))]
def keep (L : List Rn) : List Rn := L.filter fun q => 0 < q.2
theorem keep_two (p : Rn) (b k : Nat) : keep (two p b k) = leftsL p b k := by
  unfold keep two leftsL
  by_cases h1 : p.1 < b <;> by_cases h2 : b + k < p.1 + p.2
  · simp [h1, h2, Nat.sub_pos_of_lt h1, Nat.sub_pos_of_lt h2]
  · simp [h1, h2, Nat.sub_pos_of_lt h1, Nat.sub_eq_zero_of_le (Nat.not_lt.1 h2)]
  · simp [h1, h2, Nat.sub_eq_zero_of_le (Nat.not_lt.1 h1), Nat.sub_pos_of_lt h2]
  · simp [h1, h2, Nat.sub_eq_zero_of_le (Nat.not_lt.1 h1), Nat.sub_eq_zero_of_le (Nat.not_lt.1 h2)]
theorem keep_suc {L : List Rn} {j : Nat} {q : Rn} (h : L[j]? = some q) : keep (L.take (j + 1)) = if 0 < q.2 then keep (L.take j) ++ [q] else keep (L.take j) := by
  unfold keep
  rw [List.take_add_one, h, List.filter_append]
  by_cases hq : 0 < q.2
  · simp [hq]
  · simp [hq]
theorem keep_le (L : List Rn) : (keep L).length ≤ L.length := List.length_filter_le _ _
attribute [local irreducible] S.pick S.ld S.ldN S.st S.box S.nc S.fad S.ixS S.ixA S.chr S.prt S.ext S.bin S.sh S.sbin S.beq S.neg1 S.com1 S.not1 S.cvt S.str1 S.lenS S.len S.cap S.lenM S.mx S.mn S.mkM S.cond S.gd S.fa S.dr S.rck S.join S.loop S.cvv S.eqv S.slc S.slcS S.b2s S.lk V U CF Gives E cel mpb osl ros dct dit itr lpo dfo
theorem concatR {v : Value} {l : List Rv} [hv : ∀ Q, Rs B (Q ++ H) v cV l] (hx : ∀ p ∈ l, ∀ Q, Rs B (Q ++ H) p.v cR p.l) (h2 : (catR l).length ≤ 1000000) (h3 : l.length ≤ 1000000)
    (h : ∀ v' [CellI v'], E B (rns v' (catR l) :: H) (K v')) : E B H (CF Tryz.prog 108 [v] K) := by
  have hv0 : Rs B H v cV l := hv []
  refine E_mono (W := s108 _ K) ?_ fun _ => c108
  unfold s108
  refine E_rslen (v := v) (l := l) ?_
  refine E_loop (n := 5) (σ := Nat) (fun i => i ≤ l.length) (fun i => [v, I (catR (l.take i)).length, v, I l.length, I i]) (fun _ => H) (fun i => l.length - i) 0 (fun _ => rfl) rfl (Nat.zero_le _) (fun W hW => hW) ?_
  intro i K0 hi hk
  refine E_fa fun _ => ?_
  refine E_lss ?_
  refine E_if (fun hc => ?_) (fun hc => ?_)
  · have hxi : l[i]? = some l[i] := List.getElem?_eq_getElem (by omega)
    have hxr := hx l[i] (List.getElem_mem (by omega)) []
    have hle := catR_le l (i + 1)
    have hk1 := hk (i + 1) (by omega) (by omega)
    generalize l[i] = x at hxi hxr
    rw [catR_suc hxi] at hle hk1
    rw [List.length_append] at hle hk1
    refine E_join1 [v, I ((catR (l.take i)).length + x.l.length : Nat), v, I l.length, I i] H (fun q hq => ?_) ?_
    · refine E_rsix (v := v) (l := l) hxi fun _ _ => ?_
      refine E_ptld ?_
      have : Rs B H x.v cR x.l := hxr
      refine E_rslen (v := x.v) (l := x.l) ?_
      refine E_addI (by omega) (by omega) ?_
      refine E_lss ?_
      refine E_ifF (by omega) ?_
      exact hq
    refine E_fa fun _ => ?_
    refine E_addI (by omega) (by omega) ?_
    exact hk1
  have hie : i = l.length := by omega
  subst hie
  clear hk
  rw [List.take_length]
  refine growR h2 fun v0 iv0 => ?_
  have hv1 := hv [rns v0 []]
  refine E_rslen (v := v) (l := l) ?_
  refine E_loop (n := 4) (σ := Nat × Cv) (fun s => s.1 ≤ l.length) (fun s => [s.2.1, v, I l.length, I s.1]) (fun s => rns s.2.1 (catR (l.take s.1)) :: H) (fun s => l.length - s.1) (0, ⟨v0, iv0.pf⟩) (fun _ => rfl) rfl (Nat.zero_le _) (fun W hW => hW) ?_
  rintro ⟨j, nv⟩ K2 hj hk2
  simp only at hj hk2 ⊢
  have inv : CellI nv.1 := ⟨nv.2⟩
  refine E_fa fun _ => ?_
  refine E_lss ?_
  refine E_if (fun hc => ?_) (fun hc => ?_)
  · have hxi : l[j]? = some l[j] := List.getElem?_eq_getElem (by omega)
    have hxr := hx l[j] (List.getElem_mem (by omega)) []
    have hle := catR_le l (j + 1)
    have hk1 : ∀ s : Cv, _ := fun s => hk2 (j + 1, s) (by simp only; omega) (by simp only; omega)
    simp only at hk1
    generalize l[j] = x at hxi hxr
    rw [catR_suc hxi] at hle
    rw [List.length_append] at hle
    simp only [catR_suc hxi] at hk1
    have hv2 := hv [rns nv.1 (catR (l.take j))]
    refine E_rsix (v := v) (l := l) hxi fun _ _ => ?_
    refine E_ptld ?_
    have : Rs B H x.v cR x.l := hxr
    refine E_sapps (enc := cR) (u := x.v) (m := x.l) u_runs elt_run (by omega) (by omega) fun v' hv' => ?_
    refine E_addI (by omega) (by omega) ?_
    exact hk1 ⟨v', hv'.pf⟩
  · have hje : j = l.length := by omega
    subst hje
    rw [List.take_length]
    exact h nv.1
theorem cutR {a f t i b k : Nat} {v : Value} {R : List Rn} {p : Rn} [CellI v] (hx : R[i]? = some p) (h1 : p.1 ≤ b) (h2 : b + k ≤ p.1 + p.2) (hb : p.1 + p.2 ≤ 5000) (hl : R.length ≤ 5000)
    (h : ∀ v' [CellI v'], E B (cel true a 127 [I f, I t, v'] :: rns v' (cutL R i b k) :: H) (K (.tuple #[]))) :
    E B (cel true a 127 [I f, I t, v] :: rns v R :: H) (CF Tryz.prog 71 [ptr a, I i, pI b k] K) := by
  have hi : i < R.length := (List.getElem?_eq_some_iff.1 hx).1
  refine E_mono (W := s71 _ _ _ K) ?_ fun _ => c71
  unfold s71
  refine gA fun v5 => ?_
  refine E_nc ?_
  refine E_fad0 ?_
  refine E_ld ?_
  refine E_rsix (v := v) (l := R) hx fun _ _ => ?_
  refine E_ptldA ?_
  refine gA fun v6 => ?_
  refine gS ?_
  (repeat first | refine gS ?_ | refine gA fun _ => ?_ | refine gX fun _ _ => ?_ | refine gT ?_ | refine gF ?_ | refine gI ?_)
  refine Dig.E_Vr (buildRun _ _) ?_
  (repeat first | refine gS ?_ | refine gA fun _ => ?_ | refine gX fun _ _ => ?_ | refine gT ?_ | refine gF ?_ | refine gI ?_)
  refine Dig.E_Vr (buildRun _ _) ?_
  rw [show (b : Int) - (p.1 : Int) = ((b - p.1 : Nat) : Int) by omega, show (b : Int) + (k : Int) = ((b + k : Nat) : Int) by omega, show (p.1 : Int) + (p.2 : Int) - (b : Int) - (k : Int) = ((p.1 + p.2 - (b + k) : Nat) : Int) by omega]
  refine Dig.E_bslK u_runs elt_run (by omega) (fill2 _ _ _ _) fun b42 => ?_
  refine E_slsC (enc := cR) (sz := 2) (two p b k) 2 rfl rfl ?_
  refine E_len ?_
  have hcv : isCell v = true := CellI.pf
  have h2l : (two p b k).length = 2 := rfl
  refine sls_nil cR 2 (T := 32) ?_
  refine E_loop (n := 6) (σ := Nat × Cv) (fun s => s.1 ≤ 2) (fun s => [ptr a, I i, s.2.1, .slice (some ⟨b42, 0, none⟩) 2 2, I 2, I s.1])
    (fun s => rns s.2.1 (keep ((two p b k).take s.1)) :: rns (.slice (some ⟨b42, 0, none⟩) 2 2) (two p b k) :: cel true v5 32 [I b, I k] :: cel true a 127 [I f, I t, v] :: rns v R :: H) (fun s => 2 - s.1) (0, ⟨nil, rfl⟩) (fun _ => rfl) rfl (Nat.zero_le _) (fun W hW => sm (G := rns nil [] :: rns (.slice (some ⟨b42, 0, none⟩) 2 2) (two p b k) :: cel true v5 32 [I b, I k] :: cel true a 127 [I f, I t, v] :: rns v R :: H) hW) ?_
  rintro ⟨j, v7, hc7⟩ K0 hj hk
  simp only at hj hk ⊢
  refine E_fa fun _ => ?_
  refine E_lss ?_
  refine E_if (fun hc => ?_) (fun hc => ?_)
  · have hq : (two p b k)[j]? = some ((two p b k)[j]'(by omega)) := List.getElem?_eq_getElem (by omega)
    generalize ((two p b k)[j]'(by omega)) = q at hq
    have hkl := keep_le ((two p b k).take j)
    rw [List.length_take] at hkl
    refine E_joinC (n := 6) (σ := Cv) (fun _ => True) (fun x => [ptr a, I i, x.1, .slice (some ⟨b42, 0, none⟩) 2 2, I 2, I j])
      (fun x => rns x.1 (keep ((two p b k).take (j + 1))) :: rns (.slice (some ⟨b42, 0, none⟩) 2 2) (two p b k) :: cel true v5 32 [I b, I k] :: cel true a 127 [I f, I t, v] :: rns v R :: H) ?_ ?_
    · intro K1 hk1
      refine E_rsix (v := .slice (some ⟨b42, 0, none⟩) 2 2) (l := two p b k) hq fun _ _ => ?_
      refine E_ptldA ?_
      refine gA fun v9 => ?_
      refine gS ?_
      (repeat first | refine gS ?_ | refine gA fun _ => ?_ | refine gX fun _ _ => ?_ | refine gT ?_ | refine gF ?_ | refine gI ?_)
      rw [keep_suc hq] at hk1
      refine E_if (fun hc1 => ?_) (fun hc1 => ?_)
      · rw [if_pos (by omega)] at hk1
        refine gS ?_
        refine fd (a := rns v7 (keep ((two p b k).take j))) ?_
        refine E_sapp1 (enc := cR) (xv := .agg #[I q.1, I q.2]) q u_runs elt_run rfl (by omega) (by omega) (by omega) fun v8 i8 => ?_
        exact sm (hk1 ⟨v8, i8.pf⟩ trivial)
      · rw [if_neg (by omega)] at hk1
        exact sm (hk1 ⟨v7, hc7⟩ trivial)
    · rintro ⟨v8, hc8⟩ _
      refine E_fa fun _ => ?_
      refine E_addI (by omega) (by omega) ?_
      exact hk (j + 1, ⟨v8, hc8⟩) (by simp only; omega) (by simp only; omega)
  · have : j = 2 := by omega
    subst this
    have e : (two p b k).take 2 = two p b k := rfl
    rw [e, keep_two]
    clear hk
    refine E_dr ?_
    refine E_nc ?_
    refine E_fad0 ?_
    refine E_ld ?_
    refine E_slcM (enc := cR) (sz := 2) (v := v) (l := R) (i := i) (by omega) fun x1 hx1 i1 => ?_
    refine E_nc ?_
    refine E_fad0 ?_
    refine E_ld ?_
    refine E_addI (by omega) (by omega) ?_
    refine E_slcS2 (enc := cR) (sz := 2) (v := v) (l := R) (i := i + 1) (j := R.length) rfl (Dig.bndN (by omega)) (by omega) (Nat.le_refl _) fun x2 hx2 i2 => ?_
    rw [List.take_of_length_le (by rw [List.length_drop]; omega)] at hx2
    refine Dig.E_bslK u_runss elt_runs (by omega) (fill3 i1.pf hc7 i2.pf) fun b72 => ?_
    refine E_slsC (enc := cV) (sz := 1) [⟨x1, R.take i, i1.pf⟩, ⟨v7, leftsL p b k, hc7⟩, ⟨x2, R.drop (i + 1), i2.pf⟩] 3 rfl rfl ?_
    have hcl : catR [⟨x1, R.take i, i1.pf⟩, ⟨v7, leftsL p b k, hc7⟩, ⟨x2, R.drop (i + 1), i2.pf⟩] = cutL R i b k := by
      have eg : R.getD i (0, 0) = p := by rw [List.getD_eq_getElem?_getD, hx]; rfl
      unfold cutL
      rw [eg]
      simp [catR]
    have hll : (cutL R i b k).length ≤ 10000 := by
      have := keep_le (two p b k)
      rw [keep_two] at this
      rw [← hcl]
      simp only [catR, List.flatMap_cons, List.flatMap_nil, List.length_append, List.length_take, List.length_drop, List.length_nil]; omega
    refine concatR (l := [⟨x1, R.take i, i1.pf⟩, ⟨v7, leftsL p b k, hc7⟩, ⟨x2, R.drop (i + 1), i2.pf⟩]) (hv := fun Q => rs_app Q inferInstance) (fun y hy Q => ?_) (by rw [hcl]; omega) (by simp) fun v73 i73 => ?_
    · refine rs_app Q ?_
      simp only [List.mem_cons, List.not_mem_nil, or_false] at hy
      rcases hy with rfl | rfl | rfl
      · exact hx1 _
      · exact inferInstance
      · exact hx2 _
    · rw [hcl]
      refine E_nc ?_
      refine E_fad0 ?_
      refine E_st ?_
      exact sm (h v73)
end Go.Proofs.YtmbfmkiagdhcoaaGreat.Ext
end
section
namespace Go.Proofs.YtmbfmkiagdhcoaaGreat.Ext
open Go Go.SL Go.Proofs Go.Proofs.YtmbfmkiagdhcoaaGreat.Sh Go.Proofs.YtmbfmkiagdhcoaaGreat.Oct Go.Proofs.YtmbfmkiagdhcoaaGreat.Disk Go.Proofs.YtmbfmkiagdhcoaaGreat.Slot
variable {B : World} {H : List Asrt} {K : Value → WT} {W : WT}
theorem set_del {R : List Rn} {n : Nat} {x : Rn} (h : n < R.length) : (R.set n x).take (n + 1) ++ (R.set n x).drop (n + 1 + 1) = R.take n ++ x :: R.drop (n + 2) := by
  induction R generalizing n with
  | nil => simp at h
  | cons p R ih =>
    cases n with
    | zero => simp
    | succ n =>
      have := ih (n := n) (by simpa using h)
      simp only [List.set_cons_succ, List.take_succ_cons, List.drop_succ_cons, List.cons_append]
      rw [this]
theorem join_some {R : List Rn} {n : Nat} {p q : Rn} (hp : R[n]? = some p) (hq : R[n + 1]? = some q) : joinL R n = if p.1 + p.2 = q.1 then R.take n ++ (p.1, p.2 + q.2) :: R.drop (n + 2) else R := by
  unfold joinL
  rw [hp, hq]
theorem join_short {R : List Rn} {n : Nat} (h : R.length ≤ n + 1) : joinL R n = R := by
  unfold joinL
  rw [List.getElem?_eq_none (i := n + 1) (by omega)]
  cases R[n]? <;> rfl
theorem E_setN {v : Value} {R : List Rn} {n a m0 m : Nat} (hx : R[n]? = some (a, m0)) (h : E B (rns v (R.set n (a, m)) :: H) (K undef)) :
    E B (rns v R :: H) (S.ixS 2 v (I n) fun p => S.fad p 1 fun q => S.st 1 q (I m) K) := by
  have hlt : n < R.length := (List.getElem?_eq_some_iff.1 hx).1
  refine E_oslo (by omega) fun b cap spare hv hle hxl hsl => ?_
  subst hv
  refine E_ixN hlt ?_
  refine E_fad ?_
  rw [Nat.zero_add]
  refine E_st' (by rw [List.length_append, hxl]; omega) ?_
  rw [cR_set hx]
  have hlen : R.length = (R.set n (a, m)).length := (List.length_set ..).symm
  refine E_osls (n := R.length) (cap := cap) (sz := 2) hle (by rw [cR_len, ← hlen]) hsl ?_
  have e : osl 32 2 (.slice (some ⟨b, 0, none⟩) R.length cap) R.length ((R.set n (a, m)).flatMap cR) = rns (.slice (some ⟨b, 0, none⟩) R.length cap) (R.set n (a, m)) := by
    unfold rns sls
    rw [← hlen]
  rw [e]
  exact h
attribute [local irreducible] S.pick S.ld S.ldN S.st S.box S.nc S.fad S.ixS S.ixA S.chr S.prt S.ext S.bin S.sh S.sbin S.beq S.neg1 S.com1 S.not1 S.cvt S.str1 S.lenS S.len S.cap S.lenM S.mx S.mn S.mkM S.cond S.gd S.fa S.dr S.rck S.join S.loop S.cvv S.eqv S.slc S.slcS S.b2s S.lk V U CF Gives E cel mpb osl ros dct dit itr lpo dfo
theorem joinNeg {a : Nat} {l : List Value} (h : E B (cel true a 127 l :: H) (K (.tuple #[]))) : E B (cel true a 127 l :: H) (CF Tryz.prog 78 [ptr a, I (-1)] K) := by
  refine E_mono (W := s78 _ _ K) ?_ fun _ => c78
  unfold s78
  refine E_join1 (n := 3) [ptr a, I (-1), .bool true] (cel true a 127 l :: H) (fun q hq => ?_) ?_
  · (repeat first | refine gS ?_ | refine gA fun _ => ?_ | refine gX fun _ _ => ?_ | refine gT ?_ | refine gF ?_ | refine gI ?_)
    exact hq
  · refine E_fa fun _ => ?_
    refine E_tt ?_
    exact h
theorem joinR {a f t n : Nat} {v : Value} {R : List Rn} [CellI v] (hl : R.length ≤ 5000) (hb : ∀ p ∈ R, p.1 + p.2 ≤ 5000) (h : ∀ v' [CellI v'], E B (cel true a 127 [I f, I t, v'] :: rns v' (joinL R n) :: H) (K (.tuple #[]))) (hn : n ≤ 5000) :
    E B (cel true a 127 [I f, I t, v] :: rns v R :: H) (CF Tryz.prog 78 [ptr a, I n] K) := by
  refine E_mono (W := s78 _ _ K) ?_ fun _ => c78
  unfold s78
  by_cases h1 : R.length ≤ n + 1
  · have h' := h v
    rw [join_short h1] at h'
    refine E_join1 (n := 3) [ptr a, I n, .bool true] (cel true a 127 [I f, I t, v] :: rns v R :: H) (fun q hq => ?_) ?_
    · have h0 : ¬ (n : Int) < 0 := by omega
      have h2 : (R.length : Int) ≤ (n : Int) + 1 := by omega
      (repeat first | refine gS ?_ | refine gA fun _ => ?_ | refine gX fun _ _ => ?_ | refine gT ?_ | refine gF ?_ | refine gI ?_)
      exact hq
    · refine E_fa fun _ => ?_
      refine E_tt ?_
      exact h'
  · have hp : R[n]? = some (R[n]'(by omega)) := List.getElem?_eq_getElem (by omega)
    have hq : R[n + 1]? = some (R[n + 1]'(by omega)) := List.getElem?_eq_getElem (by omega)
    have bp := hb _ (List.getElem_mem (show n < R.length by omega))
    have bq := hb _ (List.getElem_mem (show n + 1 < R.length by omega))
    generalize (R[n]'(by omega)) = p at hp bp
    generalize (R[n + 1]'(by omega)) = q at hq bq
    refine E_join1 (n := 3) [ptr a, I n, .bool (decide ((p.1 : Int) + p.2 ≠ (q.1 : Int)))] (cel true a 127 [I f, I t, v] :: rns v R :: H) (fun k hk => ?_) ?_
    · have h0 : ¬ (n : Int) < 0 := by omega
      have h2 : ¬ (R.length : Int) ≤ (n : Int) + 1 := by omega
      (repeat first | refine gS ?_ | refine gA fun _ => ?_ | refine gX fun _ _ => ?_ | refine gT ?_ | refine gF ?_ | refine gI ?_)
      exact hk
    · refine E_fa fun _ => ?_
      have h' := fun v' i => @h v' i
      rw [join_some hp hq] at h'
      refine E_if (fun hc => ?_) (fun hc => ?_)
      · rw [if_neg (by omega)] at h'
        exact h' v inferInstance
      · have he : p.1 + p.2 = q.1 := by omega
        rw [if_pos he] at h'
        refine E_dr ?_
        refine E_nc ?_
        refine E_fad0 ?_
        refine E_ld ?_
        refine E_rsix (v := v) (l := R) hp fun _ _ => ?_
        refine E_ptfad0 fun _ _ => ?_
        refine E_ptld ?_
        refine E_nc ?_
        refine E_fad0 ?_
        refine E_ld ?_
        refine E_addI (by omega) (by omega) ?_
        rw [show (n : Int) + 1 = ((n + 1 : Nat) : Int) by omega]
        refine E_rsix (v := v) (l := R) hq fun _ _ => ?_
        refine E_ptfad0 fun _ _ => ?_
        refine E_ptld ?_
        refine E_addI (by omega) (by omega) ?_
        rw [show (p.2 : Int) + (q.2 : Int) = ((p.2 + q.2 : Nat) : Int) by omega]
        refine fd (a := rns v R) ?_
        refine E_setN (a := p.1) (m0 := p.2) hp ?_
        refine E_nc ?_
        refine E_fad0 ?_
        refine E_ld ?_
        refine E_addI (by omega) (by omega) ?_
        refine E_addI (by omega) (by omega) ?_
        rw [show (n : Int) + 1 = ((n + 1 : Nat) : Int) by omega, show (n : Int) + 2 = ((n + 1 + 1 : Nat) : Int) by omega]
        refine deleteR (j := n + 1) (by rw [List.length_set]; omega) (by rw [List.length_set]; omega) fun v' i' => ?_
        rw [set_del (by omega)]
        refine E_nc ?_
        refine E_fad0 ?_
        refine E_st ?_
        exact sm (h' v' i')
end Go.Proofs.YtmbfmkiagdhcoaaGreat.Ext
end
section
namespace Go.Proofs.YtmbfmkiagdhcoaaGreat.Ext
open Go Go.SL Go.Proofs Go.Proofs.YtmbfmkiagdhcoaaGreat.Sh Go.Proofs.YtmbfmkiagdhcoaaGreat.Oct Go.Proofs.YtmbfmkiagdhcoaaGreat.Disk Go.Proofs.YtmbfmkiagdhcoaaGreat.Slot
variable {B : World} {H : List Asrt} {K : Value → WT} {W : WT}
structure XOk (f t : Nat) (R : List Rn) : Prop where
  canon : Canon f R
  top : ∀ p ∈ R, p.1 + p.2 ≤ t
  le : t ≤ 4096
theorem canon_len {lo t : Nat} {R : List Rn} (h : Canon lo R) (ht : ∀ p ∈ R, p.1 + p.2 ≤ t) : R = [] ∨ lo + R.length ≤ t := by
  induction R generalizing lo with
  | nil => exact .inl rfl
  | cons p R ih =>
    right
    have h1 := ht p (List.mem_cons_self ..)
    obtain ⟨c1, c2, c3⟩ := h
    rcases ih c3 (fun q hq => ht q (List.mem_cons_of_mem _ hq)) with rfl | h2
    · simp; omega
    · rw [List.length_cons]; omega
theorem XOk.len {f t : Nat} {R : List Rn} (h : XOk f t R) : R.length ≤ 4096 := by
  have := h.le
  rcases canon_len h.canon h.top with h1 | h1
  · rw [h1]; simp
  · omega
theorem join_top {T : Nat} {R : List Rn} (h : ∀ p ∈ R, p.1 + p.2 ≤ T) (i : Nat) : ∀ p ∈ joinL R i, p.1 + p.2 ≤ T := by
  induction R generalizing i with
  | nil => exact h
  | cons p R ih =>
    cases i with
    | succ i =>
      rw [join_succ]
      intro q hq
      rcases List.mem_cons.1 hq with rfl | hq
      · exact h _ (List.mem_cons_self ..)
      · exact ih (fun r hr => h r (List.mem_cons_of_mem _ hr)) i q hq
    | zero =>
      cases R with
      | nil => exact h
      | cons q R =>
        rw [join_two]
        split
        · rename_i he
          intro r hr
          rcases List.mem_cons.1 hr with rfl | hr
          · have := h q (by simp)
            simp only; omega
          · exact h r (by simp [hr])
        · exact h
theorem join_len (R : List Rn) (i : Nat) : (joinL R i).length ≤ R.length := by
  induction R generalizing i with
  | nil => exact Nat.le_refl _
  | cons p R ih =>
    cases i with
    | succ i =>
      have := ih i
      rw [join_succ, List.length_cons, List.length_cons]; omega
    | zero =>
      cases R with
      | nil => exact Nat.le_refl _
      | cons q R =>
        rw [join_two]
        split
        · simp
        · exact Nat.le_refl _
def xmap (a f t : Nat) (R : List Rn) : Asrt := ex fun v : Cv => all [cel true a 127 [I f, I t, v.1], rns v.1 R]
theorem E_xm {a f t : Nat} {R : List Rn} (h : ∀ v [CellI v], E B (cel true a 127 [I f, I t, v] :: rns v R :: H) W) : E B (xmap a f t R :: H) W := E_ex fun x => E_all (@h x.1 ⟨x.2⟩)
theorem E_xmS {a f t : Nat} {R : List Rn} {v : Value} [hc : CellI v] (h : E B (xmap a f t R :: H) W) : E B (cel true a 127 [I f, I t, v] :: rns v R :: H) W :=
  E_all' (G := [cel true a 127 [I f, I t, v], rns v R]) (E_ex' (f := fun v : Cv => all [cel true a 127 [I f, I t, v.1], rns v.1 R]) ⟨v, hc.pf⟩ h)
theorem u_pMap : Tryz.prog.underlying 74 = some (.pointer 127) := by kernel_rfl
theorem buildMap (f t : Int) (w : World) : (Instr.build 127 #[(0, I f), (1, I t)]).run Tryz.prog w = .ok (.agg #[I f, I t, nil]) w := by kernel_rfl
def newL (f t : Nat) : List Rn := if f < t then [(f, t - f)] else []
def takeO (R : List Rn) (n : Int) : Option Nat := R.findIdx? fun p => decide (n ≤ (p.2 : Int))
def takeV (R : List Rn) (n : Int) : Int × Int × List Rn := if n < 1 then (0, 2, R) else match takeO R n with
  | some i => ((R.getD i (0, 0)).1, 0, cutL R i (R.getD i (0, 0)).1 n.toNat)
  | none => (0, 8, R)
def claimO (R : List Rn) (x n : Int) : Option Nat := R.findIdx? fun p => decide ((p.1 : Int) ≤ x) && decide (x + n ≤ (p.1 : Int) + p.2)
def claimV (f t : Nat) (R : List Rn) (x n : Int) : Int × List Rn := if wI f t x n = false then (2, R) else match claimO R x n with
  | some i => (0, cutL R i x.toNat n.toNat)
  | none => (10, R)
def hitB (R : List Rn) (x n : Int) : Bool := (R.findIdx? fun p => decide ((p.1 : Int) < x + n) && decide (x < (p.1 : Int) + p.2)).isSome
def giveV (f t : Nat) (R : List Rn) (x n : Int) : Int × List Rn := if wI f t x n = false then (2, R) else if hitB R x n = true then (9, R) else (0, giveL R x.toNat n.toNat)
attribute [local irreducible] S.pick S.ld S.ldN S.st S.box S.nc S.fad S.ixS S.ixA S.chr S.prt S.ext S.bin S.sh S.sbin S.beq S.neg1 S.com1 S.not1 S.cvt S.str1 S.lenS S.len S.cap S.lenM S.mx S.mn S.mkM S.cond S.gd S.fa S.dr S.rck S.join S.loop S.cvv S.eqv S.slc S.slcS S.b2s S.lk V U CF Gives E cel mpb osl ros dct dit itr lpo dfo
theorem xnew {f t : Nat} (hf : f ≤ t) (ht : t ≤ 4096) (h : ∀ a, E B (xmap a f t (newL f t) :: H) (K (.tuple #[ptr a, I 0]))) : E B H (CF Tryz.prog 25 [I f, I t] K) := by
  refine E_mono (W := s25 _ _ K) ?_ fun _ => c25
  unfold s25
  refine E_join1 (n := 3) [I f, I t, .bool false] H (fun q hq => ?_) ?_
  · have h1 : ¬ (f : Int) < 0 := by omega
    have h2 : ¬ (t : Int) < (f : Int) := by omega
    have h3 : ¬ (4096 : Int) < (t : Int) := by omega
    (repeat first | refine gS ?_ | refine gA fun _ => ?_ | refine gX fun _ _ => ?_ | refine gT ?_ | refine gF ?_ | refine gI ?_)
    rw [decide_eq_false h3]
    exact hq
  · refine E_fa fun _ => ?_
    refine E_ff ?_
    refine Dig.E_Vr (buildMap _ _) ?_
    refine gA fun a => ?_
    have h' := h a
    refine E_joinC (n := 1) (σ := Cv) (fun _ => True) (fun _ => [ptr a]) (fun x => cel true a 127 [I f, I t, x.1] :: rns x.1 (newL f t) :: H) (fun q hq => ?_) (fun x _ => ?_)
    · refine E_lss ?_
      refine E_if (fun hc => ?_) (fun hc => ?_)
      · have e : newL f t = [(f, t - f)] := if_pos (by omega)
        rw [e] at hq
        refine E_subI (by omega) (by omega) ?_
        rw [show (t : Int) - (f : Int) = ((t - f : Nat) : Int) by omega]
        refine Dig.E_Vr (buildRun _ _) ?_
        refine Dig.E_bslK u_runs elt_run (by omega) (fill1 _ _) fun b => ?_
        refine E_slsC (enc := cR) (sz := 2) [(f, t - f)] 1 rfl rfl ?_
        refine E_nc ?_
        refine E_fad0 ?_
        refine E_st ?_
        exact sm (hq ⟨.slice (some ⟨b, 0, none⟩) 1 1, rfl⟩ trivial)
      · have e : newL f t = [] := if_neg (by omega)
        rw [e] at hq
        refine sls_nil cR 2 (T := 32) ?_
        exact sm (hq ⟨nil, rfl⟩ trivial)
    · refine E_fa fun _ => ?_
      have : CellI x.1 := ⟨x.2⟩
      exact E_xmS h'
theorem xtake {a f t : Nat} {R : List Rn} {n : Int} (hR : XOk f t R) (h : E B (xmap a f t (takeV R n).2.2 :: H) (K (.tuple #[I (takeV R n).1, I (takeV R n).2.1]))) : E B (xmap a f t R :: H) (CF Tryz.prog 38 [ptr a, I n] K) := by
  have hl := hR.len
  refine E_mono (W := s38 _ _ K) ?_ fun _ => c38
  unfold s38
  unfold takeV at h
  refine gA fun nb => ?_
  refine E_peq u_pMap ?_
  refine E_ff ?_
  refine E_ld ?_
  refine E_lss ?_
  refine E_if (fun hc => ?_) (fun hc => ?_)
  · rw [if_pos hc] at h
    exact sm h
  · rw [if_neg hc] at h
    refine fd (a := xmap a f t R) ?_
    refine E_xm fun v _ => ?_
    refine E_nc ?_
    refine E_fad0 ?_
    refine E_ld ?_
    refine idxR (v := v) (R := R) (P := fun p => decide (n ≤ (p.2 : Int))) (by omega) (fun p hp K' hk => takeC hk) ?_
    have eo : R.findIdx? (fun p => decide (n ≤ (p.2 : Int))) = takeO R n := rfl
    rw [eo]
    cases ho : takeO R n with
    | none =>
      simp only [ho] at h
      refine E_lss ?_
      refine E_ifT (by decide) ?_
      exact E_xmS (sm h)
    | some i =>
      simp only [ho] at h
      obtain ⟨hi, hb, _⟩ := List.findIdx?_eq_some_iff_getElem.1 ho
      have hx : R[i]? = some R[i] := List.getElem?_eq_getElem hi
      have eg : R.getD i (0, 0) = R[i] := by rw [List.getD_eq_getElem?_getD, hx]; rfl
      rw [eg] at h
      have ht := hR.top _ (List.getElem_mem hi)
      have hle := hR.le
      have hn : n ≤ (R[i].2 : Int) := by simpa using hb
      generalize R[i] = p at hx h ht hn
      simp only [idxI]
      refine E_lss ?_
      refine E_ifF (by omega) ?_
      refine E_nc ?_
      refine E_fad0 ?_
      refine E_ld ?_
      refine E_rsix (v := v) (l := R) hx fun _ _ => ?_
      refine E_ptfad0 fun _ _ => ?_
      refine E_ptld ?_
      refine E_ld ?_
      refine Dig.E_Vr (buildRun _ _) ?_
      have en : n = ((n.toNat : Nat) : Int) := by omega
      have e2 : (Value.agg #[I p.1, I n]) = pI (p.1 : Int) ((n.toNat : Nat) : Int) := by rw [← en]
      rw [e2]
      refine cutR (b := p.1) (k := n.toNat) hx (Nat.le_refl _) (by omega) (by omega) (by omega) fun v' _ => ?_
      exact E_xmS (sm h)
end Go.Proofs.YtmbfmkiagdhcoaaGreat.Ext
end
section
namespace Go.Proofs.YtmbfmkiagdhcoaaGreat.Ext
open Go Go.SL Go.Proofs Go.Proofs.YtmbfmkiagdhcoaaGreat.Sh Go.Proofs.YtmbfmkiagdhcoaaGreat.Oct Go.Proofs.YtmbfmkiagdhcoaaGreat.Disk Go.Proofs.YtmbfmkiagdhcoaaGreat.Slot
variable {B : World} {H : List Asrt} {K : Value → WT} {W : WT}
theorem wI_of {f t : Nat} {x n : Int} (h : wI f t x n = true) : 1 ≤ n ∧ (f : Int) ≤ x ∧ x < (t : Int) ∧ n ≤ (t : Int) - x := by
  unfold wI at h
  exact of_decide_eq_true h
theorem give_top {R : List Rn} {b k T : Nat} (h : ∀ p ∈ R, p.1 + p.2 ≤ T) (hb : b + k ≤ T) : ∀ p ∈ R.take (posL R b) ++ (b, k) :: R.drop (posL R b), p.1 + p.2 ≤ T := fun p hp => by
  rcases List.mem_append.1 hp with hp | hp
  · exact h p (List.mem_of_mem_take hp)
  · rcases List.mem_cons.1 hp with rfl | hp
    · exact hb
    · exact h p (List.mem_of_mem_drop hp)
attribute [local irreducible] S.pick S.ld S.ldN S.st S.box S.nc S.fad S.ixS S.ixA S.chr S.prt S.ext S.bin S.sh S.sbin S.beq S.neg1 S.com1 S.not1 S.cvt S.str1 S.lenS S.len S.cap S.lenM S.mx S.mn S.mkM S.cond S.gd S.fa S.dr S.rck S.join S.loop S.cvv S.eqv S.slc S.slcS S.b2s S.lk V U CF Gives E cel mpb osl ros dct dit itr lpo dfo
theorem xclaim {a f t : Nat} {R : List Rn} {x n : Int} (hR : XOk f t R) (h : E B (xmap a f t (claimV f t R x n).2 :: H) (K (I (claimV f t R x n).1))) : E B (xmap a f t R :: H) (CF Tryz.prog 41 [ptr a, pI x n] K) := by
  have hl := hR.len
  have hle := hR.le
  refine E_mono (W := s41 _ _ K) ?_ fun _ => c41
  unfold s41
  unfold claimV at h
  refine gA fun nb => ?_
  refine E_peq u_pMap ?_
  refine E_ff ?_
  refine gS ?_
  refine fd (a := xmap a f t R) ?_
  refine E_xm fun v _ => ?_
  refine within (v := v) (f := f) (t := t) (x := x) (n := n) (by omega) ?_
  refine E_notb ?_
  refine E_ifb (fun hw => ?_) (fun hw => ?_)
  · have hw' : wI f t x n = false := by simpa using hw
    rw [if_pos hw'] at h
    exact E_xmS (sm h)
  · have hw' : wI f t x n = true := by simpa using hw
    obtain ⟨w1, w2, w3, w4⟩ := wI_of hw'
    rw [if_neg (by rw [hw']; decide)] at h
    refine E_nc ?_
    refine E_fad0 ?_
    refine E_ld ?_
    refine idxR (v := v) (R := R) (P := fun p => decide ((p.1 : Int) ≤ x) && decide (x + n ≤ (p.1 : Int) + p.2)) (by omega) (fun p hp K' hk => claimC (by have := hR.top p hp; omega) (by omega) hk) ?_
    have eo : R.findIdx? (fun p => decide ((p.1 : Int) ≤ x) && decide (x + n ≤ (p.1 : Int) + p.2)) = claimO R x n := rfl
    rw [eo]
    cases ho : claimO R x n with
    | none =>
      simp only [ho] at h
      refine E_lss ?_
      refine E_ifT (by decide) ?_
      exact E_xmS (sm h)
    | some i =>
      simp only [ho] at h
      obtain ⟨hi, hb, _⟩ := List.findIdx?_eq_some_iff_getElem.1 ho
      have hx : R[i]? = some R[i] := List.getElem?_eq_getElem hi
      have ht := hR.top _ (List.getElem_mem hi)
      simp only [Bool.and_eq_true, decide_eq_true_eq] at hb
      generalize R[i] = p at hx ht hb
      simp only [idxI]
      refine E_lss ?_
      refine E_ifF (by omega) ?_
      refine gS ?_
      have e2 : (Value.agg #[I x, I n]) = pI ((x.toNat : Nat) : Int) ((n.toNat : Nat) : Int) := by
        rw [Int.toNat_of_nonneg (by omega), Int.toNat_of_nonneg (by omega)]
      have e3 : (Value.agg [I x, I n].toArray) = pI ((x.toNat : Nat) : Int) ((n.toNat : Nat) : Int) := e2
      rw [e3]
      refine fd (a := rns v R) ?_
      refine fd (a := cel true a 127 [I f, I t, v]) ?_
      refine cutR (b := x.toNat) (k := n.toNat) hx (by omega) (by omega) (by omega) (by omega) fun v' _ => ?_
      exact E_xmS (sm h)
theorem giveTail {a f t b k : Nat} {v u : Value} {R : List Rn} [CellI v] [CellI u] (hl : R.length ≤ 4900) (ht : ∀ p ∈ R, p.1 + p.2 ≤ 5000) (hb : b + k ≤ 5000) (h : E B (xmap a f t (giveL R b k) :: H) (K (I 0))) :
    E B (cel true a 127 [I f, I t, v] :: rns u (R.take (posL R b) ++ (b, k) :: R.drop (posL R b)) :: H)
      (S.nc (ptr a) fun v53 => S.fad v53 2 fun v54 => S.st 1 v54 u fun _ => CF Tryz.prog 78 [ptr a, I (posL R b)] fun _ => S.bin .sub (I (posL R b)) (I 1) fun v60 => CF Tryz.prog 78 [ptr a, v60] fun _ => K (I 0)) := by
  have hp := pos_le R b
  have htp := give_top ht hb
  unfold giveL at h
  have hlen : (R.take (posL R b) ++ (b, k) :: R.drop (posL R b)).length ≤ 4901 := by simp; omega
  generalize hR1 : R.take (posL R b) ++ (b, k) :: R.drop (posL R b) = R1 at h htp hlen
  refine E_nc ?_
  refine E_fad0 ?_
  refine E_st ?_
  refine joinR (n := posL R b) (v := u) (R := R1) (by omega) htp (fun v1 _ => ?_) (by omega)
  have hl2 := join_len R1 (posL R b)
  have ht2 := join_top htp (posL R b)
  refine E_subI (by omega) (by omega) ?_
  by_cases h0 : posL R b = 0
  · rw [if_pos h0] at h
    have e1 : R1 = (b, k) :: R := by rw [← hR1, h0]; rfl
    rw [e1] at hl2 ht2 ⊢
    rw [h0]
    refine joinNeg ?_
    exact E_xmS (sm h)
  · rw [if_neg h0] at h
    rw [show ((posL R b : Nat) : Int) - 1 = ((posL R b - 1 : Nat) : Int) by omega]
    refine joinR (n := posL R b - 1) (v := v1) (R := joinL R1 (posL R b)) (by omega) ht2 (fun v2 _ => ?_) (by omega)
    exact E_xmS (sm h)
theorem xgive {a f t : Nat} {R : List Rn} {x n : Int} (hR : XOk f t R) (h : E B (xmap a f t (giveV f t R x n).2 :: H) (K (I (giveV f t R x n).1))) : E B (xmap a f t R :: H) (CF Tryz.prog 40 [ptr a, pI x n] K) := by
  have hl := hR.len
  have hle := hR.le
  refine E_mono (W := s40 _ _ K) ?_ fun _ => c40
  unfold s40
  unfold giveV at h
  refine gA fun nb => ?_
  refine E_peq u_pMap ?_
  refine E_ff ?_
  refine gS ?_
  refine fd (a := xmap a f t R) ?_
  refine E_xm fun v _ => ?_
  refine within (v := v) (f := f) (t := t) (x := x) (n := n) (by omega) ?_
  refine E_notb ?_
  refine E_ifb (fun hw => ?_) (fun hw => ?_)
  · have hw' : wI f t x n = false := by simpa using hw
    rw [if_pos hw'] at h
    exact E_xmS (sm h)
  have hw' : wI f t x n = true := by simpa using hw
  obtain ⟨w1, w2, w3, w4⟩ := wI_of hw'
  rw [if_neg (by rw [hw']; decide)] at h
  refine E_nc ?_
  refine E_fad0 ?_
  refine E_ld ?_
  refine E_mono (W := s74 _ _ _) ?_ fun _ => c74
  unfold s74
  refine idxR (v := v) (R := R) (P := fun p => decide ((p.1 : Int) < x + n) && decide (x < (p.1 : Int) + p.2)) (by omega) (fun p hp K' hk => giveC (by have := hR.top p hp; omega) (by omega) hk) ?_
  unfold hitB at h
  generalize R.findIdx? (fun p => decide ((p.1 : Int) < x + n) && decide (x < (p.1 : Int) + p.2)) = o at h
  cases o with
  | some i =>
    refine E_geq ?_
    simp only [idxI]
    refine E_ifT (by omega) ?_
    have h' : E B (xmap a f t R :: H) (K (I 9)) := h
    exact E_xmS (sm h')
  | none =>
    refine E_geq ?_
    refine E_ifF (by decide) ?_
    have h' : E B (xmap a f t (giveL R x.toNat n.toNat) :: H) (K (I 0)) := h
    clear h
    obtain ⟨b, rfl⟩ : ∃ b : Nat, x = (b : Int) := ⟨x.toNat, by omega⟩
    obtain ⟨k, rfl⟩ : ∃ k : Nat, n = (k : Int) := ⟨n.toNat, by omega⟩
    rw [Int.toNat_natCast, Int.toNat_natCast] at h'
    have hpl := pos_le R b
    refine E_loop (n := 3) (σ := Nat) (fun i => i ≤ posL R b) (fun i => [ptr a, ptr nb, I i]) (fun _ => cel true a 127 [I f, I t, v] :: rns v R :: cel true nb 32 [I b, I k] :: H) (fun i => posL R b - i) 0 (fun _ => rfl) rfl (Nat.zero_le _) (fun W hW => hW) ?_
    rintro i K0 hi hk
    refine E_fa fun _ => ?_
    refine E_join1 (n := 4) [ptr a, ptr nb, I i, .bool (decide (i < posL R b))] (cel true a 127 [I f, I t, v] :: rns v R :: cel true nb 32 [I b, I k] :: H) (fun q hq => ?_) ?_
    · by_cases hc : (i : Int) < (R.length : Int)
      · have hx : R[i]? = some (R[i]'(by omega)) := List.getElem?_eq_getElem (by omega)
        have hlt : decide (i < posL R b) = decide (((R[i]'(by omega)).1 : Int) < (b : Int)) := by
          rw [decide_eq_decide]
          constructor
          · intro h1
            obtain ⟨p, hp, hpb⟩ := pos_at h1
            rw [hx] at hp
            cases hp
            omega
          · intro h1
            rcases Nat.lt_or_ge i (posL R b) with h2 | h2
            · exact h2
            · have : i = posL R b := by omega
              subst this
              have := pos_end hx
              omega
        rw [hlt] at hq
        generalize (R[i]'(by omega)) = p at hx hq
        (repeat first | refine gS ?_ | refine gA fun _ => ?_ | refine gX fun _ _ => ?_ | refine gT ?_ | refine gF ?_ | refine gI ?_)
        exact hq
      · have hlt : decide (i < posL R b) = false := by rw [decide_eq_false_iff_not]; omega
        rw [hlt] at hq
        (repeat first | refine gS ?_ | refine gA fun _ => ?_ | refine gX fun _ _ => ?_ | refine gT ?_ | refine gF ?_ | refine gI ?_)
        exact hq
    · refine E_fa fun _ => ?_
      refine E_if (fun hc => ?_) (fun hc => ?_)
      · refine E_addI (by omega) (by omega) ?_
        exact hk (i + 1) (by omega) (by omega)
      · have hie : i = posL R b := by omega
        subst hie
        have htop : ∀ p ∈ R, p.1 + p.2 ≤ 5000 := fun p hp => by have := hR.top p hp; omega
        refine E_dr ?_
        refine E_nc ?_
        refine E_fad0 ?_
        refine E_ld ?_
        refine gS ?_
        refine E_both ?_ ?_
        · refine cloneR (v := v) (R := R) (by omega) fun v48 _ => ?_
          refine E_rck1 (E_ldNA (E_fact rfl)) (E_rck0 ?_)
          refine E_bslU u_runs elt_run (by omega) (fill1 _ _) fun bv => ?_
          refine fd (a := rns v48 R) ?_
          refine fd (a := raw bv 32 [I b, I k]) ?_
          refine fd (a := rns v48 R) ?_
          refine insertR (v := v48) (R := R) (r := (b, k)) (bv := bv) hpl (by omega) fun v52 _ => ?_
          refine sm (G := cel true a 127 [I f, I t, v] :: rns v52 (R.take (posL R b) ++ (b, k) :: R.drop (posL R b)) :: H) ?_
          exact giveTail (by omega) htop (by omega) h'
        · refine E_bslU u_runs elt_run (by omega) (fill1 _ _) fun bv => ?_
          refine E_rck1 (E_ld (E_fact rfl)) (E_rck0 ?_)
          refine cloneR (v := v) (R := R) (by omega) fun v48 _ => ?_
          refine fd (a := raw bv 32 [I b, I k]) ?_
          refine fd (a := rns v48 R) ?_
          refine insertR (v := v48) (R := R) (r := (b, k)) (bv := bv) hpl (by omega) fun v52 _ => ?_
          refine sm (G := cel true a 127 [I f, I t, v] :: rns v52 (R.take (posL R b) ++ (b, k) :: R.drop (posL R b)) :: H) ?_
          exact giveTail (by omega) htop (by omega) h'
end Go.Proofs.YtmbfmkiagdhcoaaGreat.Ext
end
section
namespace Go.Proofs.YtmbfmkiagdhcoaaGreat.Ext
def extL (R : List Rx) : List Rx := R.set (R.length - 1) ((R.getD (R.length - 1) (0, 0)).1, (R.getD (R.length - 1) (0, 0)).2 + 1)
def rl (f : Nat) (T : List Bool) : Nat → List Rx
  | 0 => []
  | i + 1 => if T.getD i true = true then rl f T i else if 0 < i ∧ T.getD (i - 1) true = false then extL (rl f T i) else rl f T i ++ [(f + i, 1)]
theorem ext_snoc (R : List Rx) (p : Rx) : extL (R ++ [p]) = R ++ [(p.1, p.2 + 1)] := by
  have e : (R ++ [p]).length - 1 = R.length := by simp
  unfold extL
  have e2 : (R ++ [p]).getD R.length (0, 0) = p := by rw [List.getD_eq_getElem?_getD, List.getElem?_append_right (Nat.le_refl _), Nat.sub_self]; rfl
  rw [e, e2, List.set_append_right _ _ (Nat.le_refl _), Nat.sub_self]
  rfl
theorem canon_snoc {lo : Nat} {R : List Rx} {p : Rx} : Canon lo (R ++ [p]) ↔ Canon lo R ∧ (∀ q ∈ R, q.1 + q.2 < p.1) ∧ lo ≤ p.1 ∧ 1 ≤ p.2 := by
  induction R generalizing lo with
  | nil => simp [Canon]
  | cons q R ih =>
    rw [List.cons_append]
    constructor
    · rintro ⟨h1, h2, h3⟩
      obtain ⟨a1, a2, a3, a4⟩ := ih.1 h3
      refine ⟨⟨h1, h2, a1⟩, fun r hr => ?_, by omega, a4⟩
      rcases List.mem_cons.1 hr with rfl | hr
      · omega
      · exact a2 r hr
    · rintro ⟨⟨h1, h2, h3⟩, h4, h5, h6⟩
      refine ⟨h1, h2, ih.2 ⟨h3, fun r hr => h4 r (List.mem_cons_of_mem _ hr), ?_, h6⟩⟩
      have := h4 q (List.mem_cons_self ..)
      omega
theorem rl_ok (f : Nat) (T : List Bool) (i : Nat) : Canon f (rl f T i) ∧ ∀ x, In (rl f T i) x ↔ ∃ j, j < i ∧ x = f + j ∧ T.getD j true = false := by
  induction i with
  | zero => exact ⟨trivial, fun x => ⟨fun h => (in_nil x h).elim, fun ⟨j, h, _⟩ => by omega⟩⟩
  | succ i ih =>
    obtain ⟨hc, hi⟩ := ih
    have hend : ∀ q ∈ rl f T i, ∃ j, j < i ∧ q.1 + q.2 = f + j + 1 ∧ T.getD j true = false := fun q hq => by
      have h1 := hc.mem hq
      obtain ⟨j, h2, h3, h4⟩ := (hi (q.1 + q.2 - 1)).1 ⟨q, hq, by omega, by omega⟩
      exact ⟨j, h2, by omega, h4⟩
    unfold rl
    by_cases h0 : T.getD i true = true
    · rw [if_pos h0]
      refine ⟨hc, fun x => (hi x).trans ⟨fun ⟨j, h1, h2⟩ => ⟨j, by omega, h2⟩, fun ⟨j, h1, h2, h3⟩ => ⟨j, ?_, h2, h3⟩⟩⟩
      rcases Nat.lt_or_ge j i with h | h
      · exact h
      · have : j = i := by omega
        subst this
        rw [h0] at h3; cases h3
    · have h0' : T.getD i true = false := by simpa using h0
      rw [if_neg h0]
      by_cases h1 : 0 < i ∧ T.getD (i - 1) true = false
      · rw [if_pos h1]
        have hin : In (rl f T i) (f + (i - 1)) := (hi _).2 ⟨i - 1, by omega, rfl, h1.2⟩
        rcases List.eq_nil_or_concat (rl f T i) with hn | ⟨R, p, hn⟩
        · rw [hn] at hin; exact (in_nil _ hin).elim
        rw [List.concat_eq_append] at hn
        rw [hn] at hc hi hin hend
        obtain ⟨c1, c2, c3, c4⟩ := canon_snoc.1 hc
        obtain ⟨j, e1, e2, e3⟩ := hend p (by simp)
        have hp : p.1 + p.2 = f + i := by
          obtain ⟨q, hq, q1, q2⟩ := hin
          rcases List.mem_append.1 hq with hq | hq
          · have := c2 q hq; omega
          · simp at hq; subst hq; omega
        rw [hn, ext_snoc]
        refine ⟨canon_snoc.2 ⟨c1, c2, c3, by simp only; omega⟩, fun x => ?_⟩
        have hx := hi x
        rw [in_app, in_cons] at hx
        rw [in_app, in_cons]
        simp only [in_nil, or_false] at hx ⊢
        constructor
        · intro h
          by_cases hxe : x = f + i
          · exact ⟨i, by omega, hxe, h0'⟩
          · obtain ⟨j, a1, a2⟩ := hx.1 (h.imp id fun h => ⟨h.1, by omega⟩)
            exact ⟨j, by omega, a2⟩
        · rintro ⟨j, a1, a2, a3⟩
          by_cases hj : j = i
          · subst hj
            exact .inr ⟨by omega, by omega⟩
          · exact (hx.2 ⟨j, by omega, a2, a3⟩).imp id fun h => ⟨h.1, by omega⟩
      · rw [if_neg h1]
        refine ⟨canon_snoc.2 ⟨hc, fun q hq => ?_, by simp only; omega, Nat.le_refl _⟩, fun x => ?_⟩
        · obtain ⟨j, a1, a2, a3⟩ := hend q hq
          simp only
          rcases Nat.lt_or_ge (j + 1) i with h | h
          · omega
          · have hj : j = i - 1 := by omega
            rw [hj] at a3
            exact (h1 ⟨by omega, a3⟩).elim
        · rw [in_app, in_cons]
          simp only [in_nil, or_false]
          constructor
          · rintro (h | ⟨a1, a2⟩)
            · obtain ⟨j, b1, b2⟩ := (hi x).1 h
              exact ⟨j, by omega, b2⟩
            · exact ⟨i, by omega, by omega, h0'⟩
          · rintro ⟨j, a1, a2, a3⟩
            rcases Nat.lt_or_ge j i with h | h
            · exact .inl ((hi x).2 ⟨j, h, a2, a3⟩)
            · exact .inr ⟨by omega, by omega⟩
structure Rel (f : Nat) (T : List Bool) (R : List Rx) : Prop where
  canon : Canon f R
  on : ∀ x, In R x ↔ ∃ j, x = f + j ∧ T.getD j true = false
theorem getD_lt {T : List Bool} {j : Nat} (h : T.getD j true = false) : j < T.length := by
  rcases Nat.lt_or_ge j T.length with h' | h'
  · exact h'
  · rw [List.getD_eq_getElem?_getD, List.getElem?_eq_none h'] at h; cases h
theorem rel_runs {f : Nat} {T : List Bool} {R : List Rx} (h : Rel f T R) : rl f T T.length = R := by
  obtain ⟨h1, h2⟩ := rl_ok f T T.length
  refine canon_uniq h1 h.canon fun x => (h2 x).trans ((?_ : _ ↔ _).trans (h.on x).symm)
  exact ⟨fun ⟨j, _, a⟩ => ⟨j, a⟩, fun ⟨j, a1, a2⟩ => ⟨j, getD_lt a2, a1, a2⟩⟩
theorem Rel.top {f : Nat} {T : List Bool} {R : List Rx} (h : Rel f T R) {p : Rx} (hp : p ∈ R) : p.1 + p.2 ≤ f + T.length := by
  have h1 := h.canon.mem hp
  obtain ⟨j, h2, h3⟩ := (h.on (p.1 + p.2 - 1)).1 ⟨p, hp, by omega, by omega⟩
  have := getD_lt h3
  omega
def setT (T : List Bool) (a n : Nat) (v : Bool) : List Bool := T.mapIdx fun i b => if a ≤ i ∧ i - a < n then v else b
theorem setT_len (T : List Bool) (a n : Nat) (v : Bool) : (setT T a n v).length = T.length := by simp [setT]
theorem setT_at {T : List Bool} {a n : Nat} {v : Bool} {i : Nat} {b : Bool} (h : T[i]? = some b) : (setT T a n v)[i]? = some (if a ≤ i ∧ i - a < n then v else b) := by
  simp [setT, h]
theorem setT_getD {T : List Bool} {a n : Nat} {v : Bool} {j : Nat} (hn : a + n ≤ T.length) : (setT T a n v).getD j true = if a ≤ j ∧ j < a + n then v else T.getD j true := by
  rcases Nat.lt_or_ge j T.length with h | h
  · have h1 : T[j]? = some T[j] := List.getElem?_eq_getElem h
    rw [List.getD_eq_getElem?_getD, setT_at h1, List.getD_eq_getElem?_getD, h1]
    simp only [Option.getD_some]
    by_cases h2 : a ≤ j ∧ j - a < n
    · rw [if_pos h2, if_pos (by omega)]
    · rw [if_neg h2, if_neg (by omega)]
  · rw [List.getD_eq_getElem?_getD, List.getElem?_eq_none (by rw [setT_len]; omega), if_neg (by omega), List.getD_eq_getElem?_getD, List.getElem?_eq_none h]
theorem rel_cut {f : Nat} {T : List Bool} {R : List Rx} {i b k : Nat} {p : Rx} (h : Rel f T R) (hx : R[i]? = some p) (h1 : p.1 ≤ b) (h2 : b + k ≤ p.1 + p.2) (hk : 1 ≤ k) : Rel f (setT T (b - f) k true) (cutL R i b k) := by
  have hm := List.mem_of_getElem? hx
  have hf := (h.canon.mem hm).1
  have ht := h.top hm
  refine ⟨cut_canon hk h.canon hx h1 h2, fun x => (cut_in h.canon hx h1 h2 x).trans ?_⟩
  rw [h.on x]
  constructor
  · rintro ⟨⟨j, e1, e2⟩, e3⟩
    refine ⟨j, e1, ?_⟩
    rw [setT_getD (by omega), if_neg (by omega)]; exact e2
  · rintro ⟨j, e1, e2⟩
    rw [setT_getD (by omega)] at e2
    split at e2
    · cases e2
    · exact ⟨⟨j, e1, e2⟩, by omega⟩
theorem rel_give {f : Nat} {T : List Bool} {R : List Rx} {b k : Nat} (h : Rel f T R) (hf : f ≤ b) (hb : b + k ≤ f + T.length) (hk : 1 ≤ k) (hd : ∀ x, b ≤ x → x < b + k → ¬ In R x) : Rel f (setT T (b - f) k false) (giveL R b k) := by
  refine ⟨give_canon hk h.canon hf hd, fun x => (give_in R b k x).trans ?_⟩
  rw [h.on x]
  constructor
  · rintro (⟨j, e1, e2⟩ | ⟨e1, e2⟩)
    · refine ⟨j, e1, ?_⟩
      rw [setT_getD (by omega)]
      split
      · rfl
      · exact e2
    · exact ⟨x - f, by omega, by rw [setT_getD (by omega), if_pos (by omega)]⟩
  · rintro ⟨j, e1, e2⟩
    rw [setT_getD (by omega)] at e2
    split at e2
    · exact .inr (by omega)
    · exact .inl ⟨j, e1, e2⟩
def allT (T : List Bool) (a n : Nat) (v : Bool) : Bool := (List.range n).all fun i => T.getD (a + i) true == v
theorem allT_iff {T : List Bool} {a n : Nat} {v : Bool} : allT T a n v = true ↔ ∀ j, a ≤ j → j < a + n → T.getD j true = v := by
  unfold allT
  simp only [List.all_eq_true, List.mem_range, beq_iff_eq]
  exact ⟨fun h j h1 h2 => by have := h (j - a) (by omega); rwa [show a + (j - a) = j by omega] at this, fun h i hi => h _ (by omega) (by omega)⟩
theorem all_true {f : Nat} {T : List Bool} {R : List Rx} {b k : Nat} (h : Rel f T R) (hf : f ≤ b) : allT T (b - f) k true = true ↔ ∀ x, b ≤ x → x < b + k → ¬ In R x := by
  rw [allT_iff]
  constructor
  · intro ha x h1 h2 hx
    obtain ⟨j, e1, e2⟩ := (h.on x).1 hx
    rw [ha j (by omega) (by omega)] at e2; cases e2
  · intro ha j h1 h2
    cases hj : T.getD j true with
    | true => rfl
    | false => exact (ha (f + j) (by omega) (by omega) ((h.on _).2 ⟨j, rfl, hj⟩)).elim
theorem all_false {f : Nat} {T : List Bool} {R : List Rx} {b k : Nat} (h : Rel f T R) (hf : f ≤ b) : allT T (b - f) k false = true ↔ ∀ x, b ≤ x → x < b + k → In R x := by
  rw [allT_iff]
  constructor
  · intro ha x h1 h2
    exact (h.on x).2 ⟨x - f, by omega, ha _ (by omega) (by omega)⟩
  · intro ha j h1 h2
    obtain ⟨j', e1, e2⟩ := (h.on (f + j)).1 (ha _ (by omega) (by omega))
    have : j' = j := by omega
    subst this; exact e2
end Go.Proofs.YtmbfmkiagdhcoaaGreat.Ext
end
section
namespace Go.Proofs.YtmbfmkiagdhcoaaGreat.Ext
open Go Go.SL Go.Proofs Go.Proofs.YtmbfmkiagdhcoaaGreat.Sh Go.Proofs.YtmbfmkiagdhcoaaGreat.Oct Go.Proofs.YtmbfmkiagdhcoaaGreat.Disk Go.Proofs.YtmbfmkiagdhcoaaGreat.Slot
variable {B : World} {H : List Asrt} {K : Value → WT} {W : WT}
theorem u_bools : Tryz.prog.underlying 49 = some (.slice 4) := by kernel_rfl
theorem elt_bool : Elt Tryz.prog 4 1 1 [.bool false] := elt_of (zv := .bool false) (by kernel_rfl) rfl rfl
theorem buildR04 (f : Int) (w : World) : (Instr.build 135 #[(0, I f)]).run Tryz.prog w = .ok (.agg #[I f, nil]) w := by kernel_rfl
abbrev bls (v : Value) (T : List Bool) : Asrt := sls cL 4 1 v T
def rmap (a f : Nat) (T : List Bool) : Asrt := ex fun v : Cv => all [cel true a 135 [I f, v.1], bls v.1 T]
theorem E_rm {a f : Nat} {T : List Bool} (h : ∀ v [CellI v], E B (cel true a 135 [I f, v] :: bls v T :: H) W) : E B (rmap a f T :: H) W := E_ex fun x => E_all (@h x.1 ⟨x.2⟩)
theorem E_rmS {a f : Nat} {T : List Bool} {v : Value} [hc : CellI v] (h : E B (rmap a f T :: H) W) : E B (cel true a 135 [I f, v] :: bls v T :: H) W :=
  E_all' (G := [cel true a 135 [I f, v], bls v T]) (E_ex' (f := fun v : Cv => all [cel true a 135 [I f, v.1], bls v.1 T]) ⟨v, hc.pf⟩ h)
attribute [local irreducible] S.pick S.ld S.ldN S.st S.box S.nc S.fad S.ixS S.ixA S.chr S.prt S.ext S.bin S.sh S.sbin S.beq S.neg1 S.com1 S.not1 S.cvt S.str1 S.lenS S.len S.cap S.lenM S.mx S.mn S.mkM S.cond S.gd S.fa S.dr S.rck S.join S.loop S.cvv S.eqv S.slc S.slcS S.b2s S.lk V U CF Gives E cel mpb osl ros dct dit itr lpo dfo
theorem rmnew {f t : Nat} (hf : f ≤ t) (ht : t ≤ 4096) (h : ∀ a, E B (rmap a f (List.replicate (t - f) false) :: H) (K (.tuple #[ptr a, I 0]))) : E B H (CF Tryz.prog 29 [I f, I t] K) := by
  refine E_mono (W := s29 _ _ K) ?_ fun _ => c29
  unfold s29
  refine E_join1 (n := 3) [I f, I t, .bool false] H (fun q hq => ?_) ?_
  · have h1 : ¬ (f : Int) < 0 := by omega
    have h2 : ¬ (t : Int) < (f : Int) := by omega
    have h3 : ¬ (4096 : Int) < (t : Int) := by omega
    (repeat first | refine gS ?_ | refine gA fun _ => ?_ | refine gX fun _ _ => ?_ | refine gT ?_ | refine gF ?_ | refine gI ?_)
    rw [decide_eq_false h3]
    exact hq
  · refine E_fa fun _ => ?_
    refine E_ff ?_
    refine Dig.E_Vr (buildR04 _) ?_
    refine gA fun a => ?_
    have h' := h a
    refine sls_nil cL 1 (T := 4) ?_
    refine E_loop (n := 3) (σ := Nat × Cv) (fun s => s.1 ≤ t - f) (fun s => [I t, ptr a, I ((f + s.1 : Nat) : Int)]) (fun s => bls s.2.1 (List.replicate s.1 false) :: cel true a 135 [I f, s.2.1] :: H) (fun s => t - f - s.1) (0, ⟨nil, rfl⟩) (fun _ => rfl) rfl (Nat.zero_le _) (fun W hW => hW) ?_
    rintro ⟨j, v, hcv⟩ K0 hj hk
    simp only at hj hk ⊢
    have : CellI v := ⟨hcv⟩
    refine E_fa fun _ => ?_
    refine E_lss ?_
    refine E_if (fun hc => ?_) (fun hc => ?_)
    · refine E_nc ?_
      refine E_fad0 ?_
      refine E_ld ?_
      refine E_sapp1 (enc := cL) (xv := .bool false) false u_bools elt_bool rfl (by omega) (by simp; omega) (by simp; omega) fun v' i' => ?_
      rw [← List.replicate_succ']
      refine E_nc ?_
      refine E_fad0 ?_
      refine E_st ?_
      refine E_addI (by omega) (by omega) ?_
      exact sm (hk (j + 1, ⟨v', i'.pf⟩) (by simp only; omega) (by simp only; omega))
    · have : j = t - f := by omega
      subst this
      refine fd (a := cel true a 135 [I f, v]) ?_
      exact E_rmS h'
theorem rmset {a f x n : Nat} {T : List Bool} {b : Bool} (hT : T.length ≤ 5000) (hn : x + n ≤ 100000) (h : E B (rmap a f (setT T x n b) :: H) (K (.tuple #[]))) : E B (rmap a f T :: H) (CF Tryz.prog 149 [ptr a, I x, I n, .bool b] K) := by
  refine E_mono (W := s149 _ _ _ _ K) ?_ fun _ => c149
  unfold s149
  refine E_rm fun v _ => ?_
  refine E_sbsl0 cL u_bools elt_bool fun v0 i0 => ?_
  have hsl := setT_len T x n b
  refine E_loop (n := 6) (σ := Nat × Cv) (fun s => s.1 ≤ T.length) (fun s => [ptr a, I x, I n, .bool b, s.2.1, I s.1]) (fun s => bls s.2.1 ((setT T x n b).take s.1) :: cel true a 135 [I f, v] :: bls v T :: H) (fun s => T.length - s.1) (0, ⟨v0, i0.pf⟩) (fun _ => rfl) rfl (Nat.zero_le _) (fun W hW => hW) ?_
  rintro ⟨i, l, hcl⟩ K0 hi hk
  simp only at hi hk ⊢
  have : CellI l := ⟨hcl⟩
  refine E_fa fun _ => ?_
  refine E_nc ?_
  refine E_fad0 ?_
  refine E_ld ?_
  refine E_rslen (v := v) (l := T) ?_
  refine E_lss ?_
  refine E_if (fun hc => ?_) (fun hc => ?_)
  · have hx : T[i]? = some (T[i]'(by omega)) := List.getElem?_eq_getElem (by omega)
    generalize (T[i]'(by omega)) = c at hx
    have hs := setT_at (a := x) (n := n) (v := b) hx
    refine E_nc ?_
    refine E_fad0 ?_
    refine E_ld ?_
    refine E_rsix (v := v) (l := T) hx fun _ _ => ?_
    refine E_ptld ?_
    refine E_join1 (n := 7) [ptr a, I x, I n, .bool b, l, I i, .bool (if x ≤ i ∧ i - x < n then b else c)] (bls l ((setT T x n b).take i) :: cel true a 135 [I f, v] :: bls v T :: H) (fun q hq => ?_) ?_
    · refine E_join1 (n := 8) [ptr a, I x, I n, .bool b, l, I i, .bool c, .bool (decide (x ≤ i ∧ i - x < n))] (bls l ((setT T x n b).take i) :: cel true a 135 [I f, v] :: bls v T :: H) (fun r hr => ?_) ?_
      · by_cases h1 : (x : Int) ≤ (i : Int)
        · have e : decide (x ≤ i ∧ i - x < n) = decide ((i : Int) - (x : Int) < (n : Int)) := by rw [decide_eq_decide]; omega
          rw [e] at hr
          (repeat first | refine gS ?_ | refine gA fun _ => ?_ | refine gX fun _ _ => ?_ | refine gT ?_ | refine gF ?_ | refine gI ?_)
          exact hr
        · have e : decide (x ≤ i ∧ i - x < n) = false := by rw [decide_eq_false_iff_not]; omega
          rw [e] at hr
          (repeat first | refine gS ?_ | refine gA fun _ => ?_ | refine gX fun _ _ => ?_ | refine gT ?_ | refine gF ?_ | refine gI ?_)
          exact hr
      · refine E_fa fun _ => ?_
        refine E_if (fun hp => ?_) (fun hp => ?_)
        · rw [if_pos hp] at hq
          exact hq
        · rw [if_neg hp] at hq
          exact hq
    · refine E_fa fun _ => ?_
      have hlt : ((setT T x n b).take i).length = i := by rw [List.length_take]; omega
      refine E_sapp1 (enc := cL) (xv := .bool (if x ≤ i ∧ i - x < n then b else c)) (if x ≤ i ∧ i - x < n then b else c) u_bools elt_bool rfl (by omega) (by omega) (by omega) fun v' i' => ?_
      refine E_addI (by omega) (by omega) ?_
      have e : (setT T x n b).take i ++ [if x ≤ i ∧ i - x < n then b else c] = (setT T x n b).take (i + 1) := by rw [List.take_add_one, hs]; rfl
      rw [e]
      exact sm (hk (i + 1, ⟨v', i'.pf⟩) (by simp only; omega) (by simp only; omega))
  · have hie : i = T.length := by omega
    subst hie
    rw [List.take_of_length_le (by omega)]
    refine E_nc ?_
    refine E_fad0 ?_
    refine E_st ?_
    refine fd (a := bls l (setT T x n b)) ?_
    refine fd (a := cel true a 135 [I f, l]) ?_
    refine E_rmS ?_
    exact sm h
theorem rmall {a f x n : Nat} {T : List Bool} {b : Bool} (hT : T.length ≤ 5000) (hn : x + n ≤ T.length) (h : E B (rmap a f T :: H) (K (.bool (allT T x n b)))) : E B (rmap a f T :: H) (CF Tryz.prog 151 [ptr a, I x, I n, .bool b] K) := by
  refine E_mono (W := s151 _ _ _ _ K) ?_ fun _ => c151
  unfold s151
  refine E_rm fun v _ => ?_
  refine E_loop (n := 5) (σ := Nat) (fun i => i ≤ n ∧ ∀ j, x ≤ j → j < x + i → T.getD j true = b) (fun i => [ptr a, I x, I n, .bool b, I ((x + i : Nat) : Int)]) (fun _ => cel true a 135 [I f, v] :: bls v T :: H) (fun i => n - i) 0 (fun _ => rfl) rfl ⟨Nat.zero_le _, fun j h1 h2 => by omega⟩ (fun W hW => hW) ?_
  rintro i K0 ⟨hi, hp⟩ hk
  refine E_fa fun _ => ?_
  refine E_addI (by omega) (by omega) ?_
  refine E_lss ?_
  refine E_if (fun hc => ?_) (fun hc => ?_)
  · have hx : T[x + i]? = some (T.getD (x + i) true) := by rw [List.getD_eq_getElem?_getD, List.getElem?_eq_getElem (by omega)]; rfl
    refine E_nc ?_
    refine E_fad0 ?_
    refine E_ld ?_
    refine E_rsix (v := v) (l := T) hx fun _ _ => ?_
    refine E_ptld ?_
    refine gY ?_
    cases hb : (T.getD (x + i) true == b) with
    | false =>
      refine E_tt ?_
      have e : allT T x n b = false := by
        rw [Bool.eq_false_iff, Ne, allT_iff]
        intro ha
        rw [ha (x + i) (by omega) (by omega)] at hb
        simp at hb
      rw [e] at h
      exact E_rmS h
    | true =>
      refine E_ff ?_
      refine E_addI (by omega) (by omega) ?_
      refine hk (i + 1) ⟨by omega, fun j h1 h2 => ?_⟩ (by omega)
      rcases Nat.lt_or_ge j (x + i) with h' | h'
      · exact hp j h1 h'
      · have : j = x + i := by omega
        subst this
        exact eq_of_beq hb
  · have hie : i = n := by omega
    subst hie
    have e : allT T x i b = true := allT_iff.2 hp
    rw [e] at h
    exact E_rmS h
end Go.Proofs.YtmbfmkiagdhcoaaGreat.Ext
end
section
namespace Go.Proofs.YtmbfmkiagdhcoaaGreat.Ext
open Go Go.SL Go.Proofs Go.Proofs.YtmbfmkiagdhcoaaGreat.Sh Go.Proofs.YtmbfmkiagdhcoaaGreat.Oct Go.Proofs.YtmbfmkiagdhcoaaGreat.Disk Go.Proofs.YtmbfmkiagdhcoaaGreat.Slot
variable {B : World} {H : List Asrt} {K : Value → WT} {W : WT}
theorem ext_len (R : List Rx) : (extL R).length = R.length := by simp [extL]
theorem rl_suc (f : Nat) (T : List Bool) (i : Nat) : rl f T (i + 1) = if T.getD i true = true then rl f T i else if 0 < i ∧ T.getD (i - 1) true = false then extL (rl f T i) else rl f T i ++ [(f + i, 1)] := rfl
theorem rl_len (f : Nat) (T : List Bool) (i : Nat) : (rl f T i).length ≤ i := by
  induction i with
  | zero => exact Nat.le_refl _
  | succ i ih =>
    rw [rl_suc]
    split
    · omega
    · split
      · rw [ext_len]; omega
      · rw [List.length_append, List.length_singleton]; omega
theorem rl_pos {f : Nat} {T : List Bool} {i : Nat} (h0 : 0 < i) (h : T.getD (i - 1) true = false) : 1 ≤ (rl f T i).length := by
  obtain ⟨_, h2⟩ := rl_ok f T i
  obtain ⟨p, hp, _⟩ := (h2 (f + (i - 1))).2 ⟨i - 1, by omega, rfl, h⟩
  exact List.length_pos_of_mem hp
theorem getD_true {T : List Bool} {i : Nat} (h : i < T.length) : T[i]? = some (T.getD i true) := by rw [List.getD_eq_getElem?_getD, List.getElem?_eq_getElem h]; rfl
attribute [local irreducible] S.pick S.ld S.ldN S.st S.box S.nc S.fad S.ixS S.ixA S.chr S.prt S.ext S.bin S.sh S.sbin S.beq S.neg1 S.com1 S.not1 S.cvt S.str1 S.lenS S.len S.cap S.lenM S.mx S.mn S.mkM S.cond S.gd S.fa S.dr S.rck S.join S.loop S.cvv S.eqv S.slc S.slcS S.b2s S.lk V U CF Gives E cel mpb osl ros dct dit itr lpo dfo
theorem rmruns {a f : Nat} {T : List Bool} (hT : T.length ≤ 5000) (hf : f ≤ 5000) (h : ∀ v [CellI v], E B (rns v (rl f T T.length) :: rmap a f T :: H) (K v)) : E B (rmap a f T :: H) (CF Tryz.prog 148 [ptr a] K) := by
  refine E_mono (W := s148 _ K) ?_ fun _ => c148
  unfold s148
  refine E_rm fun v _ => ?_
  refine E_sbsl0 cR u_runs elt_run fun v0 i0 => ?_
  refine E_loop (n := 3) (σ := Nat × Cv) (fun s => s.1 ≤ T.length) (fun s => [ptr a, s.2.1, I s.1]) (fun s => rns s.2.1 (rl f T s.1) :: cel true a 135 [I f, v] :: bls v T :: H) (fun s => T.length - s.1) (0, ⟨v0, i0.pf⟩) (fun _ => rfl) rfl (Nat.zero_le _) (fun W hW => hW) ?_
  rintro ⟨i, o, hco⟩ K0 hi hk
  simp only at hi hk ⊢
  have : CellI o := ⟨hco⟩
  refine E_fa fun _ => ?_
  refine E_nc ?_
  refine E_fad0 ?_
  refine E_ld ?_
  refine E_rslen (v := v) (l := T) ?_
  refine E_lss ?_
  refine E_if (fun hc => ?_) (fun hc => ?_)
  · have hx := getD_true (T := T) (i := i) (by omega)
    have hlen := rl_len f T i
    refine E_joinC (n := 3) (σ := Cv) (fun _ => True) (fun x => [ptr a, x.1, I i]) (fun x => rns x.1 (rl f T (i + 1)) :: cel true a 135 [I f, v] :: bls v T :: H) (fun q hq => ?_) (fun x _ => ?_)
    · rw [rl_suc] at hq
      refine E_nc ?_
      refine E_fad0 ?_
      refine E_ld ?_
      refine E_rsix (v := v) (l := T) hx fun _ _ => ?_
      refine E_ptld ?_
      refine E_ifb (fun hb => ?_) (fun hb => ?_)
      · rw [if_pos hb] at hq
        exact hq ⟨o, hco⟩ trivial
      · rw [if_neg (by rw [hb]; decide)] at hq
        refine E_join1 (n := 4) [ptr a, o, I i, .bool (decide (0 < i ∧ T.getD (i - 1) true = false))] (rns o (rl f T i) :: cel true a 135 [I f, v] :: bls v T :: H) (fun r hr => ?_) ?_
        · by_cases h0 : (0 : Int) < (i : Int)
          · have hx1 := getD_true (T := T) (i := i - 1) (by omega)
            have e : decide (0 < i ∧ T.getD (i - 1) true = false) = !(T.getD (i - 1) true) := by
              have : 0 < i := by omega
              cases T.getD (i - 1) true <;> simp [this]
            rw [e] at hr
            generalize T.getD (i - 1) true = c at hx1 hr
            refine E_gtr ?_
            rw [decide_eq_true h0]
            refine E_gtf ?_
            refine E_gtf ?_
            refine E_nc ?_
            refine E_gtf ?_
            refine E_fad0 ?_
            refine E_gtf ?_
            refine E_ld ?_
            refine E_gtf ?_
            refine E_gtf ?_
            refine E_subI (by omega) (by omega) ?_
            rw [show (i : Int) - 1 = ((i - 1 : Nat) : Int) by omega]
            refine E_gtf ?_
            refine E_rsix (v := v) (l := T) hx1 fun _ _ => ?_
            refine E_gtf ?_
            refine E_ptld ?_
            refine E_gtf ?_
            refine E_notb ?_
            refine E_ptt ?_
            exact hr
          · have e : decide (0 < i ∧ T.getD (i - 1) true = false) = false := by rw [decide_eq_false_iff_not]; omega
            rw [e] at hr
            (repeat first | refine gS ?_ | refine gA fun _ => ?_ | refine gX fun _ _ => ?_ | refine gT ?_ | refine gF ?_ | refine gI ?_)
            exact hr
        · refine E_fa fun _ => ?_
          refine E_if (fun hp => ?_) (fun hp => ?_)
          · rw [if_pos hp] at hq
            have hpos := rl_pos (f := f) hp.1 hp.2
            have hl : (rl f T i)[(rl f T i).length - 1]? = some ((rl f T i).getD ((rl f T i).length - 1) (0, 0)) := by rw [List.getD_eq_getElem?_getD, List.getElem?_eq_getElem (by omega)]; rfl
            have hin := (rl_ok f T i).1.mem (List.mem_of_getElem? hl)
            have hN : ((rl f T i).getD ((rl f T i).length - 1) (0, 0)).2 ≤ 5000 := by
              obtain ⟨j, h1, h2, _⟩ := ((rl_ok f T i).2 (((rl f T i).getD ((rl f T i).length - 1) (0, 0)).1 + ((rl f T i).getD ((rl f T i).length - 1) (0, 0)).2 - 1)).1 ⟨_, List.mem_of_getElem? hl, by omega, by omega⟩
              omega
            unfold extL at hq
            generalize hR : rl f T i = R at hq hpos hlen hl hin hN ⊢
            generalize R.getD (R.length - 1) (0, 0) = p at hq hl hin hN
            refine E_rslen (v := o) (l := R) ?_
            refine E_subI (by omega) (by omega) ?_
            rw [show (R.length : Int) - 1 = ((R.length - 1 : Nat) : Int) by omega]
            refine E_rsix (v := o) (l := R) hl fun _ _ => ?_
            refine E_ptldA ?_
            refine gA fun rb => ?_
            refine gS ?_
            refine E_fad0 ?_
            refine E_ld ?_
            refine E_addI (by omega) (by omega) ?_
            refine E_fad0 ?_
            refine E_st ?_
            refine E_rslen (v := o) (l := R) ?_
            refine E_subI (by omega) (by omega) ?_
            rw [show (R.length : Int) - 1 = ((R.length - 1 : Nat) : Int) by omega, show (p.2 : Int) + 1 = ((p.2 + 1 : Nat) : Int) by omega]
            refine gS ?_
            refine fd (a := rns o R) ?_
            refine E_sset (enc := cR) (p.1, p.2 + 1) (by omega) rfl ?_
            exact sm (hq ⟨o, hco⟩ trivial)
          · rw [if_neg hp] at hq
            refine E_nc ?_
            refine E_fad0 ?_
            refine E_ld ?_
            refine E_addI (by omega) (by omega) ?_
            rw [show (f : Int) + (i : Int) = ((f + i : Nat) : Int) by omega]
            refine Dig.E_Vr (buildRun _ _) ?_
            refine E_sapp1 (enc := cR) (xv := .agg #[I ((f + i : Nat) : Int), I 1]) (f + i, 1) u_runs elt_run rfl (by omega) (by omega) (by omega) fun v' i' => ?_
            exact sm (hq ⟨v', i'.pf⟩ trivial)
    · obtain ⟨x, hx⟩ := x
      refine E_fa fun _ => ?_
      refine E_addI (by omega) (by omega) ?_
      exact hk (i + 1, ⟨x, hx⟩) (by simp only; omega) (by simp only; omega)
  · have hie : i = T.length := by omega
    subst hie
    refine fd (a := bls v T) ?_
    refine fd (a := cel true a 135 [I f, v]) ?_
    refine E_rmS ?_
    exact sm (h o)
end Go.Proofs.YtmbfmkiagdhcoaaGreat.Ext
end
section
namespace Go.Proofs.YtmbfmkiagdhcoaaGreat.Ext
open Go Go.SL Go.Proofs Go.Proofs.YtmbfmkiagdhcoaaGreat.Sh Go.Proofs.YtmbfmkiagdhcoaaGreat.Oct Go.Proofs.YtmbfmkiagdhcoaaGreat.Disk Go.Proofs.YtmbfmkiagdhcoaaGreat.Slot
variable {B : World} {H : List Asrt} {K : Value → WT} {W : WT}
def takeT (f : Nat) (T : List Bool) (R : List Rn) (n : Int) : List Bool := if n < 1 then T else match takeO R n with
  | some i => setT T ((R.getD i (0, 0)).1 - f) n.toNat true
  | none => T
def claimT (f : Nat) (T : List Bool) (x n : Int) : Int × List Bool := if wI f (f + T.length) x n = false then (2, T) else if allT T (x.toNat - f) n.toNat false = true then (0, setT T (x.toNat - f) n.toNat true) else (10, T)
def giveT (f : Nat) (T : List Bool) (x n : Int) : Int × List Bool := if wI f (f + T.length) x n = false then (2, T) else if allT T (x.toNat - f) n.toNat true = true then (0, setT T (x.toNat - f) n.toNat false) else (9, T)
theorem rel_ok {f : Nat} {T : List Bool} {R : List Rn} (h : Rel f T R) (hl : f + T.length ≤ 4096) : XOk f (f + T.length) R := ⟨h.canon, fun _ hp => h.top hp, hl⟩
theorem rel_take {f : Nat} {T : List Bool} {R : List Rn} (h : Rel f T R) (n : Int) : Rel f (takeT f T R n) (takeV R n).2.2 ∧ (takeT f T R n).length = T.length := by
  unfold takeT takeV
  by_cases h0 : n < 1
  · rw [if_pos h0, if_pos h0]; exact ⟨h, rfl⟩
  · rw [if_neg h0, if_neg h0]
    cases ho : takeO R n with
    | none => exact ⟨h, rfl⟩
    | some i =>
      obtain ⟨hi, hb, _⟩ := List.findIdx?_eq_some_iff_getElem.1 ho
      have hx : R[i]? = some R[i] := List.getElem?_eq_getElem hi
      have eg : R.getD i (0, 0) = R[i] := by rw [List.getD_eq_getElem?_getD, hx]; rfl
      have hn : n ≤ (R[i].2 : Int) := by simpa using hb
      simp only [eg]
      exact ⟨rel_cut h hx (Nat.le_refl _) (by omega) (by omega), setT_len _ _ _ _⟩
theorem rel_claim {f : Nat} {T : List Bool} {R : List Rn} (h : Rel f T R) (x n : Int) : Rel f (claimT f T x n).2 (claimV f (f + T.length) R x n).2 ∧ (claimT f T x n).2.length = T.length ∧ (claimT f T x n).1 = (claimV f (f + T.length) R x n).1 := by
  unfold claimT claimV
  by_cases h0 : wI f (f + T.length) x n = false
  · rw [if_pos h0, if_pos h0]; exact ⟨h, rfl, rfl⟩
  · obtain ⟨w1, w2, w3, w4⟩ := wI_of (by simpa using h0 : wI f (f + T.length) x n = true)
    rw [if_neg h0, if_neg h0]
    obtain ⟨b, rfl⟩ : ∃ b : Nat, x = (b : Int) := ⟨x.toNat, by omega⟩
    obtain ⟨k, rfl⟩ : ∃ k : Nat, n = (k : Int) := ⟨n.toNat, by omega⟩
    rw [Int.toNat_natCast, Int.toNat_natCast]
    cases ho : claimO R (b : Int) (k : Int) with
    | some i =>
      obtain ⟨hi, hb, _⟩ := List.findIdx?_eq_some_iff_getElem.1 ho
      have hx : R[i]? = some R[i] := List.getElem?_eq_getElem hi
      simp only [Bool.and_eq_true, decide_eq_true_eq] at hb
      have ha : allT T (b - f) k false = true := (all_false h (by omega)).2 fun y h1 h2 => ⟨R[i], List.getElem_mem hi, by omega, by omega⟩
      rw [if_pos ha]
      exact ⟨rel_cut h hx (by omega) (by omega) (by omega), setT_len _ _ _ _, rfl⟩
    | none =>
      have ha : ¬ allT T (b - f) k false = true := fun ha => by
        obtain ⟨p, hp, h1, h2⟩ := h.canon.one (b := b) (k := k) (by omega) ((all_false h (by omega)).1 ha)
        have := List.findIdx?_eq_none_iff.1 ho p hp
        simp only [Bool.and_eq_false_iff, decide_eq_false_iff_not] at this
        omega
      rw [if_neg ha]
      exact ⟨h, rfl, rfl⟩
theorem rel_giveV {f : Nat} {T : List Bool} {R : List Rn} (h : Rel f T R) (x n : Int) : Rel f (giveT f T x n).2 (giveV f (f + T.length) R x n).2 ∧ (giveT f T x n).2.length = T.length ∧ (giveT f T x n).1 = (giveV f (f + T.length) R x n).1 := by
  unfold giveT giveV
  by_cases h0 : wI f (f + T.length) x n = false
  · rw [if_pos h0, if_pos h0]; exact ⟨h, rfl, rfl⟩
  · obtain ⟨w1, w2, w3, w4⟩ := wI_of (by simpa using h0 : wI f (f + T.length) x n = true)
    rw [if_neg h0, if_neg h0]
    obtain ⟨b, rfl⟩ : ∃ b : Nat, x = (b : Int) := ⟨x.toNat, by omega⟩
    obtain ⟨k, rfl⟩ : ∃ k : Nat, n = (k : Int) := ⟨n.toNat, by omega⟩
    rw [Int.toNat_natCast, Int.toNat_natCast]
    unfold hitB
    cases ho : R.findIdx? (fun p => decide ((p.1 : Int) < (b : Int) + (k : Int)) && decide ((b : Int) < (p.1 : Int) + p.2)) with
    | some i =>
      obtain ⟨hi, hb, _⟩ := List.findIdx?_eq_some_iff_getElem.1 ho
      simp only [Bool.and_eq_true, decide_eq_true_eq] at hb
      have hm := h.canon.mem (List.getElem_mem hi)
      have ha : ¬ allT T (b - f) k true = true := fun ha => by
        have := (all_true h (by omega)).1 ha (max b R[i].1) (by omega) (by omega)
        exact this ⟨R[i], List.getElem_mem hi, by omega, by omega⟩
      rw [if_neg ha, if_pos (show (some i).isSome = true from rfl)]
      exact ⟨h, rfl, rfl⟩
    | none =>
      have hd : ∀ y, b ≤ y → y < b + k → ¬ In R y := fun y h1 h2 ⟨p, hp, h3, h4⟩ => by
        have := List.findIdx?_eq_none_iff.1 ho p hp
        simp only [Bool.and_eq_false_iff, decide_eq_false_iff_not] at this
        omega
      have ha : allT T (b - f) k true = true := (all_true h (by omega)).2 hd
      rw [if_pos ha, if_neg (by decide)]
      exact ⟨rel_give h (by omega) (by omega) (by omega) hd, setT_len _ _ _ _, rfl⟩
attribute [local irreducible] S.pick S.ld S.ldN S.st S.box S.nc S.fad S.ixS S.ixA S.chr S.prt S.ext S.bin S.sh S.sbin S.beq S.neg1 S.com1 S.not1 S.cvt S.str1 S.lenS S.len S.cap S.lenM S.mx S.mn S.mkM S.cond S.gd S.fa S.dr S.rck S.join S.loop S.cvv S.eqv S.slc S.slcS S.b2s S.lk V U CF Gives E cel mpb osl ros dct dit itr lpo dfo
theorem rmine {a f : Nat} {T : List Bool} {x n : Int} (hx : x ≤ 9223372036854775807) (hT : f + T.length ≤ 4096) (h : ∀ y : Int, (wI f (f + T.length) x n = true → y = x - f) → E B (rmap a f T :: H) (K (.tuple #[I y, .bool (wI f (f + T.length) x n)]))) : E B (rmap a f T :: H) (CF Tryz.prog 150 [ptr a, pI x n] K) := by
  refine E_mono (W := s150 _ _ K) ?_ fun _ => c150
  unfold s150
  refine gA fun nb => ?_
  refine fd (a := rmap a f T) ?_
  refine E_rm fun v _ => ?_
  refine E_join1 (n := 3) [ptr a, ptr nb, .bool (decide (n < 1 ∨ x < (f : Int) ∨ (T.length : Int) ≤ x - f))] (cel true a 135 [I f, v] :: bls v T :: cel true nb 32 [I x, I n] :: H) (fun q hq => ?_) ?_
  · by_cases h1 : n < 1
    · have e : decide (n < 1 ∨ x < (f : Int) ∨ (T.length : Int) ≤ x - f) = true := decide_eq_true (.inl h1)
      rw [e] at hq
      (repeat first | refine gS ?_ | refine gA fun _ => ?_ | refine gX fun _ _ => ?_ | refine gT ?_ | refine gF ?_ | refine gI ?_)
      exact hq
    · by_cases h2 : x < (f : Int)
      · have e : decide (n < 1 ∨ x < (f : Int) ∨ (T.length : Int) ≤ x - f) = true := decide_eq_true (.inr (.inl h2))
        rw [e] at hq
        (repeat first | refine gS ?_ | refine gA fun _ => ?_ | refine gX fun _ _ => ?_ | refine gT ?_ | refine gF ?_ | refine gI ?_)
        exact hq
      · have e : decide (n < 1 ∨ x < (f : Int) ∨ (T.length : Int) ≤ x - f) = decide ((T.length : Int) ≤ x - f) := by rw [decide_eq_decide]; omega
        rw [e] at hq
        (repeat first | refine gS ?_ | refine gA fun _ => ?_ | refine gX fun _ _ => ?_ | refine gT ?_ | refine gF ?_ | refine gI ?_)
        exact hq
  · refine E_fa fun _ => ?_
    refine E_if (fun hc => ?_) (fun hc => ?_)
    · have hw : wI f (f + T.length) x n = false := by unfold wI; rw [decide_eq_false_iff_not]; omega
      have h' := h 0 (fun h => by rw [hw] at h; cases h)
      rw [hw] at h'
      refine E_rmS ?_
      exact sm h'
    · have h' := h (x - f) (fun _ => rfl)
      have e : wI f (f + T.length) x n = decide (n ≤ (T.length : Int) - (x - f)) := by unfold wI; rw [decide_eq_decide]; omega
      rw [e] at h'
      (repeat first | refine gS ?_ | refine gA fun _ => ?_ | refine gX fun _ _ => ?_ | refine gT ?_ | refine gF ?_ | refine gI ?_)
      refine fd (a := bls v T) ?_
      refine fd (a := cel true a 135 [I f, v]) ?_
      refine E_rmS ?_
      exact sm h'
theorem rclaim {a f : Nat} {T : List Bool} {x n : Int} (hx : x ≤ 9223372036854775807) (hT : f + T.length ≤ 4096) (h : E B (rmap a f (claimT f T x n).2 :: H) (K (I (claimT f T x n).1))) : E B (rmap a f T :: H) (CF Tryz.prog 122 [ptr a, pI x n] K) := by
  refine E_mono (W := s122 _ _ K) ?_ fun _ => c122
  unfold s122
  unfold claimT at h
  refine gA fun nb => ?_
  refine gS ?_
  refine fd (a := rmap a f T) ?_
  refine rmine (x := x) (n := n) hx hT fun y hy => ?_
  refine E_ext ?_
  refine E_ext ?_
  refine E_notb ?_
  cases hw : wI f (f + T.length) x n with
  | false =>
    rw [if_pos hw] at h
    refine E_tt ?_
    exact sm h
  | true =>
    rw [if_neg (by rw [hw]; decide)] at h
    obtain ⟨w1, w2, w3, w4⟩ := wI_of hw
    refine E_ff ?_
    refine E_fad0 ?_
    refine E_ld ?_
    have ey : y = ((x.toNat - f : Nat) : Int) := by have := hy hw; omega
    have en : n = ((n.toNat : Nat) : Int) := by omega
    have hvn : I n = I ((n.toNat : Nat) : Int) := by rw [← en]
    rw [ey, hvn]
    refine rmall (x := x.toNat - f) (n := n.toNat) (b := false) (by omega) (by omega) ?_
    refine E_notb ?_
    cases ha : allT T (x.toNat - f) n.toNat false with
    | false =>
      rw [if_neg (by rw [ha]; decide)] at h
      refine E_tt ?_
      exact sm h
    | true =>
      rw [if_pos ha] at h
      refine E_ff ?_
      refine E_fad0 ?_
      refine E_ld ?_
      refine rmset (x := x.toNat - f) (n := n.toNat) (b := true) (by omega) (by omega) ?_
      exact sm h
theorem rgive {a f : Nat} {T : List Bool} {x n : Int} (hx : x ≤ 9223372036854775807) (hT : f + T.length ≤ 4096) (h : E B (rmap a f (giveT f T x n).2 :: H) (K (I (giveT f T x n).1))) : E B (rmap a f T :: H) (CF Tryz.prog 120 [ptr a, pI x n] K) := by
  refine E_mono (W := s120 _ _ K) ?_ fun _ => c120
  unfold s120
  unfold giveT at h
  refine gA fun nb => ?_
  refine gS ?_
  refine fd (a := rmap a f T) ?_
  refine rmine (x := x) (n := n) hx hT fun y hy => ?_
  refine E_ext ?_
  refine E_ext ?_
  refine E_notb ?_
  cases hw : wI f (f + T.length) x n with
  | false =>
    rw [if_pos hw] at h
    refine E_tt ?_
    exact sm h
  | true =>
    rw [if_neg (by rw [hw]; decide)] at h
    obtain ⟨w1, w2, w3, w4⟩ := wI_of hw
    refine E_ff ?_
    refine E_fad0 ?_
    refine E_ld ?_
    have ey : y = ((x.toNat - f : Nat) : Int) := by have := hy hw; omega
    have en : n = ((n.toNat : Nat) : Int) := by omega
    have hvn : I n = I ((n.toNat : Nat) : Int) := by rw [← en]
    rw [ey, hvn]
    refine rmall (x := x.toNat - f) (n := n.toNat) (b := true) (by omega) (by omega) ?_
    refine E_notb ?_
    cases ha : allT T (x.toNat - f) n.toNat true with
    | false =>
      rw [if_neg (by rw [ha]; decide)] at h
      refine E_tt ?_
      exact sm h
    | true =>
      rw [if_pos ha] at h
      refine E_ff ?_
      refine E_fad0 ?_
      refine E_ld ?_
      refine rmset (x := x.toNat - f) (n := n.toNat) (b := false) (by omega) (by omega) ?_
      exact sm h
end Go.Proofs.YtmbfmkiagdhcoaaGreat.Ext
end
section
namespace Go.Proofs.YtmbfmkiagdhcoaaGreat.Ext
open Go Go.SL Go.Proofs Go.Proofs.YtmbfmkiagdhcoaaGreat.Sh Go.Proofs.YtmbfmkiagdhcoaaGreat.Oct Go.Proofs.YtmbfmkiagdhcoaaGreat.Disk Go.Proofs.YtmbfmkiagdhcoaaGreat.Slot
variable {B : World} {H : List Asrt} {K : Value → WT} {W : WT}
attribute [local irreducible] S.pick S.ld S.ldN S.st S.box S.nc S.fad S.ixS S.ixA S.chr S.prt S.ext S.bin S.sh S.sbin S.beq S.neg1 S.com1 S.not1 S.cvt S.str1 S.lenS S.len S.cap S.lenM S.mx S.mn S.mkM S.cond S.gd S.fa S.dr S.rck S.join S.loop S.cvv S.eqv S.slc S.slcS S.b2s S.lk V U CF Gives E cel mpb osl ros dct dit itr lpo dfo
theorem rtake {a f : Nat} {T : List Bool} {R : List Rn} {n : Int} (hR : Rel f T R) (hT : f + T.length ≤ 4096) (h : E B (rmap a f (takeT f T R n) :: H) (K (.tuple #[I (takeV R n).1, I (takeV R n).2.1]))) : E B (rmap a f T :: H) (CF Tryz.prog 119 [ptr a, I n] K) := by
  have hx := rel_ok hR hT
  have hl := hx.len
  refine E_mono (W := s119 _ _ K) ?_ fun _ => c119
  unfold s119
  unfold takeV takeT at h
  refine E_lss ?_
  refine E_if (fun hc => ?_) (fun hc => ?_)
  · rw [if_pos hc, if_pos hc] at h
    exact h
  rw [if_neg hc, if_neg hc] at h
  refine rmruns (by omega) (by omega) fun v iv => ?_
  rw [rel_runs hR]
  refine E_loop (n := 4) (σ := Nat) (fun i => i ≤ R.length ∧ ∀ j (hj : j < R.length), j < i → ¬ n ≤ (R[j].2 : Int)) (fun i => [ptr a, I n, v, I i]) (fun _ => rns v R :: rmap a f T :: H) (fun i => R.length - i) 0 (fun _ => rfl) rfl ⟨Nat.zero_le _, fun j _ hj => by omega⟩ (fun W hW => hW) ?_
  rintro i K0 ⟨hi, hp⟩ hk
  refine E_fa fun _ => ?_
  refine E_rslen (v := v) (l := R) ?_
  refine E_lss ?_
  refine E_if (fun hc => ?_) (fun hc => ?_)
  · have hlt : i < R.length := by omega
    have hxi : R[i]? = some R[i] := List.getElem?_eq_getElem hlt
    have hm := hx.canon.mem (List.getElem_mem hlt)
    have htp := hx.top _ (List.getElem_mem hlt)
    refine E_rsix (v := v) (l := R) hxi fun _ _ => ?_
    refine E_ptfad0 fun _ _ => ?_
    refine E_ptld ?_
    refine E_geq ?_
    refine E_if (fun hb => ?_) (fun hb => ?_)
    · have e : takeO R n = some i := List.findIdx?_eq_some_iff_getElem.2 ⟨hlt, by simpa using hb, fun j hj => by simpa using hp j (by omega) hj⟩
      have eg : R.getD i (0, 0) = R[i] := by rw [List.getD_eq_getElem?_getD, hxi]; rfl
      simp only [e, eg] at h
      generalize R[i] = p at hxi hm htp hb h
      refine E_dr ?_
      refine E_rsix (v := v) (l := R) hxi fun _ _ => ?_
      refine E_ptfad0 fun _ _ => ?_
      refine E_ptld ?_
      refine fd (a := rmap a f T) ?_
      refine E_rm fun u _ => ?_
      refine E_nc ?_
      refine E_fad0 ?_
      refine E_ld ?_
      refine E_subI (by omega) (by omega) ?_
      have ep : (p.1 : Int) - (f : Int) = ((p.1 - f : Nat) : Int) := by omega
      have hvn : I n = I ((n.toNat : Nat) : Int) := by rw [Int.toNat_of_nonneg (by omega)]
      rw [ep, hvn]
      refine E_rmS ?_
      refine rmset (x := p.1 - f) (n := n.toNat) (b := true) (by omega) (by omega) ?_
      refine fd (a := rns v R) ?_
      refine E_rsix (v := v) (l := R) hxi fun _ _ => ?_
      refine E_ptfad0 fun _ _ => ?_
      refine E_ptld ?_
      exact sm h
    · refine E_addI (by omega) (by omega) ?_
      refine hk (i + 1) ⟨by omega, fun j hj hji => ?_⟩ (by omega)
      rcases Nat.lt_or_ge j i with h' | h'
      · exact hp j hj h'
      · have : j = i := by omega
        subst this
        exact hb
  · have hie : i = R.length := by omega
    subst hie
    have e : takeO R n = none := List.findIdx?_eq_none_iff.2 fun q hq => by
      obtain ⟨j, hj, rfl⟩ := List.mem_iff_getElem.1 hq
      simpa using hp j hj hj
    simp only [e] at h
    exact sm h
end Go.Proofs.YtmbfmkiagdhcoaaGreat.Ext
end
section
namespace Go.Proofs.YtmbfmkiagdhcoaaGreat.Pk
open Go Go.SL Go.Proofs Go.Proofs.YtmbfmkiagdhcoaaGreat.Sh Go.Proofs.YtmbfmkiagdhcoaaGreat.Oct Go.Proofs.YtmbfmkiagdhcoaaGreat.Disk Go.Proofs.YtmbfmkiagdhcoaaGreat.Slot
variable {B : World} {H : List Asrt} {K : Value → WT} {W : WT}
abbrev nil : Value := .slice none 0 0
abbrev Cv := { v : Value // isCell v = true }
theorem be_top (n i : Nat) : be n (i + 1) = UInt8.ofNat (n / 256 ^ i) :: be n i := by
  induction i generalizing n with
  | zero => simp [be]
  | succ i ih =>
    have e : be n (i + 1 + 1) = be (n / 256) (i + 1) ++ [UInt8.ofNat n] := rfl
    have e2 : be n (i + 1) = be (n / 256) i ++ [UInt8.ofNat n] := rfl
    rw [e, ih, e2, Nat.div_div_eq_div_mul, Nat.pow_succ, Nat.mul_comm 256, List.cons_append]
theorem ofBe4 {l : List UInt8} {w : Nat} (h : w ≤ 4) : ofBe (l.take w) < 4294967296 := Nat.lt_of_lt_of_le (ofBe_lt _) (by
  have : 256 ^ (l.take w).length ≤ 256 ^ 4 := Nat.pow_le_pow_right (by decide) (by rw [List.length_take]; omega)
  omega)
theorem fillB1 (x : UInt8) : Instr.fill (fun i => some (i * 1, 1)) (rep 1 [.int .u8 0]).toArray [(0, .int .u8 (x.toNat : Int))] = some #[.int .u8 (x.toNat : Int)] := by kernel_rfl
attribute [local irreducible] S.pick S.ld S.ldN S.st S.box S.nc S.fad S.ixS S.ixA S.chr S.prt S.ext S.bin S.sh S.sbin S.beq S.neg1 S.com1 S.not1 S.cvt S.str1 S.lenS S.len S.cap S.lenM S.mx S.mn S.mkM S.cond S.gd S.fa S.dr S.rck S.join S.loop S.cvv S.eqv S.slc S.slcS S.b2s S.lk V U CF Gives E cel mpb osl ros dct dit itr lpo dfo
set_option maxRecDepth 100000
theorem takeAt {v : Value} {bs : List UInt8} {w p : Nat} [Rb B H v bs] (hw1 : 1 ≤ w) (hw2 : w ≤ 8) (hl : p + w ≤ bs.length) (hm : bs.length ≤ 9223372036854775807)
    (h : E B H (K (if 9007199254740991 < ofBe ((bs.drop p).take w) then .tuple #[I 0, I 0, I 6] else .tuple #[I (ofBe ((bs.drop p).take w)), I (p + w : Nat), I 0]))) : E B H (CF Tryz.prog 68 [v, I p, I w] K) := by
  refine E_mono (W := s68 _ _ _ K) ?_ fun _ => c68
  unfold s68
  have c1 : ¬ (w : Int) < 1 := by omega
  have c2 : ¬ (8 : Int) < (w : Int) := by omega
  have c0 : ¬ (p : Int) < 0 := by omega
  have c3 : ¬ (bs.length : Int) < (p : Int) := by omega
  have c4 : ¬ (bs.length : Int) - (p : Int) < (w : Int) := by omega
  refine E_join0 ?_
  (repeat first | refine gS ?_ | refine gA fun _ => ?_ | refine gX fun _ _ => ?_ | refine gT ?_ | refine gF ?_ | refine gI ?_)
  refine E_slcB (v := v) (l := p) (hh := p + w) (show (if 0 ≤ ((p : Int) + (w : Int)) then some ((p : Int) + (w : Int)).toNat else none) = _ by rw [if_pos (by omega)]; congr 1) (by simp [S.bound]) (by omega) hl fun u _ _ => ?_
  refine E_rslen (v := u) ?_
  have hul : ((bs.drop p).take (p + w - p)).length = w := by simp; omega
  rw [hul]
  refine E_loop (σ := Nat) (fun i => i ≤ w) (fun i => [I p, I w, .int .u64 (ofBe ((bs.drop p).take i)), u, I w, I i]) (fun _ => H) (fun i => w - i) 0 (fun _ => rfl) rfl (Nat.zero_le _) (fun W hW => hW) ?_
  intro i K0 hi hk
  refine E_fa fun _ => ?_
  (repeat first | refine gS ?_ | refine gA fun _ => ?_ | refine gX fun _ _ => ?_ | refine gT ?_ | refine gF ?_ | refine gI ?_)
  refine E_if (fun hc => ?_) (fun hc => ?_)
  · have hil : i < (bs.drop p).length := by rw [List.length_drop]; omega
    have hs : (bs.drop p)[i]? = some (bs.drop p)[i] := List.getElem?_eq_getElem hil
    generalize (bs.drop p)[i] = x at hs
    have hs2 : ((bs.drop p).take (p + w - p))[i]? = some x := by rw [List.getElem?_take_of_lt (by omega)]; exact hs
    have hlt := ofBe_lt ((bs.drop p).take i)
    have hlt2 : ofBe ((bs.drop p).take i) < 72057594037927936 := Nat.lt_of_lt_of_le hlt (by
      have : 256 ^ ((bs.drop p).take i).length ≤ 256 ^ 7 := Nat.pow_le_pow_right (by decide) (by rw [List.length_take]; omega)
      omega)
    refine E_rsix (v := u) hs2 fun _ _ => ?_
    refine E_ptld ?_
    refine E_push8 hlt2 ?_
    (repeat first | refine gS ?_ | refine gA fun _ => ?_ | refine gX fun _ _ => ?_ | refine gT ?_ | refine gF ?_ | refine gI ?_)
    have hk' := hk (i + 1) (by omega) (by omega)
    rw [Slot.take_snocB hs, ofBe_snoc] at hk'
    exact hk'
  · have : i = w := by omega
    subst this
    refine E_gtr ?_
    refine E_if (fun hg => ?_) (fun hg => ?_)
    · rw [if_pos (by omega)] at h; exact h
    · rw [if_neg (by omega)] at h
      refine E_cvtI (by omega) (by omega) ?_
      (repeat first | refine gS ?_ | refine gA fun _ => ?_ | refine gX fun _ _ => ?_ | refine gT ?_ | refine gF ?_ | refine gI ?_)
      have e : (p : Int) + (i : Int) = ((p + i : Nat) : Int) := by omega
      rw [e]
      exact h
theorem take4 {v : Value} {bs : List UInt8} {w p : Nat} [Rb B H v bs] (hw1 : 1 ≤ w) (hw2 : w ≤ 4) (hl : p + w ≤ bs.length) (hm : bs.length ≤ 9223372036854775807)
    (h : E B H (K (.tuple #[I (ofBe ((bs.drop p).take w)), I (p + w : Nat), I 0]))) : E B H (CF Tryz.prog 68 [v, I p, I w] K) := by
  have h4 := ofBe4 (l := bs.drop p) hw2
  refine takeAt hw1 (by omega) hl hm ?_
  rw [if_neg (by omega)]
  exact h
theorem rfixed {n w : Nat} (hw1 : 1 ≤ w) (hw2 : w ≤ 8) (hn : n < 256 ^ w) (hn2 : n ≤ 9007199254740991) (h : ∀ v [CellI v], E B (sls cB 5 1 v (be n w) :: H) (K (.tuple #[v, I 0]))) : E B H (CF Tryz.prog 163 [I n, I w] K) := by
  refine E_mono (W := s163 _ _ K) ?_ fun _ => c163
  unfold s163
  have c1 : ¬ (w : Int) < 1 := by omega
  have c2 : ¬ (8 : Int) < (w : Int) := by omega
  have c3 : ¬ (n : Int) < 0 := by omega
  have c4 : ¬ (9007199254740991 : Int) < (n : Int) := by omega
  refine E_join0 ?_
  (repeat first | refine gS ?_ | refine gA fun _ => ?_ | refine gX fun _ _ => ?_ | refine gT ?_ | refine gF ?_ | refine gI ?_)
  refine E_join0 ?_
  (repeat first | refine gS ?_ | refine gA fun _ => ?_ | refine gX fun _ _ => ?_ | refine gT ?_ | refine gF ?_ | refine gI ?_)
  refine E_sbsl0 cB Dig.u_bytesD Dig.elt_byteD fun v0 i0 => ?_
  refine E_loop (n := 4) (σ := Nat × Cv) (fun s => s.1 ≤ w) (fun s => [I ((n / 256 ^ s.1 : Nat) : Int), I w, s.2.1, I s.1]) (fun s => sls cB 5 1 s.2.1 (be n s.1) :: H) (fun s => w - s.1) (0, ⟨v0, i0.pf⟩) (fun _ => rfl) (by simp) (Nat.zero_le _) (fun W hW => hW) ?_
  rintro ⟨i, o, hco⟩ K0 hi hk
  simp only at hi hk ⊢
  have hdl : n / 256 ^ i ≤ n := Nat.div_le_self _ _
  refine E_fa fun _ => ?_
  refine E_lss ?_
  refine E_if (fun hc => ?_) (fun hc => ?_)
  · have hk1 := fun x : Cv => hk (i + 1, x) (by simp only; omega) (by simp only; omega)
    simp only [be_top, Nat.pow_succ, ← Nat.div_div_eq_div_mul] at hk1
    have hbl := be_length n i
    generalize n / 256 ^ i = m at hk1 hdl ⊢
    refine Dig.E_rem0 (b := 256) (by decide) ?_
    refine E_cvt8 (Int.natCast_nonneg _) ?_
    rw [Int.toNat_natCast]
    have e8 : UInt8.ofNat (m % 256) = UInt8.ofNat m := by
      apply UInt8.toNat_inj.1
      simp
    rw [e8]
    refine Dig.E_bslK Dig.u_bytesD Dig.elt_byteD (by omega) (fillB1 (UInt8.ofNat m)) fun b => ?_
    refine E_slsC (enc := cB) (sz := 1) [UInt8.ofNat m] 1 rfl rfl ?_
    refine E_sapps (enc := cB) (u := o) (m := be n i) Dig.u_bytesD Dig.elt_byteD (by simp [hbl]; omega) (by simp [hbl]; omega) fun v' i' => ?_
    refine E_quo (by decide) ?_
    rw [show IntKind.wrap .i64 ((m : Int).tdiv 256) = ((m / 256 : Nat) : Int) by rw [Int.tdiv_eq_ediv_of_nonneg (by omega), wrapI (by omega) (by omega)]; omega]
    refine E_addI (by omega) (by omega) ?_
    rw [List.singleton_append]
    exact sm (hk1 ⟨v', i'.pf⟩)
  · have : i = w := by omega
    subst this
    rw [Nat.div_eq_of_lt hn]
    refine E_gtr ?_
    refine E_ifF (by omega) ?_
    have : CellI o := ⟨hco⟩
    exact h o
end Go.Proofs.YtmbfmkiagdhcoaaGreat.Pk
end
section
namespace Go.Proofs.YtmbfmkiagdhcoaaGreat.Pk
open Go Go.SL Go.Proofs Go.Proofs.YtmbfmkiagdhcoaaGreat.Sh Go.Proofs.YtmbfmkiagdhcoaaGreat.Oct Go.Proofs.YtmbfmkiagdhcoaaGreat.Disk Go.Proofs.YtmbfmkiagdhcoaaGreat.Slot
variable {B : World} {H : List Asrt} {K : Value → WT} {W : WT}
structure Bv where
  v : Value
  bs : List UInt8
  cell : isCell v = true
abbrev cV (b : Bv) : List Value := [b.v]
instance : Enc cV 1 := ⟨fun _ => rfl, fun x y hy => by simp at hy; subst hy; exact x.cell⟩
instance (b : Bv) : CellI b.v := ⟨b.cell⟩
attribute [local irreducible] S.pick S.ld S.ldN S.st S.box S.nc S.fad S.ixS S.ixA S.chr S.prt S.ext S.bin S.sh S.sbin S.beq S.neg1 S.com1 S.not1 S.cvt S.str1 S.lenS S.len S.cap S.lenM S.mx S.mn S.mkM S.cond S.gd S.fa S.dr S.rck S.join S.loop S.cvv S.eqv S.slc S.slcS S.b2s S.lk V U CF Gives E cel mpb osl ros dct dit itr lpo dfo
theorem grow {n : Nat} (hn : 1 ≤ n ∧ n ≤ 1000000) (h : ∀ v [CellI v], E B (sls cB 5 1 v [] :: H) (K v)) : E B H (CF Tryz.prog 103 [nil, I n] K) := by
  refine E_mono (W := s103 _ _ K) ?_ fun _ => c103
  unfold s103
  refine E_join1 [nil, I n] H (fun q hq => ?_) ?_
  · refine E_lss ?_
    rw [decide_eq_false (by omega)]
    refine E_ff ?_
    exact hq
  refine E_fa fun _ => ?_
  refine E_joinC (σ := Cv) (fun _ => True) (fun v => [v.1]) (fun v => sls cB 5 1 v.1 [] :: H) (fun q hq => ?_) (fun v _ => ?_)
  · (repeat first | refine gS ?_ | refine gA fun _ => ?_ | refine gX fun _ _ => ?_ | refine gT ?_ | refine gF ?_ | refine gI ?_)
    rw [decide_eq_true (by omega)]
    (repeat first | refine gS ?_ | refine gA fun _ => ?_ | refine gX fun _ _ => ?_ | refine gT ?_ | refine gF ?_ | refine gI ?_)
    refine sls_nil cB 1 (T := 5) ?_
    refine fd (a := sls cB 5 1 nil []) ?_
    refine E_stake (k := 0) (Nat.zero_le _) fun v0 _ => ?_
    have e : ((n : Int) - (((0 : Nat) : Int) - ((0 : Nat) : Int))) = (n : Int) := by omega
    rw [e]
    show E B (osl 5 1 v0 0 [] :: H) _
    refine E_appz (k := (n : Int)) Dig.u_bytesD Ext.u_int Dig.elt_byteD (by simp [isCell]) (by omega) (by rw [Int.toNat_natCast]; omega) (by rw [Int.toNat_natCast]; omega) (by omega) (by omega) fun v' _ => ?_
    rw [Int.toNat_natCast, rep_zero, List.nil_append]
    have hl : (0 + n) = (List.replicate n (0 : UInt8)).length := by simp
    rw [hl, ← bcs_enc]
    show E B (sls cB 5 1 v' (List.replicate n (0 : UInt8)) :: H) _
    (repeat first | refine gS ?_ | refine gA fun _ => ?_ | refine gX fun _ _ => ?_ | refine gT ?_ | refine gF ?_ | refine gI ?_)
    refine E_stake (k := 0) (Nat.zero_le _) fun v2 hv2 => ?_
    exact hq ⟨v2, hv2.pf⟩ trivial
  · refine E_fa fun _ => ?_
    have : CellI v.1 := ⟨v.2⟩
    exact h v.1
def catL (l : List Bv) : List UInt8 := l.flatMap (·.bs)
theorem catL_suc {l : List Bv} {i : Nat} {x : Bv} (h : l[i]? = some x) : catL (l.take (i + 1)) = catL (l.take i) ++ x.bs := by
  unfold catL
  rw [List.take_add_one, h, List.flatMap_append]; simp
theorem catL_le (l : List Bv) (i : Nat) : (catL (l.take i)).length ≤ (catL l).length := by
  conv => rhs; rw [← List.take_append_drop i l]
  unfold catL
  rw [List.flatMap_append, List.length_append]; omega
theorem concat {v : Value} {l : List Bv} [hv : ∀ Q, Rs B (Q ++ H) v cV l] (hx : ∀ p ∈ l, ∀ Q, Rs B (Q ++ H) p.v cB p.bs) (h1 : 1 ≤ (catL l).length) (h2 : (catL l).length ≤ 1000000) (h3 : l.length ≤ 1000000)
    (h : ∀ v' [CellI v'], E B (sls cB 5 1 v' (catL l) :: H) (K v')) : E B H (CF Tryz.prog 62 [v] K) := by
  have hv0 : Rs B H v cV l := hv []
  refine E_mono (W := s62 _ K) ?_ fun _ => c62
  unfold s62
  refine E_rslen (v := v) (l := l) ?_
  refine E_loop (n := 5) (σ := Nat) (fun i => i ≤ l.length) (fun i => [v, I (catL (l.take i)).length, v, I l.length, I i]) (fun _ => H) (fun i => l.length - i) 0 (fun _ => rfl) rfl (Nat.zero_le _) (fun W hW => hW) ?_
  intro i K0 hi hk
  refine E_fa fun _ => ?_
  refine E_lss ?_
  refine E_if (fun hc => ?_) (fun hc => ?_)
  · have hxi : l[i]? = some l[i] := List.getElem?_eq_getElem (by omega)
    have hxr := hx l[i] (List.getElem_mem (by omega)) []
    have hle := catL_le l (i + 1)
    have hk1 := hk (i + 1) (by omega) (by omega)
    generalize l[i] = x at hxi hxr
    rw [catL_suc hxi] at hle hk1
    rw [List.length_append] at hle hk1
    refine E_join1 [v, I ((catL (l.take i)).length + x.bs.length : Nat), v, I l.length, I i] H (fun q hq => ?_) ?_
    · refine E_rsix (v := v) (l := l) hxi fun _ _ => ?_
      refine E_ptld ?_
      have : Rs B H x.v cB x.bs := hxr
      refine E_rslen (v := x.v) (l := x.bs) ?_
      refine E_addI (by omega) (by omega) ?_
      refine E_lss ?_
      refine E_ifF (by omega) ?_
      exact hq
    refine E_fa fun _ => ?_
    refine E_addI (by omega) (by omega) ?_
    exact hk1
  have hie : i = l.length := by omega
  subst hie
  clear hk
  rw [List.take_length]
  refine grow (by omega) fun v0 iv0 => ?_
  have hv1 := hv [sls cB 5 1 v0 []]
  refine E_rslen (v := v) (l := l) ?_
  refine E_loop (n := 4) (σ := Nat × Cv) (fun s => s.1 ≤ l.length) (fun s => [s.2.1, v, I l.length, I s.1]) (fun s => sls cB 5 1 s.2.1 (catL (l.take s.1)) :: H) (fun s => l.length - s.1) (0, ⟨v0, iv0.pf⟩) (fun _ => rfl) rfl (Nat.zero_le _) (fun W hW => hW) ?_
  rintro ⟨j, nv⟩ K2 hj hk2
  simp only at hj hk2 ⊢
  have inv : CellI nv.1 := ⟨nv.2⟩
  refine E_fa fun _ => ?_
  refine E_lss ?_
  refine E_if (fun hc => ?_) (fun hc => ?_)
  · have hxi : l[j]? = some l[j] := List.getElem?_eq_getElem (by omega)
    have hxr := hx l[j] (List.getElem_mem (by omega)) []
    have hle := catL_le l (j + 1)
    have hk1 : ∀ s : Cv, _ := fun s => hk2 (j + 1, s) (by simp only; omega) (by simp only; omega)
    simp only at hk1
    generalize l[j] = x at hxi hxr
    rw [catL_suc hxi] at hle
    rw [List.length_append] at hle
    simp only [catL_suc hxi] at hk1
    have hv2 := hv [sls cB 5 1 nv.1 (catL (l.take j))]
    refine E_rsix (v := v) (l := l) hxi fun _ _ => ?_
    refine E_ptld ?_
    have : Rs B H x.v cB x.bs := hxr
    refine E_sapps (enc := cB) (u := x.v) (m := x.bs) Dig.u_bytesD Dig.elt_byteD (by omega) (by omega) fun v' hv' => ?_
    refine E_addI (by omega) (by omega) ?_
    exact hk1 ⟨v', hv'.pf⟩
  · have hje : j = l.length := by omega
    subst hje
    rw [List.take_length]
    exact h nv.1
end Go.Proofs.YtmbfmkiagdhcoaaGreat.Pk
end
section
namespace Go.Proofs.YtmbfmkiagdhcoaaGreat.Pk
open Go Go.SL Go.Proofs Go.Proofs.YtmbfmkiagdhcoaaGreat.Sh Go.Proofs.YtmbfmkiagdhcoaaGreat.Oct Go.Proofs.YtmbfmkiagdhcoaaGreat.Disk Go.Proofs.YtmbfmkiagdhcoaaGreat.Slot
variable {B : World} {H : List Asrt} {K : Value → WT} {W : WT}
structure Sl where
  sum : List UInt8
  pos : Nat
  len : Nat
  hs : sum.length = 32
theorem Sl.ext {a b : Sl} (h1 : a.sum = b.sum) (h2 : a.pos = b.pos) (h3 : a.len = b.len) : a = b := by
  obtain ⟨_, _, _, _⟩ := a
  obtain ⟨_, _, _, _⟩ := b
  simp only at h1 h2 h3
  subst h1 h2 h3
  rfl
abbrev cSl (s : Sl) : List Value := bcs s.sum ++ [I s.pos, I s.len]
instance encSl : Enc cSl 34 := ⟨fun s => by simp [bcs, s.hs], fun s y hy => by
  rcases List.mem_append.1 hy with h | h
  · exact Dig.bcs_cell _ y h
  · simp at h
    rcases h with rfl | rfl <;> rfl⟩
abbrev Ch := List (List UInt8)
def slotsL : Nat → Ch → List Sl
  | _, [] => []
  | p, b :: L => ⟨Dig.sum b, p, b.length, Dig.sum_len b⟩ :: slotsL (p + b.length) L
theorem slots_snoc (p : Nat) (L : Ch) (b : List UInt8) : slotsL p (L ++ [b]) = slotsL p L ++ [⟨Dig.sum b, p + L.flatten.length, b.length, Dig.sum_len b⟩] := by
  induction L generalizing p with
  | nil => simp [slotsL]
  | cons c L ih =>
    simp only [List.cons_append, slotsL, ih, List.flatten_cons, List.length_append]
    rw [Nat.add_assoc]
theorem slots_len (p : Nat) (L : Ch) : (slotsL p L).length = L.length := by
  induction L generalizing p with
  | nil => rfl
  | cons c L ih => simp only [slotsL, List.length_cons, ih]
def pck (a id wd : Nat) (L : Ch) : Asrt := ex fun x : Cv × Cv => all [cel true a 137 [I id, I wd, x.1.1, x.2.1], sls cSl 109 34 x.1.1 (slotsL 128 L), sls cB 5 1 x.2.1 L.flatten]
theorem E_pk {a id wd : Nat} {L : Ch} (h : ∀ v u [CellI v] [CellI u], E B (cel true a 137 [I id, I wd, v, u] :: sls cSl 109 34 v (slotsL 128 L) :: sls cB 5 1 u L.flatten :: H) W) : E B (pck a id wd L :: H) W := E_ex fun x => E_all (@h x.1.1 x.2.1 ⟨x.1.2⟩ ⟨x.2.2⟩)
theorem E_pkS {a id wd : Nat} {L : Ch} {v u : Value} [hv : CellI v] [hu : CellI u] (h : E B (pck a id wd L :: H) W) : E B (cel true a 137 [I id, I wd, v, u] :: sls cSl 109 34 v (slotsL 128 L) :: sls cB 5 1 u L.flatten :: H) W :=
  E_all' (G := [cel true a 137 [I id, I wd, v, u], sls cSl 109 34 v (slotsL 128 L), sls cB 5 1 u L.flatten]) (E_ex' (f := fun x : Cv × Cv => all [cel true a 137 [I id, I wd, x.1.1, x.2.1], sls cSl 109 34 x.1.1 (slotsL 128 L), sls cB 5 1 x.2.1 L.flatten]) (⟨v, hv.pf⟩, ⟨u, hu.pf⟩) h)
structure POk (id wd : Nat) (L : Ch) : Prop where
  idl : id < 4096
  lo : 4 ≤ wd
  hi : wd ≤ 64
  num : L.length ≤ 64
  fit : 128 + L.flatten.length + 34 * L.length ≤ 128 * wd
  ch : ∀ b ∈ L, 1 ≤ b.length ∧ b.length ≤ 512
def fitsB (wd : Nat) (L : Ch) (b : List UInt8) : Prop := 128 + L.flatten.length + b.length + 34 * (L.length + 1) ≤ 128 * wd
instance (wd : Nat) (L : Ch) (b : List UInt8) : Decidable (fitsB wd L b) := inferInstanceAs (Decidable (_ ≤ _))
def addL (wd : Nat) (L : Ch) (b : List UInt8) : Ch := if 1 ≤ b.length ∧ b.length ≤ 512 ∧ L.length < 64 ∧ fitsB wd L b then L ++ [b] else L
theorem addL_ok {id wd : Nat} {L : Ch} (h : POk id wd L) (b : List UInt8) : POk id wd (addL wd L b) := by
  unfold addL
  split
  · rename_i hc
    obtain ⟨h1, h2, h3, h4⟩ := hc
    unfold fitsB at h4
    refine ⟨h.idl, h.lo, h.hi, by simp; omega, ?_, fun c hc => ?_⟩
    · simp only [List.flatten_append, List.flatten_cons, List.flatten_nil, List.append_nil, List.length_append, List.length_cons, List.length_nil]; omega
    · rcases List.mem_append.1 hc with hc | hc
      · exact h.ch c hc
      · simp at hc; subst hc; exact ⟨h1, h2⟩
  · exact h
theorem u_pPk : Tryz.prog.underlying 27 = some (.pointer 137) := by kernel_rfl
theorem buildPk (i w : Int) (wo : World) : (Instr.build 137 #[(0, I i), (1, I w)]).run Tryz.prog wo = .ok (.agg #[I i, I w, nil, nil]) wo := by kernel_rfl
theorem u_slots : Tryz.prog.underlying 56 = some (.slice 109) := by kernel_rfl
theorem u_bytess : Tryz.prog.underlying 22 = some (.slice 48) := by kernel_rfl
abbrev zSl : List Value := Dig.zb ++ [I 0, I 0]
theorem elt_slot : Elt Tryz.prog 109 34 48 zSl := elt_of (zv := .agg zSl.toArray) (by kernel_rfl) rfl rfl
theorem str_slot : Str Tryz.prog 109 [(0, 32), (32, 1), (33, 1)] zSl := str_of (zv := .agg zSl.toArray) (by kernel_rfl) (by kernel_rfl) rfl
theorem slotFill {s : List UInt8} (h : s.length = 32) (p n : Int) : FillI [(0, 32), (32, 1), (33, 1)] zSl [(0, .agg (bcs s).toArray), (1, I p), (2, I n)] (bcs s ++ [I p, I n]) := by
  have hb : (bcs s).length = 32 := by rw [Dig.bcs_len, h]
  have s0 : SetsI zSl 0 (bcs s) (bcs s ++ [I 0, I 0]) := ⟨by rw [hb]; decide, by
    have := Ext.setMid (A := []) (X := Dig.zb) (R := [I 0, I 0]) (Y := bcs s) (a := 0) rfl (by rw [hb]; rfl)
    simpa using this⟩
  have s1 : SetsI (bcs s ++ [I 0, I 0]) 32 [I p] (bcs s ++ [I p, I 0]) := ⟨by simp [hb], Ext.setMid (X := [I 0]) (R := [I 0]) hb rfl⟩
  have s2 : SetsI (bcs s ++ [I p, I 0]) 33 [I n] (bcs s ++ [I p, I n]) := ⟨by simp [hb], by
    have := Ext.setMid (A := bcs s ++ [I p]) (X := [I 0]) (R := []) (Y := [I n]) (a := 33) (by simp [hb]) rfl
    simpa using this⟩
  have n0 : AtLen (bcs s) 32 := ⟨hb⟩
  exact fillI_cons (hs := s0) (hn := n0) (h := fillI_cons (hs := s1) (h := fillI_cons (hs := s2) (h := fillI_nil)))
attribute [local irreducible] S.pick S.ld S.ldN S.st S.box S.nc S.fad S.ixS S.ixA S.chr S.prt S.ext S.bin S.sh S.sbin S.beq S.neg1 S.com1 S.not1 S.cvt S.str1 S.lenS S.len S.cap S.lenM S.mx S.mn S.mkM S.cond S.gd S.fa S.dr S.rck S.join S.loop S.cvv S.eqv S.slc S.slcS S.b2s S.lk V U CF Gives E cel mpb osl ros dct dit itr lpo dfo
theorem pknew {i w : Int} (hx : i < 0 ∨ 4096 ≤ i ∨ w < 4 ∨ 64 < w → E B H (K (.tuple #[.pointer none, I 2])))
    (h : ∀ a id wd : Nat, i = (id : Int) → w = (wd : Int) → POk id wd [] → E B (pck a id wd [] :: H) (K (.tuple #[ptr a, I 0]))) : E B H (CF Tryz.prog 30 [I i, I w] K) := by
  refine E_mono (W := s30 _ _ K) ?_ fun _ => c30
  unfold s30
  refine E_join1 (n := 3) [I i, I w, .bool (decide (i < 0 ∨ 4096 ≤ i ∨ w < 4 ∨ 64 < w))] H (fun q hq => ?_) ?_
  · by_cases h1 : i < 0
    · rw [decide_eq_true (.inl h1)] at hq
      (repeat first | refine gS ?_ | refine gA fun _ => ?_ | refine gX fun _ _ => ?_ | refine gT ?_ | refine gF ?_ | refine gI ?_)
      exact hq
    · by_cases h2 : (4096 : Int) ≤ i
      · rw [decide_eq_true (.inr (.inl h2))] at hq
        (repeat first | refine gS ?_ | refine gA fun _ => ?_ | refine gX fun _ _ => ?_ | refine gT ?_ | refine gF ?_ | refine gI ?_)
        exact hq
      · by_cases h3 : w < 4
        · rw [decide_eq_true (.inr (.inr (.inl h3)))] at hq
          (repeat first | refine gS ?_ | refine gA fun _ => ?_ | refine gX fun _ _ => ?_ | refine gT ?_ | refine gF ?_ | refine gI ?_)
          exact hq
        · have e : decide (i < 0 ∨ 4096 ≤ i ∨ w < 4 ∨ 64 < w) = decide (64 < w) := by rw [decide_eq_decide]; omega
          rw [e] at hq
          (repeat first | refine gS ?_ | refine gA fun _ => ?_ | refine gX fun _ _ => ?_ | refine gT ?_ | refine gF ?_ | refine gI ?_)
          exact hq
  · refine E_fa fun _ => ?_
    refine E_if (fun hc => hx hc) (fun hc => ?_)
    refine Dig.E_Vr (buildPk _ _) ?_
    refine gA fun a => ?_
    obtain ⟨id, rfl⟩ : ∃ id : Nat, i = (id : Int) := ⟨i.toNat, by omega⟩
    obtain ⟨wd, rfl⟩ : ∃ wd : Nat, w = (wd : Int) := ⟨w.toNat, by omega⟩
    have h' := h a id wd rfl rfl ⟨by omega, by omega, by omega, by simp, by simp; omega, by simp⟩
    refine sls_nil cSl 34 (T := 109) ?_
    refine sls_nil cB 1 (T := 5) ?_
    refine sm (G := cel true a 137 [I id, I wd, nil, nil] :: sls cSl 109 34 nil [] :: sls cB 5 1 nil [] :: H) ?_
    exact E_pkS (v := nil) (u := nil) (L := []) h'
theorem pklen {a id wd : Nat} {L : Ch} (h : E B (pck a id wd L :: H) (K (I L.length))) : E B (pck a id wd L :: H) (CF Tryz.prog 34 [ptr a] K) := by
  refine E_mono (W := s34 _ K) ?_ fun _ => c34
  unfold s34
  refine E_peq u_pPk ?_
  refine E_ff ?_
  refine E_pk fun v u _ _ => ?_
  refine E_nc ?_
  refine E_fad0 ?_
  refine E_ld ?_
  refine E_rslen (v := v) (l := slotsL 128 L) ?_
  rw [slots_len]
  exact E_pkS h
end Go.Proofs.YtmbfmkiagdhcoaaGreat.Pk
end
section
namespace Go.Proofs.YtmbfmkiagdhcoaaGreat.Pk
open Go Go.SL Go.Proofs Go.Proofs.YtmbfmkiagdhcoaaGreat.Sh Go.Proofs.YtmbfmkiagdhcoaaGreat.Oct Go.Proofs.YtmbfmkiagdhcoaaGreat.Disk Go.Proofs.YtmbfmkiagdhcoaaGreat.Slot
variable {B : World} {H : List Asrt} {K : Value → WT} {W : WT}
def roomI (wd : Nat) (L : Ch) : Int := if L.length = 64 then 0 else min (max (((wd : Int) - 1) * 128 - (L.flatten.length : Int) - 34 * ((L.length : Int) + 1)) 0) 512
theorem fill1S {s : Sl} : Instr.fill (fun i => some (i * 34, 34)) (rep 1 zSl).toArray [(0, .agg (cSl s).toArray)] = some (cSl s).toArray := by
  have hl : (cSl s).length = 34 := by simp [bcs, s.hs]
  have e : rep 1 zSl = zSl := by simp [rep]
  have hs : SetsI zSl 0 (cSl s) (cSl s) := ⟨by rw [hl]; decide, by
    have := Ext.setMid (A := []) (X := zSl) (R := []) (Y := cSl s) (a := 0) rfl (by rw [hl]; rfl)
    simpa using this⟩
  have hn : AtLen (cSl s) 34 := ⟨hl⟩
  have hf : FillI [(0, 34)] zSl [(0, .agg (cSl s).toArray)] (cSl s) := fillI_cons (hs := hs) (hn := hn) (h := fillI_nil)
  rw [e, ← hf.pf]
  exact fill_congr _ _ fun p hp => by simp at hp; subst hp; rfl
theorem fill2V {a b : Value} (ha : isCell a = true) (hb : isCell b = true) : Instr.fill (fun i => some (i * 1, 1)) (rep 2 [nil]).toArray [(0, a), (1, b)] = some #[a, b] := by
  have e : (rep 2 [nil]).toArray = #[nil, nil] := rfl
  rw [e]
  simp [Instr.fill, Ext.cells_one ha, Ext.cells_one hb]
theorem elt_bytesP : Elt Tryz.prog 48 1 24 [nil] := elt_of (zv := nil) (by kernel_rfl) rfl rfl
attribute [local irreducible] S.pick S.ld S.ldN S.st S.box S.nc S.fad S.ixS S.ixA S.chr S.prt S.ext S.bin S.sh S.sbin S.beq S.neg1 S.com1 S.not1 S.cvt S.str1 S.lenS S.len S.cap S.lenM S.mx S.mn S.mkM S.cond S.gd S.fa S.dr S.rck S.join S.loop S.cvv S.eqv S.slc S.slcS S.b2s S.lk V U CF Gives E cel mpb osl ros dct dit itr lpo dfo
theorem pkroom {a id wd : Nat} {L : Ch} (hp : POk id wd L) (h : E B (pck a id wd L :: H) (K (I (roomI wd L)))) : E B (pck a id wd L :: H) (CF Tryz.prog 59 [ptr a] K) := by
  obtain ⟨p1, p2, p3, p4, p5, p6⟩ := hp
  refine E_mono (W := s59 _ K) ?_ fun _ => c59
  unfold s59
  unfold roomI at h
  refine E_pk fun v u _ _ => ?_
  refine E_join1 (n := 2) [ptr a, .bool (decide (L.length = 64))] (cel true a 137 [I id, I wd, v, u] :: sls cSl 109 34 v (slotsL 128 L) :: sls cB 5 1 u L.flatten :: H) (fun q hq => ?_) ?_
  · refine E_peq u_pPk ?_
    refine E_gft ?_
    refine E_gft ?_
    refine E_nc ?_
    refine E_gft ?_
    refine E_fad0 ?_
    refine E_gft ?_
    refine E_ld ?_
    refine E_gft ?_
    refine E_rslen (v := v) (l := slotsL 128 L) ?_
    rw [slots_len]
    refine E_gft ?_
    refine E_eql ?_
    refine E_pff ?_
    have e : decide ((L.length : Int) = 64) = decide (L.length = 64) := by rw [decide_eq_decide]; omega
    rw [e]
    exact hq
  · refine E_fa fun _ => ?_
    refine E_if (fun hc => ?_) (fun hc => ?_)
    · rw [if_pos hc] at h
      exact E_pkS h
    · rw [if_neg hc] at h
      refine E_dr ?_
      refine E_nc ?_
      refine E_fad0 ?_
      refine E_ld ?_
      refine E_subI (by omega) (by omega) ?_
      refine E_mulI (by omega) (by omega) ?_
      refine E_nc ?_
      refine E_fad0 ?_
      refine E_ld ?_
      refine E_rslen (v := u) (l := L.flatten) ?_
      refine E_subI (by omega) (by omega) ?_
      refine E_nc ?_
      refine E_fad0 ?_
      refine E_ld ?_
      refine E_rslen (v := v) (l := slotsL 128 L) ?_
      rw [slots_len]
      refine E_addI (by omega) (by omega) ?_
      refine E_mulI (by omega) (by omega) ?_
      refine E_subI (by omega) (by omega) ?_
      refine E_mx ?_
      refine E_mn ?_
      exact E_pkS h
theorem cloneS {v : Value} {l : List Sl} [hv : Rs B H v cSl l] (hl : l.length ≤ 1000000) (h : ∀ v' [CellI v'], E B (sls cSl 109 34 v' l :: H) (K v')) : E B H (CF Tryz.prog 61 [v] K) := by
  refine E_mono (W := s61 _ K) ?_ fun _ => c61
  unfold s61
  refine Ext.E_rsC (hf := hv) (fun hv0 hl0 => ?_) (fun a cap hv0 hle => ?_)
  · subst hv0 hl0
    refine E_sleq u_slots ?_
    refine E_tt ?_
    exact sls_nil cSl 34 (T := 109) (h nil)
  · subst hv0
    refine E_sleq u_slots ?_
    refine E_ff ?_
    refine E_sbsl0 cSl u_slots elt_slot fun v5 _ => ?_
    refine E_sapps (enc := cSl) (u := .slice (some a) l.length cap) (m := l) u_slots elt_slot (by simp; omega) (by simp; omega) fun v7 _ => ?_
    rw [List.nil_append]
    exact h v7
theorem addTail {a id wd : Nat} {L : Ch} {v u w bv : Value} {b : List UInt8} [CellI v] [CellI u] [CellI w] [CellI bv] [hb : Rb B H bv b] (hp : POk id wd L) (h1 : 1 ≤ b.length) (h2 : b.length ≤ 512)
    (h : E B (pck a id wd (L ++ [b]) :: H) (K (.tuple #[I L.length, I 0]))) :
    E B (cel true a 137 [I id, I wd, v, u] :: sls cSl 109 34 w (slotsL 128 (L ++ [b])) :: sls cB 5 1 u L.flatten :: H)
      (S.nc (ptr a) fun v52 => S.fad v52 2 fun v53 => S.st 1 v53 w fun _ => S.nc (ptr a) fun v56 => S.fad v56 3 fun v57 => S.ld v57 fun v58 =>
       V Tryz.prog (Instr.buildSlice 22 2 #[(0, v58), (1, bv)]) fun v60 => CF Tryz.prog 62 [v60] fun v61 => S.nc (ptr a) fun v62 => S.fad v62 3 fun v63 => S.st 1 v63 v61 fun _ =>
       S.nc (ptr a) fun v65 => S.fad v65 2 fun v66 => S.ld v66 fun v67 => S.len v67 fun v68 => S.bin .sub v68 (I 1) fun v69 => K (.tuple #[v69, I 0])) := by
  obtain ⟨p1, p2, p3, p4, p5, p6⟩ := hp
  refine E_nc ?_
  refine E_fad0 ?_
  refine E_st ?_
  refine E_nc ?_
  refine E_fad0 ?_
  refine E_ld ?_
  refine Dig.E_bslK u_bytess elt_bytesP (by omega) (fill2V CellI.pf CellI.pf) fun bb => ?_
  refine E_slsC (enc := cV) (sz := 1) [⟨u, L.flatten, CellI.pf⟩, ⟨bv, b, CellI.pf⟩] 2 rfl rfl ?_
  have hcat : catL [⟨u, L.flatten, CellI.pf⟩, ⟨bv, b, CellI.pf⟩] = (L ++ [b]).flatten := by simp [catL]
  have hfl : ((L ++ [b]).flatten).length = L.flatten.length + b.length := by simp
  refine concat (l := [⟨u, L.flatten, CellI.pf⟩, ⟨bv, b, CellI.pf⟩]) (hv := fun Q => Ext.rs_app Q inferInstance) (fun y hy Q => ?_) (by rw [hcat, hfl]; omega) (by rw [hcat, hfl]; omega) (by simp) fun v61 i61 => ?_
  · refine Ext.rs_app Q ?_
    simp only [List.mem_cons, List.not_mem_nil, or_false] at hy
    rcases hy with rfl | rfl
    · exact inferInstance
    · exact inferInstance
  · rw [hcat]
    refine E_nc ?_
    refine E_fad0 ?_
    refine E_st ?_
    refine E_nc ?_
    refine E_fad0 ?_
    refine E_ld ?_
    refine E_rslen (v := w) (l := slotsL 128 (L ++ [b])) ?_
    rw [slots_len, List.length_append, List.length_singleton]
    refine E_subI (by omega) (by omega) ?_
    rw [show ((L.length + 1 : Nat) : Int) - 1 = (L.length : Int) by omega]
    refine sm (G := cel true a 137 [I id, I wd, w, v61] :: sls cSl 109 34 w (slotsL 128 (L ++ [b])) :: sls cB 5 1 v61 ((L ++ [b]).flatten) :: H) ?_
    exact E_pkS h
end Go.Proofs.YtmbfmkiagdhcoaaGreat.Pk
end
section
namespace Go.Proofs.YtmbfmkiagdhcoaaGreat.Pk
open Go Go.SL Go.Proofs Go.Proofs.YtmbfmkiagdhcoaaGreat.Sh Go.Proofs.YtmbfmkiagdhcoaaGreat.Oct Go.Proofs.YtmbfmkiagdhcoaaGreat.Disk Go.Proofs.YtmbfmkiagdhcoaaGreat.Slot
variable {B : World} {H : List Asrt} {K : Value → WT} {W : WT}
theorem cSl_len (s : Sl) : (cSl s).length = 34 := by simp [bcs, s.hs]
instance (l : List UInt8) (x y : Int) : AllC (bcs l ++ [I x, I y]) := ⟨fun v hv => by
  rcases List.mem_append.1 hv with h | h
  · exact Dig.bcs_cell _ v h
  · simp at h
    rcases h with rfl | rfl <;> rfl⟩
theorem cSl_ld {b : Nat} {κ : Bool} {T : TypeId} {s : Sl} [hf : HasC H b κ T (cSl s)] (h : E B H (K (.agg (cSl s).toArray))) : E B H (S.ldN 34 (.pointer (some ⟨b, 0, none⟩)) K) :=
  E_ldN (hf := hf) (cs := cSl s) (by rw [List.drop_zero, List.take_of_length_le (by rw [cSl_len]; omega)]) (cSl_len s) h
attribute [local irreducible] S.pick S.ld S.ldN S.st S.box S.nc S.fad S.ixS S.ixA S.chr S.prt S.ext S.bin S.sh S.sbin S.beq S.neg1 S.com1 S.not1 S.cvt S.str1 S.lenS S.len S.cap S.lenM S.mx S.mn S.mkM S.cond S.gd S.fa S.dr S.rck S.join S.loop S.cvv S.eqv S.slc S.slcS S.b2s S.lk V U CF Gives E cel mpb osl ros dct dit itr lpo dfo
theorem addMid {a v6 id wd : Nat} {l : List Sl} {s : Sl} {d : List UInt8} {v u : Value} {T : Value → WT} [CellI v] [CellI u] (hl : l.length ≤ 1000)
    (hT : ∀ w [CellI w], E B (cel true a 137 [I id, I wd, v, u] :: sls cSl 109 34 w (l ++ [s]) :: sls cB 5 1 u d :: H) (T w)) :
    E B (cel true v6 109 (cSl s) :: cel true a 137 [I id, I wd, v, u] :: sls cSl 109 34 v l :: sls cB 5 1 u d :: H)
      (S.dr <| S.nc (ptr a) fun v45 => S.fad v45 2 fun v46 => S.ld v46 fun v47 => S.ldN 34 (ptr v6) fun v49 => S.both
        (CF Tryz.prog 61 [v47] fun v48 => S.rck [S.ldN 34 (ptr v6) (fun v' _ => v' = v49)] <| V Tryz.prog (Instr.buildSlice 56 1 #[(0, v49)]) fun v50 => V Tryz.prog (Builtin.append_ #[56, 56] 56 #[v48, v50]) fun v51 => T v51)
        (V Tryz.prog (Instr.buildSlice 56 1 #[(0, v49)]) fun v50 => S.rck [S.ld v46 (fun v' _ => v' = v47)] <| CF Tryz.prog 61 [v47] fun v48 => V Tryz.prog (Builtin.append_ #[56, 56] 56 #[v48, v50]) fun v51 => T v51)) := by
  refine E_dr ?_
  refine E_nc ?_
  refine E_fad0 ?_
  refine E_ld ?_
  refine cSl_ld ?_
  refine E_both ?_ ?_
  · refine cloneS (v := v) (l := l) (by omega) fun v48 _ => ?_
    refine E_rck1 (cSl_ld (E_fact rfl)) (E_rck0 ?_)
    refine E_sapp1 (enc := cSl) (xv := .agg (cSl s).toArray) s u_slots elt_slot rfl (by omega) (by omega) (by omega) fun w _ => ?_
    exact sm (hT w)
  · refine Dig.E_bslK u_slots elt_slot (by omega) fill1S fun bb => ?_
    refine E_slsC (enc := cSl) (sz := 34) [s] 1 (by simp) rfl ?_
    refine E_rck1 (E_ld (E_fact rfl)) (E_rck0 ?_)
    refine cloneS (v := v) (l := l) (by omega) fun v48 _ => ?_
    refine E_sapps (enc := cSl) (u := .slice (some ⟨bb, 0, none⟩) 1 1) (m := [s]) u_slots elt_slot (by simp; omega) (by simp; omega) fun w _ => ?_
    exact sm (hT w)
theorem pkadd {a id wd : Nat} {L : Ch} {bv : Value} {b : List UInt8} [CellI bv] [hb : Rb B H bv b] (hp : POk id wd L) (hbl : b.length ≤ 140737488351232)
    (h : ∀ x y : Int, E B (pck a id wd (addL wd L b) :: H) (K (.tuple #[I x, I y]))) : E B (pck a id wd L :: H) (CF Tryz.prog 32 [ptr a, bv] K) := by
  have hp' := hp
  obtain ⟨p1, p2, p3, p4, p5, p6⟩ := hp'
  refine E_mono (W := s32 _ _ K) ?_ fun _ => c32
  unfold s32
  unfold addL fitsB at h
  refine E_peq u_pPk ?_
  refine E_ff ?_
  refine E_join1 (n := 3) [ptr a, bv, .bool (decide (b.length < 1 ∨ 512 < b.length))] (pck a id wd L :: H) (fun q hq => ?_) ?_
  · refine E_rslen (v := bv) (l := b) ?_
    refine E_lss ?_
    by_cases h1 : b.length < 1
    · rw [decide_eq_true (.inl h1)] at hq
      rw [decide_eq_true (show (b.length : Int) < 1 by omega)]
      (repeat first | refine gS ?_ | refine gA fun _ => ?_ | refine gX fun _ _ => ?_ | refine gT ?_ | refine gF ?_ | refine gI ?_)
      exact hq
    · have e : decide (b.length < 1 ∨ 512 < b.length) = decide ((512 : Int) < (b.length : Int)) := by rw [decide_eq_decide]; omega
      rw [e] at hq
      rw [decide_eq_false (show ¬ (b.length : Int) < 1 by omega)]
      refine E_gft ?_
      refine E_gft ?_
      refine E_rslen (v := bv) (l := b) ?_
      refine E_gft ?_
      refine E_gtr ?_
      refine E_pff ?_
      exact hq
  refine E_fa fun _ => ?_
  refine E_if (fun hc => ?_) (fun hc => ?_)
  · rw [if_neg (by omega)] at h
    exact h 0 2
  refine E_pk fun v u _ _ => ?_
  refine E_nc ?_
  refine E_fad0 ?_
  refine E_ld ?_
  refine E_rslen (v := v) (l := slotsL 128 L) ?_
  rw [slots_len]
  refine E_eql ?_
  refine E_if (fun hc2 => ?_) (fun hc2 => ?_)
  · rw [if_neg (by omega)] at h
    exact E_pkS (h 0 6)
  refine E_rslen (v := bv) (l := b) ?_
  refine E_pkS ?_
  refine pkroom hp ?_
  refine E_gtr ?_
  have hL : ¬ L.length = 64 := by omega
  unfold roomI
  rw [if_neg hL]
  refine E_if (fun hc3 => ?_) (fun hc3 => ?_)
  · rw [if_neg (by omega)] at h
    exact h 0 8
  rw [if_pos (by omega)] at h
  refine E_pk fun v u _ _ => ?_
  have hs := slots_len 128 L
  have hsn := slots_snoc 128 L b
  have tail : ∀ (w : Value) [CellI w], E B (cel true a 137 [I id, I wd, v, u] :: sls cSl 109 34 w (slotsL 128 L ++ [⟨Dig.sum b, 128 + L.flatten.length, b.length, Dig.sum_len b⟩]) :: sls cB 5 1 u L.flatten :: H) _ := fun w _ => by
    rw [← hsn]
    exact addTail (v := v) (u := u) (w := w) (bv := bv) (b := b) hp (by omega) (by omega) (h L.length 0)
  have mid := fun v6 => addMid (v6 := v6) (id := id) (wd := wd) (v := v) (u := u) (a := a) (d := L.flatten) (H := H) (by rw [hs]; omega) tail
  refine E_dr ?_
  refine E_nc ?_
  refine E_fad0 ?_
  refine E_ld ?_
  refine E_rslen (v := u) (l := L.flatten) ?_
  refine E_addI (by omega) (by omega) ?_
  rw [show (128 : Int) + (L.flatten.length : Int) = ((128 + L.flatten.length : Nat) : Int) by omega]
  refine E_rslen (v := bv) (l := b) ?_
  refine E_both ?_ ?_
  · refine Dig.dsum (v := bv) (p := b) (by omega) ?_
    refine E_rck1 (E_ld (E_fact rfl)) (E_rck0 ?_)
    refine E_both ?_ ?_
    · refine E_build (hf := slotFill (Dig.sum_len b) _ _) str_slot ?_
      refine E_box (v := .agg zSl.toArray) (vs := zSl) fun v6 => ?_
      refine E_stW (vs := bcs (Dig.sum b) ++ [I ((128 + L.flatten.length : Nat) : Int), I b.length]) (cSl_len ⟨Dig.sum b, 128 + L.flatten.length, b.length, Dig.sum_len b⟩) rfl ?_
      exact mid v6
    · refine E_box (v := .agg zSl.toArray) (vs := zSl) fun v6 => ?_
      refine E_rck1 (E_ld (E_fact rfl)) (E_rck0 ?_)
      refine E_build (hf := slotFill (Dig.sum_len b) _ _) str_slot ?_
      refine E_stW (vs := bcs (Dig.sum b) ++ [I ((128 + L.flatten.length : Nat) : Int), I b.length]) (cSl_len ⟨Dig.sum b, 128 + L.flatten.length, b.length, Dig.sum_len b⟩) rfl ?_
      exact mid v6
  · refine E_box (v := .agg zSl.toArray) (vs := zSl) fun v6 => ?_
    refine E_rck1 (E_ld (E_fact rfl)) (E_rck0 ?_)
    refine Dig.dsum (v := bv) (p := b) (by omega) ?_
    refine E_rck1 (E_ld (E_fact rfl)) (E_rck0 ?_)
    refine E_build (hf := slotFill (Dig.sum_len b) _ _) str_slot ?_
    refine E_stW (vs := bcs (Dig.sum b) ++ [I ((128 + L.flatten.length : Nat) : Int), I b.length]) (cSl_len ⟨Dig.sum b, 128 + L.flatten.length, b.length, Dig.sum_len b⟩) rfl ?_
    exact mid v6
end Go.Proofs.YtmbfmkiagdhcoaaGreat.Pk
end
section
namespace Go.Proofs.YtmbfmkiagdhcoaaGreat.Pk
open Go Go.SL Go.Proofs Go.Proofs.YtmbfmkiagdhcoaaGreat.Sh Go.Proofs.YtmbfmkiagdhcoaaGreat.Oct Go.Proofs.YtmbfmkiagdhcoaaGreat.Disk Go.Proofs.YtmbfmkiagdhcoaaGreat.Slot
variable {B : World} {H : List Asrt} {K : Value → WT} {W : WT}
theorem u_strsP : Tryz.prog.underlying 45 = some (.slice 9) := by kernel_rfl
theorem elt_strP : Elt Tryz.prog 9 1 16 [str []] := elt_of (zv := str []) (by kernel_rfl) rfl rfl
theorem buildR11 (i w : Int) (wo : World) : (Instr.build 47 #[(0, I i), (1, I w)]).run Tryz.prog wo = .ok (.agg #[I i, I w, nil]) wo := by kernel_rfl
theorem fillS1 (s : List UInt8) : Instr.fill (fun i => some (i * 1, 1)) (rep 1 [str []]).toArray [(0, str s)] = some #[str s] := by
  have e : (rep 1 [str []]).toArray = #[str []] := rfl
  rw [e]
  simp [Instr.fill, Value.cells]
def rpk (a id wd : Nat) (L : Ch) : Asrt := ex fun v : Cv => all [cel true a 47 [I id, I wd, v.1], sls cS 9 1 v.1 L]
theorem E_rpk {a id wd : Nat} {L : Ch} (h : ∀ v [CellI v], E B (cel true a 47 [I id, I wd, v] :: sls cS 9 1 v L :: H) W) : E B (rpk a id wd L :: H) W := E_ex fun x => E_all (@h x.1 ⟨x.2⟩)
theorem E_rpkS {a id wd : Nat} {L : Ch} {v : Value} [hc : CellI v] (h : E B (rpk a id wd L :: H) W) : E B (cel true a 47 [I id, I wd, v] :: sls cS 9 1 v L :: H) W :=
  E_all' (G := [cel true a 47 [I id, I wd, v], sls cS 9 1 v L]) (E_ex' (f := fun v : Cv => all [cel true a 47 [I id, I wd, v.1], sls cS 9 1 v.1 L]) ⟨v, hc.pf⟩ h)
def sizeL (L : Ch) : Nat := 128 + L.flatten.length + 34 * L.length
theorem size_suc {L : Ch} {i : Nat} {b : List UInt8} (h : L[i]? = some b) : sizeL (L.take (i + 1)) = sizeL (L.take i) + b.length + 34 := by
  have hl := (List.getElem?_eq_some_iff.1 h).1
  unfold sizeL
  rw [List.take_add_one, h]
  simp only [Option.toList_some, List.flatten_append, List.flatten_cons, List.flatten_nil, List.append_nil, List.length_append, List.length_cons, List.length_nil]
  omega
theorem size_le (L : Ch) (i : Nat) : sizeL (L.take i) ≤ sizeL L := by
  unfold sizeL
  conv => rhs; rw [← List.take_append_drop i L]
  simp only [List.flatten_append, List.length_append]
  omega
attribute [local irreducible] S.pick S.ld S.ldN S.st S.box S.nc S.fad S.ixS S.ixA S.chr S.prt S.ext S.bin S.sh S.sbin S.beq S.neg1 S.com1 S.not1 S.cvt S.str1 S.lenS S.len S.cap S.lenM S.mx S.mn S.mkM S.cond S.gd S.fa S.dr S.rck S.join S.loop S.cvv S.eqv S.slc S.slcS S.b2s S.lk V U CF Gives E cel mpb osl ros dct dit itr lpo dfo
theorem rpnew {i w : Int} (hx : i < 0 ∨ 4096 ≤ i ∨ w < 4 ∨ 64 < w → E B H (K (.tuple #[.pointer none, I 2])))
    (h : ∀ a id wd : Nat, i = (id : Int) → w = (wd : Int) → POk id wd [] → E B (rpk a id wd [] :: H) (K (.tuple #[ptr a, I 0]))) : E B H (CF Tryz.prog 31 [I i, I w] K) := by
  refine E_mono (W := s31 _ _ K) ?_ fun _ => c31
  unfold s31
  refine E_join1 (n := 3) [I i, I w, .bool (decide (i < 0 ∨ 4096 ≤ i ∨ w < 4 ∨ 64 < w))] H (fun q hq => ?_) ?_
  · by_cases h1 : i < 0
    · rw [decide_eq_true (.inl h1)] at hq
      (repeat first | refine gS ?_ | refine gA fun _ => ?_ | refine gX fun _ _ => ?_ | refine gT ?_ | refine gF ?_ | refine gI ?_)
      exact hq
    · by_cases h2 : (4095 : Int) < i
      · rw [decide_eq_true (.inr (.inl (by omega)))] at hq
        (repeat first | refine gS ?_ | refine gA fun _ => ?_ | refine gX fun _ _ => ?_ | refine gT ?_ | refine gF ?_ | refine gI ?_)
        exact hq
      · by_cases h3 : w < 4
        · rw [decide_eq_true (.inr (.inr (.inl h3)))] at hq
          (repeat first | refine gS ?_ | refine gA fun _ => ?_ | refine gX fun _ _ => ?_ | refine gT ?_ | refine gF ?_ | refine gI ?_)
          exact hq
        · have e : decide (i < 0 ∨ 4096 ≤ i ∨ w < 4 ∨ 64 < w) = decide (64 < w) := by rw [decide_eq_decide]; omega
          rw [e] at hq
          (repeat first | refine gS ?_ | refine gA fun _ => ?_ | refine gX fun _ _ => ?_ | refine gT ?_ | refine gF ?_ | refine gI ?_)
          exact hq
  · refine E_fa fun _ => ?_
    refine E_if (fun hc => hx hc) (fun hc => ?_)
    refine Dig.E_Vr (buildR11 _ _) ?_
    refine gA fun a => ?_
    obtain ⟨id, rfl⟩ : ∃ id : Nat, i = (id : Int) := ⟨i.toNat, by omega⟩
    obtain ⟨wd, rfl⟩ : ∃ wd : Nat, w = (wd : Int) := ⟨w.toNat, by omega⟩
    have h' := h a id wd rfl rfl ⟨by omega, by omega, by omega, by simp, by simp; omega, by simp⟩
    refine sls_nil cS 1 (T := 9) ?_
    refine sm (G := cel true a 47 [I id, I wd, nil] :: sls cS 9 1 nil [] :: H) ?_
    exact E_rpkS (v := nil) (L := []) h'
theorem rfits {v : Value} {L : Ch} {wd : Nat} [hv : Rs B H v cS L] (hl : sizeL L ≤ 1000000) (hw : wd ≤ 64) (h : E B H (K (.bool (decide (sizeL L ≤ 128 * wd))))) : E B H (CF Tryz.prog 63 [v, I wd] K) := by
  refine E_mono (W := s63 _ _ K) ?_ fun _ => c63
  unfold s63
  have hn : L.length ≤ 1000000 := by unfold sizeL at hl; omega
  refine E_loop (n := 4) (σ := Nat) (fun i => i ≤ L.length) (fun i => [v, I wd, I (sizeL (L.take i)), I i]) (fun _ => H) (fun i => L.length - i) 0 (fun _ => rfl) rfl (Nat.zero_le _) (fun W hW => hW) ?_
  rintro i K0 hi hk
  refine E_fa fun _ => ?_
  refine E_rslen (v := v) (l := L) ?_
  refine E_lss ?_
  refine E_if (fun hc => ?_) (fun hc => ?_)
  · have hx : L[i]? = some (L[i]'(by omega)) := List.getElem?_eq_getElem (by omega)
    generalize (L[i]'(by omega)) = b at hx
    have hle := size_le L (i + 1)
    have hk1 := hk (i + 1) (by omega) (by omega)
    rw [size_suc hx] at hle hk1
    refine E_rsix (v := v) (l := L) hx fun _ _ => ?_
    refine E_ptld ?_
    refine E_lenstr ?_
    refine E_addI (by omega) (by omega) ?_
    refine E_addI (by omega) (by omega) ?_
    refine E_addI (by omega) (by omega) ?_
    exact hk1
  · have hie : i = L.length := by omega
    subst hie
    rw [List.take_length]
    refine E_mulI (by omega) (by omega) ?_
    refine E_leq ?_
    have e : decide ((sizeL L : Int) ≤ 128 * (wd : Int)) = decide (sizeL L ≤ 128 * wd) := by rw [decide_eq_decide]; omega
    rw [e]
    exact h
end Go.Proofs.YtmbfmkiagdhcoaaGreat.Pk
end
section
namespace Go.Proofs.YtmbfmkiagdhcoaaGreat.Pk
open Go Go.SL Go.Proofs Go.Proofs.YtmbfmkiagdhcoaaGreat.Sh Go.Proofs.YtmbfmkiagdhcoaaGreat.Oct Go.Proofs.YtmbfmkiagdhcoaaGreat.Disk Go.Proofs.YtmbfmkiagdhcoaaGreat.Slot
variable {B : World} {H : List Asrt} {K : Value → WT} {W : WT}
attribute [local irreducible] S.pick S.ld S.ldN S.st S.box S.nc S.fad S.ixS S.ixA S.chr S.prt S.ext S.bin S.sh S.sbin S.beq S.neg1 S.com1 S.not1 S.cvt S.str1 S.lenS S.len S.cap S.lenM S.mx S.mn S.mkM S.cond S.gd S.fa S.dr S.rck S.join S.loop S.cvv S.eqv S.slc S.slcS S.b2s S.lk V U CF Gives E cel mpb osl ros dct dit itr lpo dfo
theorem raddTail {a id wd : Nat} {L : Ch} {v w : Value} {b : List UInt8} [CellI v] [CellI w] (hp : POk id wd L) (h1 : 1 ≤ b.length) (h2 : b.length ≤ 512) (h3 : L.length < 64)
    (h : ∀ x y : Int, E B (rpk a id wd (addL wd L b) :: H) (K (.tuple #[I x, I y]))) :
    E B (cel true a 47 [I id, I wd, v] :: sls cS 9 1 w (L ++ [b]) :: sls cS 9 1 v L :: H)
      (S.nc (ptr a) fun v33 => S.fad v33 1 fun v34 => S.ld v34 fun v35 => CF Tryz.prog 63 [w, v35] fun v36 => S.not1 v36 fun v37 => S.cond v37 (K (.tuple #[I 0, I 8]))
        (S.nc (ptr a) fun v40 => S.fad v40 2 fun v41 => S.st 1 v41 w fun _ => S.len w fun v43 => S.bin .sub v43 (I 1) fun v44 => K (.tuple #[v44, I 0]))) := by
  obtain ⟨p1, p2, p3, p4, p5, p6⟩ := hp
  have hsz : sizeL (L ++ [b]) = 128 + L.flatten.length + b.length + 34 * (L.length + 1) := by
    unfold sizeL
    simp only [List.flatten_append, List.flatten_cons, List.flatten_nil, List.append_nil, List.length_append, List.length_cons, List.length_nil]
    omega
  unfold addL fitsB at h
  refine E_nc ?_
  refine E_fad0 ?_
  refine E_ld ?_
  refine rfits (v := w) (L := L ++ [b]) (by rw [hsz]; omega) (by omega) ?_
  rw [hsz]
  refine E_not ?_
  refine E_if (fun hc => ?_) (fun hc => ?_)
  · rw [if_neg (by omega)] at h
    refine fd (a := sls cS 9 1 v L) ?_
    refine fd (a := cel true a 47 [I id, I wd, v]) ?_
    refine E_rpkS ?_
    exact sm (h 0 8)
  · rw [if_pos (by omega)] at h
    refine E_nc ?_
    refine E_fad0 ?_
    refine E_st ?_
    refine E_rslen (v := w) (l := L ++ [b]) ?_
    have hl : (L ++ [b]).length = L.length + 1 := by simp
    refine E_subI (by omega) (by omega) ?_
    refine E_rpkS ?_
    exact sm (h _ 0)
theorem rpadd {a id wd : Nat} {L : Ch} {bv : Value} {b : List UInt8} [CellI bv] [hb : Rb B H bv b] (hp : POk id wd L) (hbl : b.length ≤ 140737488351232)
    (h : ∀ x y : Int, E B (rpk a id wd (addL wd L b) :: H) (K (.tuple #[I x, I y]))) : E B (rpk a id wd L :: H) (CF Tryz.prog 33 [ptr a, bv] K) := by
  have hp' := hp
  obtain ⟨p1, p2, p3, p4, p5, p6⟩ := hp'
  refine E_mono (W := s33 _ _ K) ?_ fun _ => c33
  unfold s33
  have hh := h
  unfold addL at h
  refine E_join1 (n := 3) [ptr a, bv, .bool (decide (b.length < 1 ∨ 512 < b.length))] (rpk a id wd L :: H) (fun q hq => ?_) ?_
  · refine E_rslen (v := bv) (l := b) ?_
    refine E_lss ?_
    by_cases h1 : b.length < 1
    · rw [decide_eq_true (.inl h1)] at hq
      rw [decide_eq_true (show (b.length : Int) < 1 by omega)]
      (repeat first | refine gS ?_ | refine gA fun _ => ?_ | refine gX fun _ _ => ?_ | refine gT ?_ | refine gF ?_ | refine gI ?_)
      exact hq
    · have e : decide (b.length < 1 ∨ 512 < b.length) = decide ((512 : Int) < (b.length : Int)) := by rw [decide_eq_decide]; omega
      rw [e] at hq
      rw [decide_eq_false (show ¬ (b.length : Int) < 1 by omega)]
      refine E_gft ?_
      refine E_gft ?_
      refine E_rslen (v := bv) (l := b) ?_
      refine E_gft ?_
      refine E_gtr ?_
      refine E_pff ?_
      exact hq
  refine E_fa fun _ => ?_
  refine E_if (fun hc => ?_) (fun hc => ?_)
  · rw [if_neg (by omega)] at h
    exact h 0 2
  refine E_rpk fun v _ => ?_
  refine E_nc ?_
  refine E_fad0 ?_
  refine E_ld ?_
  refine E_rslen (v := v) (l := L) ?_
  refine E_geq ?_
  refine E_if (fun hc2 => ?_) (fun hc2 => ?_)
  · rw [if_neg (by omega)] at h
    exact E_rpkS (h 0 6)
  clear h
  have tl := fun (w : Value) (_ : CellI w) => raddTail (a := a) (v := v) (w := w) (b := b) (H := H) (K := K) hp (by omega) (by omega) (by omega) hh
  refine E_dr ?_
  refine E_nc ?_
  refine E_fad0 ?_
  refine E_ld ?_
  refine E_b2sR (v := bv) (bs := b) ?_
  have hbt : ∀ (w : Value) (l : Ch) [CellI w], l = L → E B (sls cS 9 1 w (l ++ [b]) :: cel true a 47 [I id, I wd, v] :: sls cS 9 1 v L :: H) (S.nc (ptr a) fun v33 => S.fad v33 1 fun v34 => S.ld v34 fun v35 => CF Tryz.prog 63 [w, v35] fun v36 => S.not1 v36 fun v37 => S.cond v37 (K (.tuple #[I 0, I 8]))
        (S.nc (ptr a) fun v40 => S.fad v40 2 fun v41 => S.st 1 v41 w fun _ => S.len w fun v43 => S.bin .sub v43 (I 1) fun v44 => K (.tuple #[v44, I 0]))) := fun w l i e => by
    subst e
    exact sm (tl w i)
  refine E_both ?_ ?_
  · refine E_sbsl0 cS u_strsP elt_strP fun v21 _ => ?_
    refine E_rck1 (E_b2sR (v := bv) (bs := b) (E_fact rfl)) (E_rck1 (E_ld (E_fact rfl)) (E_rck0 ?_))
    refine E_both ?_ ?_
    · refine E_sapps (enc := cS) (u := v) (m := L) u_strsP elt_strP (by simp; omega) (by simp; omega) fun v26 _ => ?_
      rw [List.nil_append]
      refine E_rck1 (E_b2sR (v := bv) (bs := b) (E_fact rfl)) (E_rck0 ?_)
      refine E_sapp1 (enc := cS) (xv := str b) b u_strsP elt_strP rfl (by omega) (by omega) (by omega) fun w i => ?_
      exact hbt w L rfl
    · refine Dig.E_bslK u_strsP elt_strP (by omega) (fillS1 b) fun bb => ?_
      refine E_slsC (enc := cS) (sz := 1) [b] 1 rfl rfl ?_
      refine E_rck1 (E_ld (E_fact rfl)) (E_rck0 ?_)
      refine fd (a := sls cS 9 1 v21 []) ?_
      refine E_sapps (enc := cS) (u := v) (m := L) u_strsP elt_strP (by simp; omega) (by simp; omega) fun v26 _ => ?_
      rw [List.nil_append]
      refine E_sapps (enc := cS) (u := .slice (some ⟨bb, 0, none⟩) 1 1) (m := [b]) u_strsP elt_strP (by simp; omega) (by simp; omega) fun w i => ?_
      exact sm (hbt w L rfl)
  · refine Dig.E_bslK u_strsP elt_strP (by omega) (fillS1 b) fun bb => ?_
    refine E_slsC (enc := cS) (sz := 1) [b] 1 rfl rfl ?_
    refine E_rck1 (E_ld (E_fact rfl)) (E_rck0 ?_)
    refine E_sbsl0 cS u_strsP elt_strP fun v21 _ => ?_
    refine E_rck1 (E_ld (E_fact rfl)) (E_rck0 ?_)
    refine E_sapps (enc := cS) (u := v) (m := L) u_strsP elt_strP (by simp; omega) (by simp; omega) fun v26 _ => ?_
    rw [List.nil_append]
    refine E_sapps (enc := cS) (u := .slice (some ⟨bb, 0, none⟩) 1 1) (m := [b]) u_strsP elt_strP (by simp; omega) (by simp; omega) fun w i => ?_
    exact sm (hbt w L rfl)
end Go.Proofs.YtmbfmkiagdhcoaaGreat.Pk
end
section
namespace Go.Proofs.YtmbfmkiagdhcoaaGreat.Pk
open Go Go.SL Go.Proofs Go.Proofs.YtmbfmkiagdhcoaaGreat.Sh Go.Proofs.YtmbfmkiagdhcoaaGreat.Oct Go.Proofs.YtmbfmkiagdhcoaaGreat.Disk Go.Proofs.YtmbfmkiagdhcoaaGreat.Slot
variable {B : World} {H : List Asrt} {K : Value → WT} {W : WT}
abbrev Pr := Ext.Rn
def fixL (ps : List Pr) : List UInt8 := ps.flatMap fun p => be p.1 p.2
theorem fix_suc {ps : List Pr} {i : Nat} {p : Pr} (h : ps[i]? = some p) : fixL (ps.take (i + 1)) = fixL (ps.take i) ++ be p.1 p.2 := by
  unfold fixL
  rw [List.take_add_one, h, List.flatMap_append]; simp
structure FOk (p : Pr) : Prop where
  lo : 1 ≤ p.2
  hi : p.2 ≤ 8
  lt : p.1 < 256 ^ p.2
  le : p.1 ≤ 9007199254740991
theorem fix_len {ps : List Pr} (h : ∀ p ∈ ps, FOk p) : (fixL ps).length ≤ 8 * ps.length := by
  induction ps with
  | nil => simp [fixL]
  | cons p ps ih =>
    have h1 := ih fun q hq => h q (List.mem_cons_of_mem _ hq)
    have h2 := (h p (List.mem_cons_self ..)).hi
    unfold fixL at h1 ⊢
    rw [List.flatMap_cons, List.length_append, be_length, List.length_cons]; omega
def tableL (L : Ch) : List UInt8 := L.flatMap fun b => Dig.sum b ++ be b.length 2
def headA (id : Nat) (L : Ch) : List UInt8 := [66, 73, 78, 49] ++ fixL [(id, 4), (L.length, 2), (L.flatten.length, 4), ((crcS (tableL L)).toNat, 4)]
def headL (id : Nat) (L : Ch) : List UInt8 := headA id L ++ be (crcS (headA id L)).toNat 4
def bodyL (id : Nat) (L : Ch) : List UInt8 := headL id L ++ List.replicate 106 0 ++ L.flatten ++ tableL L
def imgL (id : Nat) (L : Ch) : List UInt8 := bodyL id L ++ List.replicate ((128 - (bodyL id L).length % 128) % 128) 0
theorem table_len (L : Ch) : (tableL L).length = 34 * L.length := by
  unfold tableL
  induction L with
  | nil => rfl
  | cons b L ih => rw [List.flatMap_cons, List.length_append, ih, List.length_append, Dig.sum_len, be_length, List.length_cons]; omega
theorem table_suc {L : Ch} {i : Nat} {b : List UInt8} (h : L[i]? = some b) : tableL (L.take (i + 1)) = tableL (L.take i) ++ (Dig.sum b ++ be b.length 2) := by
  unfold tableL
  rw [List.take_add_one, h, List.flatMap_append]; simp
theorem headA_len (id : Nat) (L : Ch) : (headA id L).length = 18 := by simp [headA, fixL, be_length]
theorem headL_len (id : Nat) (L : Ch) : (headL id L).length = 22 := by simp [headL, headA_len, be_length]
theorem body_len (id : Nat) (L : Ch) : (bodyL id L).length = 128 + L.flatten.length + 34 * L.length := by
  unfold bodyL
  simp only [List.length_append, headL_len, List.length_replicate, table_len]
attribute [local irreducible] S.pick S.ld S.ldN S.st S.box S.nc S.fad S.ixS S.ixA S.chr S.prt S.ext S.bin S.sh S.sbin S.beq S.neg1 S.com1 S.not1 S.cvt S.str1 S.lenS S.len S.cap S.lenM S.mx S.mn S.mkM S.cond S.gd S.fa S.dr S.rck S.join S.loop S.cvv S.eqv S.slc S.slcS S.b2s S.lk V U CF Gives E cel mpb osl ros dct dit itr lpo dfo
theorem pkfix {v pv : Value} {l : List UInt8} {ps : List Pr} [hv : Rs B H pv Ext.cR ps] [CellI v] (hp : ∀ p ∈ ps, FOk p) (hl : l.length ≤ 1000000) (hn : ps.length ≤ 100) (h : ∀ v' [CellI v'], E B (sls cB 5 1 v' (l ++ fixL ps) :: H) (K v')) :
    E B (sls cB 5 1 v l :: H) (CF Tryz.prog 64 [v, pv] K) := by
  refine E_mono (W := s64 _ _ K) ?_ fun _ => c64
  unfold s64
  refine E_rslen (v := pv) (l := ps) ?_
  refine E_loop (n := 4) (σ := Nat × Cv) (fun s => s.1 ≤ ps.length) (fun s => [s.2.1, pv, I ps.length, I s.1]) (fun s => sls cB 5 1 s.2.1 (l ++ fixL (ps.take s.1)) :: H) (fun s => ps.length - s.1) (0, ⟨v, CellI.pf⟩) (fun _ => rfl) rfl (Nat.zero_le _) (fun W hW => by
    have e : l ++ fixL (ps.take 0) = l := by simp [fixL]
    simp only [e] at hW
    exact hW) ?_
  rintro ⟨i, o, hco⟩ K0 hi hk
  simp only at hi hk ⊢
  have : CellI o := ⟨hco⟩
  refine E_fa fun _ => ?_
  refine E_lss ?_
  refine E_if (fun hc => ?_) (fun hc => ?_)
  · have hx : ps[i]? = some (ps[i]'(by omega)) := List.getElem?_eq_getElem (by omega)
    obtain ⟨f1, f2, f3, f4⟩ := hp _ (List.getElem_mem (show i < ps.length by omega))
    generalize (ps[i]'(by omega)) = p at hx f1 f2 f3 f4
    have hk1 := fun x : Cv => hk (i + 1, x) (by simp only; omega) (by simp only; omega)
    simp only [fix_suc hx, ← List.append_assoc] at hk1
    have hfl := fix_len (ps := ps.take i) fun q hq => hp q (List.mem_of_mem_take hq)
    rw [List.length_take] at hfl
    refine E_rsix (v := pv) (l := ps) hx fun _ _ => ?_
    refine E_ptldA ?_
    refine gA fun x6 => ?_
    refine gS ?_
    refine Dig.E_wdA (n := 0) (by omega) ?_
    refine E_ld' (v := I p.1) rfl ?_
    refine Dig.E_wdA (n := 1) (by omega) ?_
    refine E_ld' (v := I p.2) rfl ?_
    refine fixed f1 f2 f3 f4 fun w _ => ?_
    refine E_ext ?_
    refine E_ext ?_
    refine fd (a := sls cB 5 1 o (l ++ fixL (ps.take i))) ?_
    refine E_sapps (enc := cB) (u := w) (m := be p.1 p.2) Dig.u_bytesD Dig.elt_byteD (by simp only [List.length_append, be_length]; omega) (by simp only [List.length_append, be_length]; omega) fun v' i' => ?_
    refine E_addI (by omega) (by omega) ?_
    exact sm (hk1 ⟨v', i'.pf⟩)
  · have hie : i = ps.length := by omega
    subst hie
    rw [List.take_length]
    exact h o
end Go.Proofs.YtmbfmkiagdhcoaaGreat.Pk
end
section
namespace Go.Proofs.YtmbfmkiagdhcoaaGreat.Pk
open Go Go.SL Go.Proofs Go.Proofs.YtmbfmkiagdhcoaaGreat.Sh Go.Proofs.YtmbfmkiagdhcoaaGreat.Oct Go.Proofs.YtmbfmkiagdhcoaaGreat.Disk Go.Proofs.YtmbfmkiagdhcoaaGreat.Slot
variable {B : World} {H : List Asrt} {K : Value → WT} {W : WT}
theorem u_pairs : Tryz.prog.underlying 174 = some (.slice 142) := by kernel_rfl
theorem elt_pair : Elt Tryz.prog 142 2 16 [I 0, I 0] := elt_of (zv := .agg #[I 0, I 0]) (by kernel_rfl) rfl rfl
theorem buildP (x y : Int) (w : World) : (Instr.build 142 #[(0, I x), (1, I y)]).run Tryz.prog w = .ok (.agg #[I x, I y]) w := by kernel_rfl
theorem fill4V {a b c d : Value} (ha : isCell a = true) (hb : isCell b = true) (hc : isCell c = true) (hd : isCell d = true) : Instr.fill (fun i => some (i * 1, 1)) (rep 4 [nil]).toArray [(0, a), (1, b), (2, c), (3, d)] = some #[a, b, c, d] := by
  have e : (rep 4 [nil]).toArray = #[nil, nil, nil, nil] := rfl
  rw [e]
  simp [Instr.fill, Ext.cells_one ha, Ext.cells_one hb, Ext.cells_one hc, Ext.cells_one hd]
theorem crc_lt (l : List UInt8) : (crcS l).toNat < 4294967296 := (crcS l).isLt
attribute [local irreducible] S.pick S.ld S.ldN S.st S.box S.nc S.fad S.ixS S.ixA S.chr S.prt S.ext S.bin S.sh S.sbin S.beq S.neg1 S.com1 S.not1 S.cvt S.str1 S.lenS S.len S.cap S.lenM S.mx S.mn S.mkM S.cond S.gd S.fa S.dr S.rck S.join S.loop S.cvv S.eqv S.slc S.slcS S.b2s S.lk V U CF Gives E cel mpb osl ros dct dit itr lpo dfo
theorem bytesTail {a id wd : Nat} {L : Ch} {v u tv w : Value} [CellI v] [CellI u] [CellI tv] [CellI w] (hp : POk id wd L)
    (h : ∀ x [CellI x], E B (sls cB 5 1 x (imgL id L) :: pck a id wd L :: H) (K x)) :
    E B (sls cB 5 1 w (headA id L) :: sls cB 5 1 tv (tableL L) :: cel true a 137 [I id, I wd, v, u] :: sls cSl 109 34 v (slotsL 128 L) :: sls cB 5 1 u L.flatten :: H)
      (CF Tryz.prog 65 [w] fun v55 => S.cvt .i64 v55 fun v56 => V Tryz.prog (Instr.build 142 #[(0, v56), (1, I 4)]) fun v57 => V Tryz.prog (Instr.buildSlice 174 1 #[(0, v57)]) fun v58 =>
        CF Tryz.prog 64 [w, v58] fun v59 => S.dr <| S.len v59 fun v62 => S.bin .sub (I 128) v62 fun v63 => S.nc (ptr a) fun v66 => S.fad v66 3 fun v67 => S.ld v67 fun v68 =>
        V Tryz.prog (Instr.makeSlice 48 v63 v63) fun v64 => S.rck [S.ld v67 (fun v' _ => v' = v68)] <| V Tryz.prog (Instr.buildSlice 22 4 #[(0, v59), (1, v64), (2, v68), (3, tv)]) fun v70 =>
        CF Tryz.prog 62 [v70] fun v71 => S.len v71 fun v74 => S.bin .rem v74 (I 128) fun v75 => S.bin .sub (I 128) v75 fun v76 => S.bin .rem v76 (I 128) fun v77 =>
        V Tryz.prog (Builtin.append_ #[48, 3] 48 #[v71, v77]) fun v78 => K v78) := by
  obtain ⟨p1, p2, p3, p4, p5, p6⟩ := hp
  have hA := headA_len id L
  have hC := crc_lt (headA id L)
  refine crc (v := w) (bs := headA id L) (by omega) ?_
  refine E_cvtI (by omega) (by omega) ?_
  refine Dig.E_Vr (buildP _ _) ?_
  refine Dig.E_bslK u_pairs elt_pair (by omega) (Ext.fill1 _ _) fun bp => ?_
  refine E_slsC (enc := Ext.cR) (sz := 2) [((crcS (headA id L)).toNat, 4)] 1 rfl rfl ?_
  refine fd (a := sls cB 5 1 w (headA id L)) ?_
  refine pkfix (v := w) (pv := .slice (some ⟨bp, 0, none⟩) 1 1) (ps := [((crcS (headA id L)).toNat, 4)]) (fun q hq => by
    simp at hq
    subst hq
    exact ⟨by omega, by omega, by simp only; omega, by simp only; omega⟩) (by omega) (by simp) fun v59 i59 => ?_
  have eH : headA id L ++ fixL [((crcS (headA id L)).toNat, 4)] = headL id L := by simp [headL, fixL]
  rw [eH]
  have hH := headL_len id L
  refine E_dr ?_
  refine E_rslen (v := v59) (l := headL id L) ?_
  refine E_subI (by omega) (by omega) ?_
  refine E_nc ?_
  refine E_fad0 ?_
  refine E_ld ?_
  rw [show (128 : Int) - ((headL id L).length : Int) = ((106 : Nat) : Int) by omega]
  refine E_mkS (sz := 1) (z := [.int .u8 0]) Dig.u_bytesD Dig.elt_byteD (by omega) (by omega) (by omega) (by omega) fun b64 => ?_
  rw [show ((106 : Nat) : Int).toNat = 106 from rfl, rep_cB]
  refine E_slsC (enc := cB) (sz := 1) (List.replicate 106 (0 : UInt8)) 106 rfl rfl ?_
  refine E_rck1 (E_ld (E_fact rfl)) (E_rck0 ?_)
  refine Dig.E_bslK u_bytess elt_bytesP (by omega) (fill4V CellI.pf rfl CellI.pf CellI.pf) fun bb => ?_
  refine E_slsC (enc := cV) (sz := 1) [⟨v59, headL id L, CellI.pf⟩, ⟨.slice (some ⟨b64, 0, none⟩) 106 106, List.replicate 106 0, rfl⟩, ⟨u, L.flatten, CellI.pf⟩, ⟨tv, tableL L, CellI.pf⟩] 4 rfl rfl ?_
  have hcat : catL [⟨v59, headL id L, CellI.pf⟩, ⟨.slice (some ⟨b64, 0, none⟩) 106 106, List.replicate 106 0, rfl⟩, ⟨u, L.flatten, CellI.pf⟩, ⟨tv, tableL L, CellI.pf⟩] = bodyL id L := by
    unfold catL bodyL
    simp only [List.flatMap_cons, List.flatMap_nil, List.append_nil, List.append_assoc]
  have hB := body_len id L
  refine concat (l := [⟨v59, headL id L, CellI.pf⟩, ⟨.slice (some ⟨b64, 0, none⟩) 106 106, List.replicate 106 0, rfl⟩, ⟨u, L.flatten, CellI.pf⟩, ⟨tv, tableL L, CellI.pf⟩]) (hv := fun Q => Ext.rs_app Q inferInstance) (fun y hy Q => ?_) (by rw [hcat]; omega) (by rw [hcat]; omega) (by simp) fun v71 i71 => ?_
  · refine Ext.rs_app Q ?_
    simp only [List.mem_cons, List.not_mem_nil, or_false] at hy
    rcases hy with rfl | rfl | rfl | rfl
    · exact inferInstance
    · exact inferInstance
    · exact inferInstance
    · exact inferInstance
  · rw [hcat]
    refine E_rslen (v := v71) (l := bodyL id L) ?_
    refine Dig.E_rem0 (b := 128) (by decide) ?_
    refine E_subI (by omega) (by omega) ?_
    rw [show (128 : Int) - (((bodyL id L).length % 128 : Nat) : Int) = ((128 - (bodyL id L).length % 128 : Nat) : Int) by omega]
    refine Dig.E_rem0 (b := 128) (by decide) ?_
    refine E_bz Dig.u_bytesD Ext.u_int Dig.elt_byteD (by omega) fun x ix => ?_
    refine fd (a := sls cB 5 1 u L.flatten) ?_
    refine fd (a := sls cSl 109 34 v (slotsL 128 L)) ?_
    refine fd (a := cel true a 137 [I id, I wd, v, u]) ?_
    refine E_pkS ?_
    have h' := h x
    unfold imgL at h'
    exact sm h'
end Go.Proofs.YtmbfmkiagdhcoaaGreat.Pk
end
section
namespace Go.Proofs.YtmbfmkiagdhcoaaGreat.Pk
open Go Go.SL Go.Proofs Go.Proofs.YtmbfmkiagdhcoaaGreat.Sh Go.Proofs.YtmbfmkiagdhcoaaGreat.Oct Go.Proofs.YtmbfmkiagdhcoaaGreat.Disk Go.Proofs.YtmbfmkiagdhcoaaGreat.Slot
variable {B : World} {H : List Asrt} {K : Value → WT} {W : WT}
theorem fillN : Instr.fill (fun i => some (i * 1, 1)) (rep 4 [.int .u8 0]).toArray [(0, .int .u8 66), (1, .int .u8 73), (2, .int .u8 78), (3, .int .u8 49)] = some #[.int .u8 66, .int .u8 73, .int .u8 78, .int .u8 49] := by kernel_rfl
theorem fill4P (a b c d e f g h : Int) : Instr.fill (fun i => some (i * 2, 2)) (rep 4 [I 0, I 0]).toArray [(0, .agg #[I a, I b]), (1, .agg #[I c, I d]), (2, .agg #[I e, I f]), (3, .agg #[I g, I h])] = some #[I a, I b, I c, I d, I e, I f, I g, I h] := by kernel_rfl
attribute [local irreducible] S.pick S.ld S.ldN S.st S.box S.nc S.fad S.ixS S.ixA S.chr S.prt S.ext S.bin S.sh S.sbin S.beq S.neg1 S.com1 S.not1 S.cvt S.str1 S.lenS S.len S.cap S.lenM S.mx S.mn S.mkM S.cond S.gd S.fa S.dr S.rck S.join S.loop S.cvv S.eqv S.slc S.slcS S.b2s S.lk V U CF Gives E cel mpb osl ros dct dit itr lpo dfo
theorem headMid {a id wd b28 b51 : Nat} {L : Ch} {v u tv : Value} [CellI v] [CellI u] [CellI tv] (hp : POk id wd L)
    (h : ∀ x [CellI x], E B (sls cB 5 1 x (imgL id L) :: pck a id wd L :: H) (K x)) :
    E B (cel true b28 5 [.int .u8 66, .int .u8 73, .int .u8 78, .int .u8 49] :: cel true b51 142 [I id, I 4, I L.length, I 2, I L.flatten.length, I 4, I (crcS (tableL L)).toNat, I 4] :: sls cB 5 1 tv (tableL L) :: cel true a 137 [I id, I wd, v, u] :: sls cSl 109 34 v (slotsL 128 L) :: sls cB 5 1 u L.flatten :: H)
      (CF Tryz.prog 64 [.slice (some ⟨b28, 0, none⟩) 4 4, .slice (some ⟨b51, 0, none⟩) 4 4] fun w => CF Tryz.prog 65 [w] fun v55 => S.cvt .i64 v55 fun v56 => V Tryz.prog (Instr.build 142 #[(0, v56), (1, I 4)]) fun v57 => V Tryz.prog (Instr.buildSlice 174 1 #[(0, v57)]) fun v58 =>
        CF Tryz.prog 64 [w, v58] fun v59 => S.dr <| S.len v59 fun v62 => S.bin .sub (I 128) v62 fun v63 => S.nc (ptr a) fun v66 => S.fad v66 3 fun v67 => S.ld v67 fun v68 =>
        V Tryz.prog (Instr.makeSlice 48 v63 v63) fun v64 => S.rck [S.ld v67 (fun v' _ => v' = v68)] <| V Tryz.prog (Instr.buildSlice 22 4 #[(0, v59), (1, v64), (2, v68), (3, tv)]) fun v70 =>
        CF Tryz.prog 62 [v70] fun v71 => S.len v71 fun v74 => S.bin .rem v74 (I 128) fun v75 => S.bin .sub (I 128) v75 fun v76 => S.bin .rem v76 (I 128) fun v77 =>
        V Tryz.prog (Builtin.append_ #[48, 3] 48 #[v71, v77]) fun v78 => K v78) := by
  have hp' := hp
  obtain ⟨p1, p2, p3, p4, p5, p6⟩ := hp'
  have hC := crc_lt (tableL L)
  refine fd (a := cel true b51 142 [I id, I 4, I L.length, I 2, I L.flatten.length, I 4, I (crcS (tableL L)).toNat, I 4]) ?_
  refine E_slsC (enc := Ext.cR) (sz := 2) [(id, 4), (L.length, 2), (L.flatten.length, 4), ((crcS (tableL L)).toNat, 4)] 4 rfl rfl ?_
  refine fd (a := cel true b28 5 [.int .u8 66, .int .u8 73, .int .u8 78, .int .u8 49]) ?_
  refine E_slsC (enc := cB) (sz := 1) [66, 73, 78, 49] 4 rfl rfl ?_
  refine pkfix (v := .slice (some ⟨b28, 0, none⟩) 4 4) (pv := .slice (some ⟨b51, 0, none⟩) 4 4) (ps := [(id, 4), (L.length, 2), (L.flatten.length, 4), ((crcS (tableL L)).toNat, 4)]) (fun q hq => by
    simp only [List.mem_cons, List.not_mem_nil, or_false] at hq
    rcases hq with rfl | rfl | rfl | rfl
    · exact ⟨by omega, by omega, by simp only; omega, by simp only; omega⟩
    · exact ⟨by omega, by omega, by simp only; omega, by simp only; omega⟩
    · exact ⟨by omega, by omega, by simp only; omega, by simp only; omega⟩
    · exact ⟨by omega, by omega, by simp only; omega, by simp only; omega⟩) (by simp) (by simp) fun w iw => ?_
  have eA : [66, 73, 78, 49] ++ fixL [(id, 4), (L.length, 2), (L.flatten.length, 4), ((crcS (tableL L)).toNat, 4)] = headA id L := rfl
  rw [eA]
  refine sm (G := sls cB 5 1 w (headA id L) :: sls cB 5 1 tv (tableL L) :: cel true a 137 [I id, I wd, v, u] :: sls cSl 109 34 v (slotsL 128 L) :: sls cB 5 1 u L.flatten :: H) ?_
  exact bytesTail hp h
end Go.Proofs.YtmbfmkiagdhcoaaGreat.Pk
end
section
namespace Go.Proofs.YtmbfmkiagdhcoaaGreat.Pk
open Go Go.SL Go.Proofs Go.Proofs.YtmbfmkiagdhcoaaGreat.Sh Go.Proofs.YtmbfmkiagdhcoaaGreat.Oct Go.Proofs.YtmbfmkiagdhcoaaGreat.Disk Go.Proofs.YtmbfmkiagdhcoaaGreat.Slot
variable {B : World} {H : List Asrt} {K : Value → WT} {W : WT}
theorem E_slcA {P : Program} {t e n b sz : Nat} (hu : P.underlying t = some (.array n e)) (hs : (P.info? e).map (fun i => i.size) = some sz) (h : E B H (K (.slice (some ⟨b, 0, none⟩) n n))) : E B H (V P (Instr.sliceAt t (.pointer (some ⟨b, 0, none⟩)) none none none) K) := by
  obtain ⟨i, hi, _⟩ := Option.map_eq_some_iff.1 hs
  refine E_Vok fun w hw => ⟨_, w, ?_, h w hw⟩
  unfold Instr.sliceAt
  rw [run_bind, run_underlying' hu]
  simp only [Instr.sureAddr, Instr.sliceBounds, run_bind, run_pure, run_size' hi]
  congr 2
  simp [Addr.add]
theorem u_a32 : Tryz.prog.underlying 107 = some (.array 32 5) := by kernel_rfl
theorem size_byte : (Tryz.prog.info? 5).map (fun i => i.size) = some 1 := by kernel_rfl
theorem slots_get {p : Nat} {L : Ch} {i : Nat} {b : List UInt8} (h : L[i]? = some b) : ∃ q, (slotsL p L)[i]? = some ⟨Dig.sum b, q, b.length, Dig.sum_len b⟩ := by
  induction L generalizing p i with
  | nil => simp at h
  | cons c L ih =>
    cases i with
    | zero =>
      simp only [List.getElem?_cons_zero, Option.some.injEq] at h
      subst h
      exact ⟨p, rfl⟩
    | succ i =>
      simp only [List.getElem?_cons_succ] at h
      obtain ⟨q, hq⟩ := ih (p := p + c.length) h
      exact ⟨q, by simpa [slotsL] using hq⟩
theorem cSl_last (s : Sl) : (cSl s)[33]? = some (I s.len) := by
  have h : (bcs s.sum).length = 32 := by rw [Dig.bcs_len, s.hs]
  rw [List.getElem?_append_right (by omega), h]; rfl
theorem rs_sum {b : Nat} {κ : Bool} {T : TypeId} {s : Sl} [hf : HasC H b κ T (cSl s)] : Rs B H (.slice (some ⟨b, 0, none⟩) 32 32) cB s.sum := ⟨fun hw => by
  refine .inr ⟨⟨b, 0, none⟩, 32, by rw [s.hs], by rw [s.hs]; exact Nat.le_refl _, fun j hj => ?_⟩
  rw [add_at, Nat.zero_add, sat_cell (hf := hf) hw, bcs_enc]
  rw [bcs_enc] at hj
  exact List.getElem?_append_left hj⟩
attribute [local irreducible] S.pick S.ld S.ldN S.st S.box S.nc S.fad S.ixS S.ixA S.chr S.prt S.ext S.bin S.sh S.sbin S.beq S.neg1 S.com1 S.not1 S.cvt S.str1 S.lenS S.len S.cap S.lenM S.mx S.mn S.mkM S.cond S.gd S.fa S.dr S.rck S.join S.loop S.cvv S.eqv S.slc S.slcS S.b2s S.lk V U CF Gives E cel mpb osl ros dct dit itr lpo dfo
theorem rowMid {b25 : Nat} {w : Value} {l : List UInt8} {n : Nat} [CellI w] (hn : n ≤ 512) (hl : l.length ≤ 100000) (h : ∀ x [CellI x], E B (sls cB 5 1 x (l ++ be n 2) :: H) (K x)) :
    E B (sls cB 5 1 w l :: cel true b25 142 [I n, I 2] :: H) (CF Tryz.prog 64 [w, .slice (some ⟨b25, 0, none⟩) 1 1] K) := by
  refine fd (a := cel true b25 142 [I n, I 2]) ?_
  refine E_slsC (enc := Ext.cR) (sz := 2) [(n, 2)] 1 rfl rfl ?_
  refine fd (a := sls cB 5 1 w l) ?_
  refine pkfix (v := w) (pv := .slice (some ⟨b25, 0, none⟩) 1 1) (ps := [(n, 2)]) (fun q hq => by
    simp only [List.mem_cons, List.not_mem_nil, or_false] at hq
    subst hq
    exact ⟨by omega, by omega, by simp only; omega, by simp only; omega⟩) (by omega) (by simp) fun x _ => ?_
  have e : l ++ fixL [(n, 2)] = l ++ be n 2 := by simp [fixL]
  rw [e]
  exact sm (h x)
end Go.Proofs.YtmbfmkiagdhcoaaGreat.Pk
end
section
namespace Go.Proofs.YtmbfmkiagdhcoaaGreat.Pk
open Go Go.SL Go.Proofs Go.Proofs.YtmbfmkiagdhcoaaGreat.Sh Go.Proofs.YtmbfmkiagdhcoaaGreat.Oct Go.Proofs.YtmbfmkiagdhcoaaGreat.Disk Go.Proofs.YtmbfmkiagdhcoaaGreat.Slot
variable {B : World} {H : List Asrt} {K : Value → WT} {W : WT}
theorem u_byteP : Tryz.prog.underlying 5 = some (.int .u8) := by kernel_rfl
attribute [local irreducible] S.pick S.ld S.ldN S.st S.box S.nc S.fad S.ixS S.ixA S.chr S.prt S.ext S.bin S.sh S.sbin S.beq S.neg1 S.com1 S.not1 S.cvt S.str1 S.lenS S.len S.cap S.lenM S.mx S.mn S.mkM S.cond S.gd S.fa S.dr S.rck S.join S.loop S.cvv S.eqv S.slc S.slcS S.b2s S.lk V U CF Gives E cel mpb osl ros dct dit itr lpo dfo
set_option maxRecDepth 100000 in
theorem pkbytes {a id wd : Nat} {L : Ch} (hp : POk id wd L) (h : ∀ x [CellI x], E B (sls cB 5 1 x (imgL id L) :: pck a id wd L :: H) (K x)) :
    E B (pck a id wd L :: H) (CF Tryz.prog 35 [ptr a] K) := by
  have hp' := hp
  obtain ⟨p1, p2, p3, p4, p5, p6⟩ := hp'
  refine E_mono (W := s35 _ K) ?_ fun _ => c35
  unfold s35
  refine E_peq u_pPk ?_
  refine E_ff ?_
  refine E_pk fun v u _ _ => ?_
  refine E_nc ?_
  refine E_fad0 ?_
  refine E_ld ?_
  refine E_rslen (v := v) (l := slotsL 128 L) ?_
  rw [slots_len]
  refine sls_nil cB 1 (T := 5) ?_
  refine E_loop (n := 5) (σ := Nat × Cv) (fun s => s.1 ≤ L.length) (fun s => [ptr a, s.2.1, v, I L.length, I s.1])
    (fun s => sls cB 5 1 s.2.1 (tableL (L.take s.1)) :: cel true a 137 [I id, I wd, v, u] :: sls cSl 109 34 v (slotsL 128 L) :: sls cB 5 1 u L.flatten :: H) (fun s => L.length - s.1) (0, ⟨nil, rfl⟩) (fun _ => rfl) rfl (Nat.zero_le _) (fun W hW => hW) ?_
  rintro ⟨i, tv, htv⟩ K0 hi hk
  simp only at hi hk ⊢
  have itv : CellI tv := ⟨htv⟩
  refine E_fa fun _ => ?_
  refine E_lss ?_
  refine E_if (fun hc => ?_) (fun hc => ?_)
  · have hx : L[i]? = some (L[i]'(by omega)) := List.getElem?_eq_getElem (by omega)
    have hbl := p6 _ (List.getElem_mem (show i < L.length by omega))
    generalize (L[i]'(by omega)) = b at hx hbl
    have hk1 := fun x : Cv => hk (i + 1, x) (by simp only; omega) (by simp only; omega)
    simp only [table_suc hx, ← List.append_assoc] at hk1
    have htl := table_len (L.take i)
    rw [List.length_take] at htl
    obtain ⟨q, hq⟩ := slots_get (p := 128) hx
    generalize hs : (⟨Dig.sum b, q, b.length, Dig.sum_len b⟩ : Sl) = s at hq
    have es : s.sum = Dig.sum b := by rw [← hs]
    have el : s.len = b.length := by rw [← hs]
    have hsl : (Dig.sum b).length = 32 := Dig.sum_len b
    refine E_rsix (v := v) (l := slotsL 128 L) hq fun _ _ => ?_
    refine E_ptldN (cs := cSl s) (by rw [List.drop_zero, List.take_of_length_le (by rw [cSl_len]; omega)]) (cSl_len s) ?_
    refine E_box (v := .agg zSl.toArray) (vs := zSl) fun v5 => ?_
    refine E_stW (vs := cSl s) (cSl_len s) rfl ?_
    refine E_dr ?_
    refine E_fad0 ?_
    refine E_fad0 ?_
    refine E_ld' (cSl_last s) ?_
    rw [el]
    refine Dig.E_Vr (buildP _ _) ?_
    have fin : ∀ (w : Value) [CellI w] (b25 : Nat), E B (sls cB 5 1 w (tableL (L.take i) ++ Dig.sum b) :: cel true b25 142 [I b.length, I 2] :: cel true a 137 [I id, I wd, v, u] :: sls cSl 109 34 v (slotsL 128 L) :: sls cB 5 1 u L.flatten :: H)
        (CF Tryz.prog 64 [w, .slice (some ⟨b25, 0, none⟩) 1 1] fun v26 => S.bin .add (I i) (I 1) fun v27 => K0 (ptr a) v26 v (I L.length) v27) := fun w iw b25 => by
      refine rowMid (n := b.length) (by omega) (by rw [List.length_append]; omega) fun x ix => ?_
      refine E_addI (by omega) (by omega) ?_
      exact hk1 ⟨x, ix.pf⟩
    refine E_both ?_ ?_
    · refine E_slcA u_a32 size_byte ?_
      refine E_rck1 (E_ld' (cSl_last s) (E_fact (by rw [el]))) (E_rck0 ?_)
      refine E_both ?_ ?_
      · refine fd (a := sls cB 5 1 tv (tableL (L.take i))) ?_
        refine E_sapps (enc := cB) (u := .slice (some ⟨v5, 0, none⟩) 32 32) (m := s.sum) (hf := rs_sum) Dig.u_bytesD Dig.elt_byteD (by rw [es]; omega) (by rw [es]; omega) fun w iw => ?_
        rw [es]
        refine E_rck1 (E_ld' (cSl_last s) (E_fact (by rw [el]))) (E_rck0 ?_)
        refine Dig.E_bslK u_pairs elt_pair (by omega) (Ext.fill1 _ _) fun b25 => ?_
        exact sm (fin w b25)
      · refine Dig.E_bslK u_pairs elt_pair (by omega) (Ext.fill1 _ _) fun b25 => ?_
        refine fd (a := sls cB 5 1 tv (tableL (L.take i))) ?_
        refine E_sapps (enc := cB) (u := .slice (some ⟨v5, 0, none⟩) 32 32) (m := s.sum) (hf := rs_sum) Dig.u_bytesD Dig.elt_byteD (by rw [es]; omega) (by rw [es]; omega) fun w iw => ?_
        rw [es]
        exact sm (fin w b25)
    · refine Dig.E_bslK u_pairs elt_pair (by omega) (Ext.fill1 _ _) fun b25 => ?_
      refine E_slcA u_a32 size_byte ?_
      refine fd (a := sls cB 5 1 tv (tableL (L.take i))) ?_
      refine E_sapps (enc := cB) (u := .slice (some ⟨v5, 0, none⟩) 32 32) (m := s.sum) (hf := rs_sum) Dig.u_bytesD Dig.elt_byteD (by rw [es]; omega) (by rw [es]; omega) fun w iw => ?_
      rw [es]
      exact sm (fin w b25)
  · have hie : i = L.length := by omega
    subst hie
    rw [List.take_length]
    clear hk
    have hC := crc_lt (tableL L)
    have htl := table_len L
    have fin := fun b28 b51 => headMid (b28 := b28) (b51 := b51) (v := v) (u := u) (tv := tv) (K := K) (H := H) (a := a) hp h
    refine E_dr ?_
    refine E_nc ?_
    refine E_fad0 ?_
    refine E_ld ?_
    refine Dig.E_Vr (buildP _ _) ?_
    refine E_nc ?_
    refine E_fad0 ?_
    refine E_ld ?_
    refine E_rslen (v := v) (l := slotsL 128 L) ?_
    rw [slots_len]
    refine Dig.E_Vr (buildP _ _) ?_
    refine E_nc ?_
    refine E_fad0 ?_
    refine E_ld ?_
    refine E_rslen (v := u) (l := L.flatten) ?_
    refine Dig.E_Vr (buildP _ _) ?_
    repeat' first
      | refine E_both ?_ ?_
      | refine E_rck0 ?_
      | refine E_rck1 (E_ld (E_fact rfl)) ?_
      | refine Dig.E_bslK Dig.u_bytesD Dig.elt_byteD (by omega) fillN fun _ => ?_
      | refine Dig.E_bslK u_pairs elt_pair (by omega) (fill4P _ _ _ _ _ _ _ _) fun _ => ?_
      | refine E_cvslice Dig.u_bytesD u_byteP ?_
      | refine crc (v := tv) (bs := tableL L) (by omega) ?_
      | refine E_cvtI (by omega) (by omega) ?_
      | refine Dig.E_Vr (buildP _ _) ?_
      | exact sm (fin _ _)
end Go.Proofs.YtmbfmkiagdhcoaaGreat.Pk
end
section
namespace Go.Proofs.YtmbfmkiagdhcoaaGreat.Pk
open Go Go.SL Go.Proofs Go.Proofs.YtmbfmkiagdhcoaaGreat.Sh Go.Proofs.YtmbfmkiagdhcoaaGreat.Oct Go.Proofs.YtmbfmkiagdhcoaaGreat.Disk Go.Proofs.YtmbfmkiagdhcoaaGreat.Slot
variable {B : World} {H : List Asrt} {K : Value → WT} {W : WT}
attribute [local irreducible] S.pick S.ld S.ldN S.st S.box S.nc S.fad S.ixS S.ixA S.chr S.prt S.ext S.bin S.sh S.sbin S.beq S.neg1 S.com1 S.not1 S.cvt S.str1 S.lenS S.len S.cap S.lenM S.mx S.mn S.mkM S.cond S.gd S.fa S.dr S.rck S.join S.loop S.cvv S.eqv S.slc S.slcS S.b2s S.lk V U CF Gives E cel mpb osl ros dct dit itr lpo dfo
theorem rput {v : Value} {l : List UInt8} {n w : Nat} [hv : Rs B H v cB l] (hw1 : 1 ≤ w) (hw2 : w ≤ 8) (hn : n < 256 ^ w) (hn2 : n ≤ 9007199254740991) (hl : l.length ≤ 1000000) (h : ∀ x [CellI x], E B (sls cB 5 1 x (l ++ be n w) :: H) (K x)) :
    E B H (CF Tryz.prog 146 [v, I n, I w] K) := by
  refine E_mono (W := s146 _ _ _ K) ?_ fun _ => c146
  unfold s146
  refine rfixed hw1 hw2 hn hn2 fun p _ => ?_
  refine E_ext ?_
  refine E_ext ?_
  refine E_sbsl0 cB Dig.u_bytesD Dig.elt_byteD fun v0 _ => ?_
  have hbl := be_length n w
  refine E_sapps (enc := cB) (u := v) (m := l) Dig.u_bytesD Dig.elt_byteD (by simp; omega) (by simp; omega) fun v1 _ => ?_
  rw [List.nil_append]
  refine E_sapps (enc := cB) (u := p) (m := be n w) Dig.u_bytesD Dig.elt_byteD (by omega) (by omega) fun x _ => ?_
  exact sm (h x)
end Go.Proofs.YtmbfmkiagdhcoaaGreat.Pk
end
section
namespace Go.Proofs.YtmbfmkiagdhcoaaGreat.Pk
open Go Go.SL Go.Proofs Go.Proofs.YtmbfmkiagdhcoaaGreat.Sh Go.Proofs.YtmbfmkiagdhcoaaGreat.Oct Go.Proofs.YtmbfmkiagdhcoaaGreat.Disk Go.Proofs.YtmbfmkiagdhcoaaGreat.Slot
variable {B : World} {H : List Asrt} {K : Value → WT} {W : WT}
theorem u_strP : Tryz.prog.underlying 9 = some .string := by kernel_rfl
theorem bcs_size (b : List UInt8) : (⟨b.toArray⟩ : ByteArray).size = b.length := strSize b
theorem rs_bcs {b n : Nat} {κ : Bool} {T : TypeId} {l : List UInt8} [hf : HasC H b κ T (bcs l)] (hn : n = l.length) : Rs B H (.slice (some ⟨b, 0, none⟩) n n) cB l := ⟨fun hw => by
  subst hn
  refine .inr ⟨⟨b, 0, none⟩, l.length, rfl, Nat.le_refl _, fun j hj => ?_⟩
  rw [add_at, Nat.zero_add, sat_cell (hf := hf) hw, bcs_enc]⟩
theorem E_rsixT {α : Type} {enc : α → List Value} {sz : Nat} [hE : Enc enc sz] {X : Asrt} {v : Value} {l : List α} {i : Nat} {x : α} {k : IntKind} [hf : Rs B H v enc l] (hx : l[i]? = some x)
    (h : ∀ p [PtA B H p 0 (enc x)], E B (X :: H) (K p)) : E B (X :: H) (S.ixS sz v (.int k (i : Int)) K) := fun w hw => by
  have h1 : S.ixS sz v (.int k (i : Int)) (fun p w' => w' = w → K p w') w := E_rsix (B := B) (H := H) (v := v) (l := l) (K := fun p w' => w' = w → K p w') hx (fun p hp w' _ e => by subst e; exact @h p hp w' hw) w (sat.tail hw)
  cases v with
  | slice a n c => cases a with
    | none => exact h1.elim
    | some a => exact ⟨h1.1, h1.2.1, h1.2.2 rfl⟩
  | _ => exact h1.elim
attribute [local irreducible] S.pick S.ld S.ldN S.st S.box S.nc S.fad S.ixS S.ixA S.chr S.prt S.ext S.bin S.sh S.sbin S.beq S.neg1 S.com1 S.not1 S.cvt S.str1 S.lenS S.len S.cap S.lenM S.mx S.mn S.mkM S.cond S.gd S.fa S.dr S.rck S.join S.loop S.cvv S.eqv S.slc S.slcS S.b2s S.lk V U CF Gives E cel mpb osl ros dct dit itr lpo dfo
theorem rtable {a id wd : Nat} {L : Ch} (hp : POk id wd L) (h : ∀ x [CellI x], E B (sls cB 5 1 x (tableL L) :: rpk a id wd L :: H) (K x)) : E B (rpk a id wd L :: H) (CF Tryz.prog 145 [ptr a] K) := by
  obtain ⟨p1, p2, p3, p4, p5, p6⟩ := hp
  refine E_mono (W := s145 _ K) ?_ fun _ => c145
  unfold s145
  refine E_rpk fun v _ => ?_
  refine E_sbsl0 cB Dig.u_bytesD Dig.elt_byteD fun v0 i0 => ?_
  refine E_loop (n := 3) (σ := Nat × Cv) (fun s => s.1 ≤ L.length) (fun s => [ptr a, s.2.1, I s.1]) (fun s => sls cB 5 1 s.2.1 (tableL (L.take s.1)) :: cel true a 47 [I id, I wd, v] :: sls cS 9 1 v L :: H) (fun s => L.length - s.1) (0, ⟨v0, i0.pf⟩) (fun _ => rfl) rfl (Nat.zero_le _) (fun W hW => hW) ?_
  rintro ⟨i, o, hco⟩ K0 hi hk
  simp only at hi hk ⊢
  have : CellI o := ⟨hco⟩
  refine E_fa fun _ => ?_
  refine E_nc ?_
  refine E_fad0 ?_
  refine E_ld ?_
  refine E_rslen (v := v) (l := L) ?_
  refine E_lss ?_
  refine E_if (fun hc => ?_) (fun hc => ?_)
  · have hx : L[i]? = some (L[i]'(by omega)) := List.getElem?_eq_getElem (by omega)
    have hbl := p6 _ (List.getElem_mem (show i < L.length by omega))
    generalize (L[i]'(by omega)) = b at hx hbl
    have hk1 := fun x : Cv => hk (i + 1, x) (by simp only; omega) (by simp only; omega)
    simp only [table_suc hx, ← List.append_assoc] at hk1
    have htl := table_len (L.take i)
    rw [List.length_take] at htl
    have hsl : (Dig.sum b).length = 32 := Dig.sum_len b
    refine E_nc ?_
    refine E_fad0 ?_
    refine E_ld ?_
    refine E_rsix (v := v) (l := L) hx fun _ _ => ?_
    refine E_ptld ?_
    refine E_s2b u_strP Dig.u_bytesD u_byteP fun v23 _ => ?_
    rw [bcs_size]
    refine E_bytes (l := b) ?_
    refine Dig.rsum (v := v23) (p := b) (by omega) ?_
    refine Dig.E_box32 fun s5 => ?_
    refine E_stW (vs := bcs (Dig.sum b)) (by rw [Dig.bcs_len, hsl]) rfl ?_
    refine E_dr ?_
    refine E_nc ?_
    refine E_fad0 ?_
    refine E_ld ?_
    refine fd (a := sls cB 5 1 o (tableL (L.take i))) ?_
    refine E_rsixT (v := v) (l := L) hx fun pp ip => ?_
    refine E_ptld ?_
    refine E_lenstr ?_
    refine E_slcA u_a32 size_byte ?_
    refine E_rck1 (E_ptld (E_fact rfl)) (E_rck1 (E_ld (E_fact rfl)) (E_rck0 ?_))
    refine E_sapps (enc := cB) (u := .slice (some ⟨s5, 0, none⟩) 32 32) (m := Dig.sum b) (hf := rs_bcs hsl.symm) Dig.u_bytesD Dig.elt_byteD (by omega) (by omega) fun w iw => ?_
    refine E_rck1 (E_ptld (E_fact rfl)) (E_rck1 (E_ld (E_fact rfl)) (E_rck0 ?_))
    refine rput (v := w) (l := tableL (L.take i) ++ Dig.sum b) (n := b.length) (w := 2) (by omega) (by omega) (by omega) (by omega) (by rw [List.length_append]; omega) fun x ix => ?_
    refine E_addI (by omega) (by omega) ?_
    exact sm (hk1 ⟨x, ix.pf⟩)
  · have hie : i = L.length := by omega
    subst hie
    rw [List.take_length]
    refine fd (a := sls cS 9 1 v L) ?_
    refine fd (a := cel true a 47 [I id, I wd, v]) ?_
    refine E_rpkS ?_
    exact sm (h o)
end Go.Proofs.YtmbfmkiagdhcoaaGreat.Pk
end
section
namespace Go.Proofs.YtmbfmkiagdhcoaaGreat.Pk
open Go Go.SL Go.Proofs Go.Proofs.YtmbfmkiagdhcoaaGreat.Sh Go.Proofs.YtmbfmkiagdhcoaaGreat.Oct Go.Proofs.YtmbfmkiagdhcoaaGreat.Disk Go.Proofs.YtmbfmkiagdhcoaaGreat.Slot
variable {B : World} {H : List Asrt} {K : Value → WT} {W : WT}
theorem flat_suc {L : Ch} {i : Nat} {b : List UInt8} (h : L[i]? = some b) : (L.take (i + 1)).flatten = (L.take i).flatten ++ b := by
  rw [List.take_add_one, h, List.flatten_append]; simp
theorem flat_le (L : Ch) (i : Nat) : ((L.take i).flatten).length ≤ L.flatten.length := by
  conv => rhs; rw [← List.take_append_drop i L]
  rw [List.flatten_append, List.length_append]; omega
attribute [local irreducible] S.pick S.ld S.ldN S.st S.box S.nc S.fad S.ixS S.ixA S.chr S.prt S.ext S.bin S.sh S.sbin S.beq S.neg1 S.com1 S.not1 S.cvt S.str1 S.lenS S.len S.cap S.lenM S.mx S.mn S.mkM S.cond S.gd S.fa S.dr S.rck S.join S.loop S.cvv S.eqv S.slc S.slcS S.b2s S.lk V U CF Gives E cel mpb osl ros dct dit itr lpo dfo
theorem rpJoin {a id wd : Nat} {L : Ch} (hp : POk id wd L) {T : Value → Value → WT} (h : E B (rpk a id wd L :: H) (T (ptr a) (str L.flatten))) : E B (rpk a id wd L :: H)
    (S.loop 3 (fun K0 => fun v0' v3 v4 => S.fa fun _ => S.nc v0' fun v9 => S.fad v9 2 fun v10 => S.ld v10 fun v11 => S.len v11 fun v12 => S.bin .lss v4 v12 fun v13 => S.cond v13
      (S.nc v0' fun v18 => S.fad v18 2 fun v19 => S.ld v19 fun v20 => S.ixS 1 v20 v4 fun v22 => S.ld v22 fun v23 => S.sbin .add v3 v23 fun v24 => S.bin .add v4 (I 1) fun v15 => K0 v0' v24 v15)
      (T v0' v3)) [ptr a, str [], I 0]) := by
  obtain ⟨p1, p2, p3, p4, p5, p6⟩ := hp
  refine E_rpk fun v _ => ?_
  refine E_loop (n := 3) (σ := Nat) (fun i => i ≤ L.length) (fun i => [ptr a, str (L.take i).flatten, I i]) (fun _ => cel true a 47 [I id, I wd, v] :: sls cS 9 1 v L :: H) (fun i => L.length - i) 0 (fun _ => rfl) rfl (Nat.zero_le _) (fun W hW => hW) ?_
  rintro i K0 hi hk
  refine E_fa fun _ => ?_
  refine E_nc ?_
  refine E_fad0 ?_
  refine E_ld ?_
  refine E_rslen (v := v) (l := L) ?_
  refine E_lss ?_
  refine E_if (fun hc => ?_) (fun hc => ?_)
  · have hx : L[i]? = some (L[i]'(by omega)) := List.getElem?_eq_getElem (by omega)
    have hbl := p6 _ (List.getElem_mem (show i < L.length by omega))
    generalize (L[i]'(by omega)) = b at hx hbl
    have hk1 := hk (i + 1) (by omega) (by omega)
    rw [flat_suc hx] at hk1
    have hf := flat_le L i
    refine E_nc ?_
    refine E_fad0 ?_
    refine E_ld ?_
    refine E_rsix (v := v) (l := L) hx fun _ _ => ?_
    refine E_ptld ?_
    refine E_stradd (by omega) ?_
    refine E_addI (by omega) (by omega) ?_
    exact hk1
  · have hie : i = L.length := by omega
    subst hie
    rw [List.take_length]
    exact E_rpkS h
end Go.Proofs.YtmbfmkiagdhcoaaGreat.Pk
end
section
namespace Go.Proofs.YtmbfmkiagdhcoaaGreat.Pk
open Go Go.SL Go.Proofs Go.Proofs.YtmbfmkiagdhcoaaGreat.Sh Go.Proofs.YtmbfmkiagdhcoaaGreat.Oct Go.Proofs.YtmbfmkiagdhcoaaGreat.Disk Go.Proofs.YtmbfmkiagdhcoaaGreat.Slot
variable {B : World} {H : List Asrt} {K : Value → WT} {W : WT}
attribute [local irreducible] S.pick S.ld S.ldN S.st S.box S.nc S.fad S.ixS S.ixA S.chr S.prt S.ext S.bin S.sh S.sbin S.beq S.neg1 S.com1 S.not1 S.cvt S.str1 S.lenS S.len S.cap S.lenM S.mx S.mn S.mkM S.cond S.gd S.fa S.dr S.rck S.join S.loop S.cvv S.eqv S.slc S.slcS S.b2s S.lk V U CF Gives E cel mpb osl ros dct dit itr lpo dfo
theorem padLoop {v : Value} {l : List UInt8} [CellI v] (hl : l.length ≤ 100000) (h : ∀ x [CellI x], E B (sls cB 5 1 x (l ++ List.replicate ((128 - l.length % 128) % 128) 0) :: H) (K x)) : E B (sls cB 5 1 v l :: H)
    (S.loop 1 (fun K2 => fun v6' => S.fa fun _ => S.len v6' fun v65 => S.bin .rem v65 (I 128) fun v66 => S.bin .neq v66 (I 0) fun v67 => S.cond v67
      (V Tryz.prog (Instr.buildSlice 48 1 #[(0, (.int .u8 0))]) fun v69 => V Tryz.prog (Builtin.append_ #[48, 48] 48 #[v6', v69]) fun v70 => K2 v70) (K v6')) [v]) := by
  refine E_loop (n := 1) (σ := Nat × Cv) (fun s => s.1 ≤ (128 - l.length % 128) % 128) (fun s => [s.2.1]) (fun s => sls cB 5 1 s.2.1 (l ++ List.replicate s.1 0) :: H) (fun s => (128 - l.length % 128) % 128 - s.1) (0, ⟨v, CellI.pf⟩) (fun _ => rfl) rfl (Nat.zero_le _) (fun W hW => by
    simp only [List.replicate_zero, List.append_nil] at hW
    exact hW) ?_
  rintro ⟨j, o, hco⟩ K0 hj hk
  simp only at hj hk ⊢
  have : CellI o := ⟨hco⟩
  have hlen : (l ++ List.replicate j (0 : UInt8)).length = l.length + j := by simp
  refine E_fa fun _ => ?_
  refine E_rslen (v := o) (l := l ++ List.replicate j 0) ?_
  rw [hlen]
  refine Dig.E_rem0 (b := 128) (by decide) ?_
  refine E_neq ?_
  refine E_if (fun hc => ?_) (fun hc => ?_)
  · refine E_sapp1 (enc := cB) (xv := .int .u8 0) 0 Dig.u_bytesD Dig.elt_byteD rfl (by omega) (by omega) (by omega) fun x ix => ?_
    rw [List.append_assoc, ← List.replicate_succ']
    exact hk (j + 1, ⟨x, ix.pf⟩) (by simp only; omega) (by simp only; omega)
  · have : j = (128 - l.length % 128) % 128 := by omega
    subst this
    exact h o
end Go.Proofs.YtmbfmkiagdhcoaaGreat.Pk
end
section
namespace Go.Proofs.YtmbfmkiagdhcoaaGreat.Pk
open Go Go.SL Go.Proofs Go.Proofs.YtmbfmkiagdhcoaaGreat.Sh Go.Proofs.YtmbfmkiagdhcoaaGreat.Oct Go.Proofs.YtmbfmkiagdhcoaaGreat.Disk Go.Proofs.YtmbfmkiagdhcoaaGreat.Slot
variable {B : World} {H : List Asrt} {K : Value → WT} {W : WT}
theorem be_fix (id : Nat) (L : Ch) : [66, 73, 78, 49] ++ be id 4 ++ be L.length 2 ++ be L.flatten.length 4 ++ be (crcS (tableL L)).toNat 4 = headA id L := by simp [headA, fixL]
attribute [local irreducible] S.pick S.ld S.ldN S.st S.box S.nc S.fad S.ixS S.ixA S.chr S.prt S.ext S.bin S.sh S.sbin S.beq S.neg1 S.com1 S.not1 S.cvt S.str1 S.lenS S.len S.cap S.lenM S.mx S.mn S.mkM S.cond S.gd S.fa S.dr S.rck S.join S.loop S.cvv S.eqv S.slc S.slcS S.b2s S.lk V U CF Gives E cel mpb osl ros dct dit itr lpo dfo
theorem rpbytes {a id wd : Nat} {L : Ch} (hp : POk id wd L) (h : ∀ x [CellI x], E B (sls cB 5 1 x (imgL id L) :: rpk a id wd L :: H) (K x)) :
    E B (rpk a id wd L :: H) (CF Tryz.prog 118 [ptr a] K) := by
  have hp' := hp
  obtain ⟨p1, p2, p3, p4, p5, p6⟩ := hp'
  have hC := crc_lt (tableL L)
  have hC2 := crc_lt (headA id L)
  have hA := headA_len id L
  have hH := headL_len id L
  have htl := table_len L
  have hB := body_len id L
  refine E_mono (W := s118 _ K) ?_ fun _ => c118
  unfold s118
  refine rpJoin hp ?_
  refine rtable hp fun tv itv => ?_
  refine fd (a := rpk a id wd L) ?_
  refine E_rpk fun v _ => ?_
  refine E_dr ?_
  refine E_nc ?_
  refine E_fad0 ?_
  refine E_ld ?_
  refine E_nc ?_
  refine E_fad0 ?_
  refine E_ld ?_
  refine E_rslen (v := v) (l := L) ?_
  refine E_lenstr ?_
  refine Dig.E_bslK Dig.u_bytesD Dig.elt_byteD (by omega) fillN fun b28 => ?_
  refine E_rck1 (E_ld (E_fact rfl)) (E_rck1 (E_ld (E_fact rfl)) (E_rck0 ?_))
  refine E_cvslice Dig.u_bytesD u_byteP ?_
  refine E_rck1 (E_ld (E_fact rfl)) (E_rck1 (E_ld (E_fact rfl)) (E_rck0 ?_))
  refine E_slsC (enc := cB) (sz := 1) [66, 73, 78, 49] 4 rfl rfl ?_
  refine rput (v := .slice (some ⟨b28, 0, none⟩) 4 4) (l := [66, 73, 78, 49]) (n := id) (w := 4) (by omega) (by omega) (by omega) (by omega) (by simp) fun w1 _ => ?_
  refine E_rck1 (E_ld (E_fact rfl)) (E_rck0 ?_)
  refine rput (v := w1) (l := [66, 73, 78, 49] ++ be id 4) (n := L.length) (w := 2) (by omega) (by omega) (by omega) (by omega) (by simp [be_length]) fun w2 _ => ?_
  refine rput (v := w2) (l := [66, 73, 78, 49] ++ be id 4 ++ be L.length 2) (n := L.flatten.length) (w := 4) (by omega) (by omega) (by omega) (by omega) (by simp [be_length]) fun w3 _ => ?_
  refine Dig.rcrc (v := tv) (bs := tableL L) (by omega) ?_
  refine E_cvtI (by omega) (by omega) ?_
  refine rput (v := w3) (l := [66, 73, 78, 49] ++ be id 4 ++ be L.length 2 ++ be L.flatten.length 4) (n := (crcS (tableL L)).toNat) (w := 4) (by omega) (by omega) (by omega) (by omega) (by simp [be_length]) fun w4 _ => ?_
  rw [be_fix]
  refine Dig.rcrc (v := w4) (bs := headA id L) (by omega) ?_
  refine E_cvtI (by omega) (by omega) ?_
  refine rput (v := w4) (l := headA id L) (n := (crcS (headA id L)).toNat) (w := 4) (by omega) (by omega) (by omega) (by omega) (by omega) fun w5 i5 => ?_
  have eH : headA id L ++ be (crcS (headA id L)).toNat 4 = headL id L := rfl
  rw [eH]
  refine E_loop (n := 3) (σ := Nat × Cv) (fun s => s.1 ≤ 106) (fun s => [str L.flatten, tv, s.2.1]) (fun s => sls cB 5 1 s.2.1 (headL id L ++ List.replicate s.1 0) :: sls cB 5 1 tv (tableL L) :: cel true a 47 [I id, I wd, v] :: sls cS 9 1 v L :: H) (fun s => 106 - s.1) (0, ⟨w5, i5.pf⟩) (fun _ => rfl) rfl (Nat.zero_le _) (fun W hW => by
    simp only [List.replicate_zero, List.append_nil] at hW
    exact sm hW) ?_
  rintro ⟨j, o, hco⟩ K0 hj hk
  simp only at hj hk ⊢
  have : CellI o := ⟨hco⟩
  have hlen : (headL id L ++ List.replicate j (0 : UInt8)).length = 22 + j := by simp [hH]
  refine E_fa fun _ => ?_
  refine E_rslen (v := o) (l := headL id L ++ List.replicate j 0) ?_
  rw [hlen]
  refine E_lss ?_
  refine E_if (fun hc => ?_) (fun hc => ?_)
  · refine E_sapp1 (enc := cB) (xv := .int .u8 0) 0 Dig.u_bytesD Dig.elt_byteD rfl (by omega) (by omega) (by omega) fun x ix => ?_
    rw [List.append_assoc, ← List.replicate_succ']
    exact hk (j + 1, ⟨x, ix.pf⟩) (by simp only; omega) (by simp only; omega)
  · have : j = 106 := by omega
    subst this
    refine E_bstr Dig.u_bytesD u_strP Dig.elt_byteD (by omega) fun x1 _ => ?_
    refine E_sapps (enc := cB) (u := tv) (m := tableL L) Dig.u_bytesD Dig.elt_byteD (by simp only [List.length_append, hlen]; omega) (by simp only [List.length_append, hlen]; omega) fun x2 _ => ?_
    have eB : headL id L ++ List.replicate 106 0 ++ L.flatten ++ tableL L = bodyL id L := rfl
    rw [eB]
    refine padLoop (by omega) fun x ix => ?_
    refine fd (a := sls cS 9 1 v L) ?_
    refine fd (a := cel true a 47 [I id, I wd, v]) ?_
    refine E_rpkS ?_
    have h' := h x
    unfold imgL at h'
    exact sm h'
end Go.Proofs.YtmbfmkiagdhcoaaGreat.Pk
end
section
namespace Go.Proofs.YtmbfmkiagdhcoaaGreat.Pk
open Go Go.SL Go.Proofs Go.Proofs.YtmbfmkiagdhcoaaGreat.Sh Go.Proofs.YtmbfmkiagdhcoaaGreat.Oct Go.Proofs.YtmbfmkiagdhcoaaGreat.Disk Go.Proofs.YtmbfmkiagdhcoaaGreat.Slot
variable {B : World} {H : List Asrt} {K : Value → WT} {W : WT}
theorem ok_nz : callOk Tryz.prog 107 = true := by kernel_rfl
attribute [local irreducible] S.pick S.ld S.ldN S.st S.box S.nc S.fad S.ixS S.ixA S.chr S.prt S.ext S.bin S.sh S.sbin S.beq S.neg1 S.com1 S.not1 S.cvt S.str1 S.lenS S.len S.cap S.lenM S.mx S.mn S.mkM S.cond S.gd S.fa S.dr S.rck S.join S.loop S.cvv S.eqv S.slc S.slcS S.b2s S.lk V U CF Gives E cel mpb osl ros dct dit itr lpo dfo
theorem hasNz {v : Value} {l : List UInt8} [hv : Rb B H v l] (hl : l.length ≤ 1000000) (h : E B H (K (.bool (l.any fun c => c ≠ 0)))) : E B H (CF Tryz.prog 106 [v, .func (.func 107) #[] #[]] K) := by
  refine E_mono (W := s106 _ _ K) ?_ fun _ => c106
  unfold s106
  refine E_mono (W := s131 _ _ _) ?_ fun _ => c131
  unfold s131
  refine E_rslen (v := v) (l := l) ?_
  refine E_loop (n := 4) (σ := Nat) (fun i => i ≤ l.length ∧ ∀ j (hj : j < l.length), j < i → l[j] = 0) (fun i => [v, .func (.func 107) #[] #[], I l.length, I i]) (fun _ => H) (fun i => l.length - i) 0 (fun _ => rfl) rfl ⟨Nat.zero_le _, fun j _ hj => by omega⟩ (fun W hW => hW) ?_
  rintro i K0 ⟨hi, hp⟩ hk
  refine E_fa fun _ => ?_
  refine E_lss ?_
  refine E_if (fun hc => ?_) (fun hc => ?_)
  · have hlt : i < l.length := by omega
    have hx : l[i]? = some l[i] := List.getElem?_eq_getElem hlt
    refine E_rsix (v := v) (l := l) hx fun _ _ => ?_
    refine E_ptld ?_
    refine E_cvv ok_nz ?_
    refine E_mono (W := s107 _ _) ?_ fun _ => c107
    unfold s107
    refine E_neq ?_
    refine E_if (fun hb => ?_) (fun hb => ?_)
    · have e : (l.any fun c => c ≠ 0) = true := List.any_eq_true.2 ⟨l[i], List.getElem_mem hlt, by
        simp only [ne_eq, decide_eq_true_eq]
        intro h0
        rw [h0] at hb
        exact hb rfl⟩
      rw [e] at h
      refine E_geq ?_
      rw [decide_eq_true (by omega)]
      exact h
    · have h0 : l[i] = 0 := by
        apply UInt8.toNat_inj.1
        have : (l[i].toNat : Int) = 0 := by simpa using hb
        simp; omega
      refine E_addI (by omega) (by omega) ?_
      refine hk (i + 1) ⟨by omega, fun j hj hji => ?_⟩ (by omega)
      rcases Nat.lt_or_ge j i with h' | h'
      · exact hp j hj h'
      · have : j = i := by omega
        subst this
        exact h0
  · have hie : i = l.length := by omega
    subst hie
    have e : (l.any fun c => c ≠ 0) = false := by
      rw [List.any_eq_false]
      intro x hx
      obtain ⟨j, hj, rfl⟩ := List.mem_iff_getElem.1 hx
      simp [hp j hj hj]
    rw [e] at h
    refine E_geq ?_
    exact h
end Go.Proofs.YtmbfmkiagdhcoaaGreat.Pk
end
section
namespace Go.Proofs.YtmbfmkiagdhcoaaGreat.Pk
open Go Go.SL Go.Proofs Go.Proofs.YtmbfmkiagdhcoaaGreat.Sh Go.Proofs.YtmbfmkiagdhcoaaGreat.Oct Go.Proofs.YtmbfmkiagdhcoaaGreat.Disk Go.Proofs.YtmbfmkiagdhcoaaGreat.Slot
variable {B : World} {H : List Asrt} {K : Value → WT} {W : WT}
def hdN (b : List UInt8) (p w : Nat) : Nat := ofBe ((b.drop p).take w)
def nums (b : List UInt8) : List Nat := [hdN b 4 4, hdN b 8 2, hdN b 10 4, hdN b 14 4]
abbrev nI (l : List Nat) : List Value := l.map fun n : Nat => I (n : Int)
theorem buildW (w : World) : (Instr.build 146 #[(0, I 4), (1, I 2), (2, I 4), (3, I 4)]).run Tryz.prog w = .ok (.agg #[I 4, I 2, I 4, I 4]) w := by kernel_rfl
theorem idx0 (w : World) : (Instr.index 146 (.agg #[I 4, I 2, I 4, I 4]) (I 0)).run Tryz.prog w = .ok (I 4) w := by kernel_rfl
theorem idx1 (w : World) : (Instr.index 146 (.agg #[I 4, I 2, I 4, I 4]) (I 1)).run Tryz.prog w = .ok (I 2) w := by kernel_rfl
theorem idx2 (w : World) : (Instr.index 146 (.agg #[I 4, I 2, I 4, I 4]) (I 2)).run Tryz.prog w = .ok (I 4) w := by kernel_rfl
theorem idx3 (w : World) : (Instr.index 146 (.agg #[I 4, I 2, I 4, I 4]) (I 3)).run Tryz.prog w = .ok (I 4) w := by kernel_rfl
def wds : List Nat := [4, 2, 4, 4]
def pls : List Nat := [4, 8, 10, 14, 18]
def part (b : List UInt8) (i : Nat) : List Nat := (nums b).take i ++ List.replicate (4 - i) 0
theorem part_set (b : List UInt8) (i : Nat) (h : i < 4) : (nI (part b i)).set i (I (hdN b (pls.getD i 0) (wds.getD i 0) : Nat)) = nI (part b (i + 1)) := by
  match i, h with
  | 0, _ => rfl
  | 1, _ => rfl
  | 2, _ => rfl
  | 3, _ => rfl
theorem part_len (b : List UInt8) (i : Nat) (h : i ≤ 4) : (nI (part b i)).length = 4 := by simp [part, nums]; omega
theorem idxW (i : Nat) (h : i < 4) (w : World) : (Instr.index 146 (.agg #[I 4, I 2, I 4, I 4]) (I i)).run Tryz.prog w = .ok (I (wds.getD i 0 : Nat)) w := by
  match i, h with
  | 0, _ => exact idx0 w
  | 1, _ => exact idx1 w
  | 2, _ => exact idx2 w
  | 3, _ => exact idx3 w
theorem wds_ok (i : Nat) (h : i < 4) : 1 ≤ wds.getD i 0 ∧ wds.getD i 0 ≤ 4 ∧ pls.getD i 0 + wds.getD i 0 = pls.getD (i + 1) 0 ∧ pls.getD (i + 1) 0 ≤ 18 := by
  match i, h with
  | 0, _ => decide
  | 1, _ => decide
  | 2, _ => decide
  | 3, _ => decide
attribute [local irreducible] S.pick S.ld S.ldN S.st S.box S.nc S.fad S.ixS S.ixA S.chr S.prt S.ext S.bin S.sh S.sbin S.beq S.neg1 S.com1 S.not1 S.cvt S.str1 S.lenS S.len S.cap S.lenM S.mx S.mn S.mkM S.cond S.gd S.fa S.dr S.rck S.join S.loop S.cvv S.eqv S.slc S.slcS S.b2s S.lk V U CF Gives E cel mpb osl ros dct dit itr lpo dfo
theorem numbers {v : Value} {b : List UInt8} [hv : Rb B H v b] (hl : 128 ≤ b.length) (hm : b.length ≤ 1000000000) (h : E B H (K (.agg (nI (nums b)).toArray))) : E B H (CF Tryz.prog 67 [v] K) := by
  refine E_mono (W := s67 _ K) ?_ fun _ => c67
  unfold s67
  refine gA fun o => ?_
  refine Dig.E_Vr buildW ?_
  refine E_loop (n := 5) (σ := Nat) (fun i => i ≤ 4) (fun i => [v, ptr o, I (pls.getD i 0 : Nat), .agg #[I 4, I 2, I 4, I 4], I i]) (fun i => cel true o 146 (nI (part b i)) :: H) (fun i => 4 - i) 0 (fun _ => rfl) rfl (Nat.zero_le _) (fun W hW => hW) ?_
  rintro i K0 hi hk
  refine E_fa fun _ => ?_
  refine E_lss ?_
  refine E_if (fun hc => ?_) (fun hc => ?_)
  · have hk1 := hk (i + 1) (by omega) (by omega)
    obtain ⟨w1, w2, w3, w4⟩ := wds_ok i (by omega)
    rw [← part_set b i (by omega)] at hk1
    refine Dig.E_Vr (idxW i (by omega)) ?_
    refine take4 (v := v) (bs := b) w1 w2 (by omega) (by omega) ?_
    rw [w3]
    refine E_ext ?_
    refine E_ext ?_
    refine E_ext ?_
    refine Dig.E_wdA (by omega) ?_
    rw [show 0 + i * 1 = i by omega]
    refine E_st' (by rw [part_len b i hi]; omega) ?_
    refine E_addI (by omega) (by omega) ?_
    exact hk1
  · have : i = 4 := by omega
    subst this
    refine E_ldN (cs := nI (nums b)) rfl rfl ?_
    refine E_stN (vs := nI (nums b)) rfl (by simp [nums, isCell]) (by simp [part, nums]) (l' := nI (nums b)) rfl ?_
    refine E_ldN (cs := nI (nums b)) rfl rfl ?_
    exact sm h
end Go.Proofs.YtmbfmkiagdhcoaaGreat.Pk
end
section
namespace Go.Proofs.YtmbfmkiagdhcoaaGreat.Pk
open Go Go.SL Go.Proofs Go.Proofs.YtmbfmkiagdhcoaaGreat.Sh Go.Proofs.YtmbfmkiagdhcoaaGreat.Oct Go.Proofs.YtmbfmkiagdhcoaaGreat.Disk Go.Proofs.YtmbfmkiagdhcoaaGreat.Slot
variable {B : World} {H : List Asrt} {K : Value → WT} {W : WT}
def headE (b : List UInt8) : Int :=
  if b.length < 128 then 3 else if b.take 4 ≠ [66, 73, 78, 49] then 4 else if hdN b 18 4 ≠ (crcS (b.take 18)).toNat then 5 else
  if (((b.drop 22).take 106).any fun c => c ≠ 0) = true then 4 else if 4096 ≤ hdN b 4 4 ∨ 64 < hdN b 8 2 then 6 else
  if b.length < 128 + hdN b 10 4 + 34 * hdN b 8 2 then 3 else 0
theorem hdN_lt {b : List UInt8} {p w : Nat} (h : w ≤ 4) : hdN b p w < 4294967296 := ofBe4 h
instance (l : List Nat) : AllC (nI l) := ⟨fun v hv => by
  obtain ⟨x, _, rfl⟩ := List.mem_map.1 hv
  rfl⟩
attribute [local irreducible] S.pick S.ld S.ldN S.st S.box S.nc S.fad S.ixS S.ixA S.chr S.prt S.ext S.bin S.sh S.sbin S.beq S.neg1 S.com1 S.not1 S.cvt S.str1 S.lenS S.len S.cap S.lenM S.mx S.mn S.mkM S.cond S.gd S.fa S.dr S.rck S.join S.loop S.cvv S.eqv S.slc S.slcS S.b2s S.lk V U CF Gives E cel mpb osl ros dct dit itr lpo dfo
theorem headed {v : Value} {b : List UInt8} [hv : Rb B H v b] (hm : b.length ≤ 1000000000) (h : E B H (K (I (headE b)))) : E B H (CF Tryz.prog 66 [v] K) := by
  refine E_mono (W := s66 _ K) ?_ fun _ => c66
  unfold s66
  unfold headE at h
  refine E_rslen (v := v) (l := b) ?_
  refine E_lss ?_
  refine E_if (fun hc => ?_) (fun hc => ?_)
  · rw [if_pos (by omega)] at h
    exact h
  have hl : 128 ≤ b.length := by omega
  rw [if_neg (by omega)] at h
  refine E_slcB (v := v) (bs := b) (l := 0) (hh := 4) (Dig.bndN rfl) rfl (by omega) (by omega) fun x hx _ => ?_
  have hx' := hx H
  rw [List.drop_zero] at hx'
  refine E_b2sR (v := x) (bs := b.take 4) ?_
  refine E_strne (b := [66, 73, 78, 49]) ?_
  refine E_if (fun hc1 => ?_) (fun hc1 => ?_)
  · rw [if_pos hc1] at h
    exact h
  rw [if_neg hc1] at h
  refine take4 (v := v) (bs := b) (w := 4) (p := 18) (by omega) (by omega) (by omega) (by omega) ?_
  refine E_ext ?_
  refine E_ext ?_
  refine E_ext ?_
  refine numbers (v := v) (b := b) hl hm ?_
  refine E_box (v := .agg #[I 0, I 0, I 0, I 0]) (vs := [I 0, I 0, I 0, I 0]) fun n6 => ?_
  refine E_stW (vs := nI (nums b)) (by rfl) (by rfl) ?_
  refine E_slcB (v := v) (bs := b) (l := 0) (hh := 18) (Dig.bndN rfl) rfl (by omega) (by omega) fun y hy _ => ?_
  have hy' := hy (cel true n6 146 (nI (nums b)) :: H)
  rw [List.drop_zero] at hy'
  refine crc (v := y) (bs := b.take 18) (by rw [List.length_take]; omega) ?_
  have hC := crc_lt (b.take 18)
  refine E_cvtI (by omega) (by omega) ?_
  refine E_neq ?_
  have h18 : ofBe ((b.drop 18).take 4) = hdN b 18 4 := rfl
  rw [h18]
  refine E_if (fun hc2 => ?_) (fun hc2 => ?_)
  · rw [if_pos (by omega)] at h
    exact sm h
  rw [if_neg (by omega)] at h
  refine E_slcB (v := v) (bs := b) (l := 22) (hh := 128) (Dig.bndN rfl) (Dig.bndN rfl) (by omega) (by omega) fun z hz _ => ?_
  have hz' := hz (cel true n6 146 (nI (nums b)) :: H)
  refine hasNz (v := z) (l := (b.drop 22).take (128 - 22)) (by simp; omega) ?_
  refine E_ifb (fun hc3 => ?_) (fun hc3 => ?_)
  · rw [if_pos hc3] at h
    exact sm h
  rw [if_neg (by rw [hc3]; decide)] at h
  have g0 : (nI (nums b))[0]? = some (I (hdN b 4 4 : Nat)) := rfl
  have g1 : (nI (nums b))[1]? = some (I (hdN b 8 2 : Nat)) := rfl
  have g2 : (nI (nums b))[2]? = some (I (hdN b 10 4 : Nat)) := rfl
  have l0 := hdN_lt (b := b) (p := 4) (w := 4) (by omega)
  have l1 := hdN_lt (b := b) (p := 8) (w := 2) (by omega)
  have l2 := hdN_lt (b := b) (p := 10) (w := 4) (by omega)
  generalize hdN b 4 4 = a0 at g0 h l0
  generalize hdN b 8 2 = a1 at g1 h l1
  generalize hdN b 10 4 = a2 at g2 h l2
  generalize nI (nums b) = ns at g0 g1 g2 ⊢
  refine E_join1 (n := 3) [v, ptr n6, .bool (decide (4096 ≤ a0 ∨ 64 < a1))] (cel true n6 146 ns :: H) (fun q hq => ?_) ?_
  · refine Dig.E_wdA (n := 0) (by omega) ?_
    refine E_ld' g0 ?_
    refine E_geq ?_
    by_cases h1 : 4096 ≤ a0
    · rw [decide_eq_true (.inl h1)] at hq
      rw [decide_eq_true (show (4096 : Int) ≤ (a0 : Int) by omega)]
      (repeat first | refine gS ?_ | refine gA fun _ => ?_ | refine gX fun _ _ => ?_ | refine gT ?_ | refine gF ?_ | refine gI ?_)
      exact hq
    · have e : decide (4096 ≤ a0 ∨ 64 < a1) = decide ((64 : Int) < (a1 : Int)) := by rw [decide_eq_decide]; omega
      rw [e] at hq
      rw [decide_eq_false (show ¬ (4096 : Int) ≤ (a0 : Int) by omega)]
      refine E_gft ?_
      refine Dig.E_wdA (n := 1) (by omega) ?_
      refine E_gft ?_
      refine E_ld' g1 ?_
      refine E_gft ?_
      refine E_gtr ?_
      refine E_pff ?_
      exact hq
  refine E_fa fun _ => ?_
  refine E_if (fun hc4 => ?_) (fun hc4 => ?_)
  · rw [if_pos hc4] at h
    exact sm h
  rw [if_neg hc4] at h
  refine E_join1 (n := 1) [.bool (decide (b.length < 128 + a2 + 34 * a1))] (cel true n6 146 ns :: H) (fun q hq => ?_) ?_
  · refine Dig.E_wdA (n := 2) (by omega) ?_
    refine E_ld' g2 ?_
    refine E_rslen (v := v) (l := b) ?_
    refine E_subI (by omega) (by omega) ?_
    refine E_gtr ?_
    by_cases h1 : (b.length : Int) - 128 < (a2 : Int)
    · rw [decide_eq_true (show b.length < 128 + a2 + 34 * a1 by omega)] at hq
      rw [decide_eq_true h1]
      (repeat first | refine gS ?_ | refine gA fun _ => ?_ | refine gX fun _ _ => ?_ | refine gT ?_ | refine gF ?_ | refine gI ?_)
      exact hq
    · have e : decide (b.length < 128 + a2 + 34 * a1) = decide ((b.length : Int) - 128 - (a2 : Int) < 34 * (a1 : Int)) := by rw [decide_eq_decide]; omega
      rw [e] at hq
      rw [decide_eq_false h1]
      refine E_gft ?_
      refine Dig.E_wdA (n := 1) (by omega) ?_
      refine E_gft ?_
      refine E_ld' g1 ?_
      refine E_gft ?_
      refine E_mulI (by omega) (by omega) ?_
      refine E_gft ?_
      refine E_gft ?_
      refine E_rslen (v := v) (l := b) ?_
      refine E_gft ?_
      refine E_subI (by omega) (by omega) ?_
      refine E_gft ?_
      refine Dig.E_wdA (n := 2) (by omega) ?_
      refine E_gft ?_
      refine E_ld' g2 ?_
      refine E_gft ?_
      refine E_subI (by omega) (by omega) ?_
      refine E_gft ?_
      refine E_gtr ?_
      refine E_pff ?_
      exact hq
  refine E_fa fun _ => ?_
  refine E_if (fun hc5 => ?_) (fun hc5 => ?_)
  · rw [if_pos hc5] at h
    exact sm h
  · rw [if_neg hc5] at h
    exact sm h
end Go.Proofs.YtmbfmkiagdhcoaaGreat.Pk
end
section
namespace Go.Proofs.YtmbfmkiagdhcoaaGreat.Pk
open Go Go.SL Go.Proofs Go.Proofs.YtmbfmkiagdhcoaaGreat.Sh Go.Proofs.YtmbfmkiagdhcoaaGreat.Oct Go.Proofs.YtmbfmkiagdhcoaaGreat.Disk Go.Proofs.YtmbfmkiagdhcoaaGreat.Slot
def tabS (b : List UInt8) (p : Nat) : List UInt8 := (b.drop p ++ List.replicate 32 0).take 32
theorem tabS_len (b : List UInt8) (p : Nat) : (tabS b p).length = 32 := by simp [tabS]
theorem tabS_in {b : List UInt8} {p : Nat} (h : p + 32 ≤ b.length) : tabS b p = (b.drop p).take 32 := by
  unfold tabS
  rw [List.take_append_of_le_length (by rw [List.length_drop]; omega)]
def tabE (b : List UInt8) (p : Nat) : Nat := hdN b (p + 32) 2
theorem tabE_lt (b : List UInt8) (p : Nat) : tabE b p < 65536 := Nat.lt_of_lt_of_le (ofBe_lt _) (by
  have : 256 ^ ((b.drop (p + 32)).take 2).length ≤ 256 ^ 2 := Nat.pow_le_pow_right (by decide) (by rw [List.length_take]; omega)
  omega)
def rowsL (b : List UInt8) : Nat → Nat → Nat → List Sl
  | 0, _, _ => []
  | n + 1, p, q => ⟨tabS b p, q, tabE b p, tabS_len b p⟩ :: rowsL b n (p + 34) (q + tabE b p)
def okE (s : Sl) : Bool := decide (1 ≤ s.len) && decide (s.len ≤ 512)
def endL (q : Nat) (l : List Sl) : Nat := l.foldl (fun a s => a + s.len) q
theorem endL_cons (q : Nat) (s : Sl) (l : List Sl) : endL q (s :: l) = endL (q + s.len) l := rfl
theorem rows_len (b : List UInt8) : ∀ n p q, (rowsL b n p q).length = n
  | 0, _, _ => rfl
  | n + 1, p, q => by simp [rowsL, rows_len b n]
theorem rows_suc (b : List UInt8) : ∀ n p q, rowsL b (n + 1) p q = rowsL b n p q ++ [⟨tabS b (p + 34 * n), endL q (rowsL b n p q), tabE b (p + 34 * n), tabS_len b _⟩]
  | 0, p, q => by simp [rowsL, endL]
  | n + 1, p, q => by
    have ih := rows_suc b n (p + 34) (q + tabE b p)
    rw [rowsL, ih]
    have e : p + 34 + 34 * n = p + 34 * (n + 1) := by omega
    rw [show rowsL b (n + 1) p q = ⟨tabS b p, q, tabE b p, tabS_len b p⟩ :: rowsL b n (p + 34) (q + tabE b p) from rfl, endL_cons]
    simp only [e, List.cons_append]
theorem endL_snoc (q : Nat) (l : List Sl) (s : Sl) : endL q (l ++ [s]) = endL q l + s.len := by simp [endL]
def parseL (b : List UInt8) : Int × Nat × Nat × List Sl :=
  let n := hdN b 8 2
  let f := 128 + hdN b 10 4
  let l := rowsL b n f 128
  if headE b ≠ 0 then (headE b, 0, 0, []) else if ((crcS ((b.drop f).take (34 * n))).toNat : Nat) ≠ hdN b 14 4 then (5, 0, 0, []) else
  if l.all okE = false then (2, 0, 0, []) else if endL 128 l ≠ f then (4, 0, 0, []) else (0, hdN b 4 4, (f + 34 * n + 127) / 128, l)
theorem headE_0 {b : List UInt8} (h : headE b = 0) : 128 ≤ b.length ∧ hdN b 4 4 < 4096 ∧ hdN b 8 2 ≤ 64 ∧ 128 + hdN b 10 4 + 34 * hdN b 8 2 ≤ b.length := by
  unfold headE at h
  split at h
  · cases h
  split at h
  · cases h
  split at h
  · cases h
  split at h
  · cases h
  split at h
  · cases h
  split at h
  · cases h
  · omega
def chunkL (b : List UInt8) (s : Sl) : Int × List UInt8 :=
  if s.len < 1 ∨ 512 < s.len then (2, []) else if b.length < s.pos + s.len then (3, []) else
  if Dig.sum ((b.drop s.pos).take s.len) = s.sum then (0, (b.drop s.pos).take s.len) else (13, [])
section
variable {id wd : Nat} {L : Ch}
theorem img_split (id : Nat) (L : Ch) : ∃ z, imgL id L = headL id L ++ (List.replicate 106 0 ++ (L.flatten ++ (tableL L ++ z))) := ⟨List.replicate ((128 - (bodyL id L).length % 128) % 128) 0, by
  unfold imgL
  generalize List.replicate ((128 - (bodyL id L).length % 128) % 128) (0 : UInt8) = z
  unfold bodyL
  simp only [List.append_assoc]⟩
theorem img_len (id : Nat) (L : Ch) : (imgL id L).length % 128 = 0 ∧ 128 + L.flatten.length + 34 * L.length ≤ (imgL id L).length ∧ (imgL id L).length < 128 + L.flatten.length + 34 * L.length + 128 := by
  have h := body_len id L
  unfold imgL
  rw [List.length_append, List.length_replicate]
  omega
theorem hd_at {a m z : List UInt8} {p w n : Nat} (ha : a.length = p) (hn : n < 256 ^ w) (hm : m = be n w) : hdN (a ++ (m ++ z)) p w = n := by
  unfold hdN
  rw [List.drop_append_of_le_length (by omega), List.drop_of_length_le (by omega), List.nil_append, hm, List.take_append_of_le_length (by rw [be_length]; omega), List.take_of_length_le (by rw [be_length]; omega), ofBe_be _ _ hn]
theorem headL_eq (id : Nat) (L : Ch) : headL id L = [66, 73, 78, 49] ++ (be id 4 ++ (be L.length 2 ++ (be L.flatten.length 4 ++ (be (crcS (tableL L)).toNat 4 ++ be (crcS (headA id L)).toNat 4)))) := by
  unfold headL
  conv => lhs; lhs; unfold headA
  simp [fixL]
theorem crc_pow (l : List UInt8) : (crcS l).toNat < 256 ^ 4 := (crcS l).isLt
theorem img_nums (hp : POk id wd L) : hdN (imgL id L) 4 4 = id ∧ hdN (imgL id L) 8 2 = L.length ∧ hdN (imgL id L) 10 4 = L.flatten.length ∧ hdN (imgL id L) 14 4 = (crcS (tableL L)).toNat ∧ hdN (imgL id L) 18 4 = (crcS (headA id L)).toNat := by
  obtain ⟨p1, p2, p3, p4, p5, p6⟩ := hp
  obtain ⟨z, hz⟩ := img_split id L
  rw [hz, headL_eq]
  generalize hy : List.replicate 106 0 ++ (L.flatten ++ (tableL L ++ z)) = y
  clear hz hy z
  generalize hA : ([66, 73, 78, 49] : List UInt8) = A
  have hAl : A.length = 4 := by rw [← hA]; rfl
  refine ⟨?_, ?_, ?_, ?_, ?_⟩
  · have := hd_at (a := A) (m := be id 4) (z := (be L.length 2 ++ (be L.flatten.length 4 ++ (be (crcS (tableL L)).toNat 4 ++ be (crcS (headA id L)).toNat 4))) ++ y) hAl (w := 4) (show id < 256 ^ 4 by omega) rfl
    simpa [List.append_assoc] using this
  · have := hd_at (a := A ++ be id 4) (m := be L.length 2) (z := (be L.flatten.length 4 ++ (be (crcS (tableL L)).toNat 4 ++ be (crcS (headA id L)).toNat 4)) ++ y) (p := 8) (by simp [hAl, be_length]) (w := 2) (show L.length < 256 ^ 2 by omega) rfl
    simpa [List.append_assoc] using this
  · have := hd_at (a := A ++ be id 4 ++ be L.length 2) (m := be L.flatten.length 4) (z := (be (crcS (tableL L)).toNat 4 ++ be (crcS (headA id L)).toNat 4) ++ y) (p := 10) (by simp [hAl, be_length]) (w := 4) (show L.flatten.length < 256 ^ 4 by omega) rfl
    simpa [List.append_assoc] using this
  · have := hd_at (a := A ++ be id 4 ++ be L.length 2 ++ be L.flatten.length 4) (m := be (crcS (tableL L)).toNat 4) (z := be (crcS (headA id L)).toNat 4 ++ y) (p := 14) (by simp [hAl, be_length]) (w := 4) (crc_pow _) rfl
    simpa [List.append_assoc] using this
  · have := hd_at (a := A ++ be id 4 ++ be L.length 2 ++ be L.flatten.length 4 ++ be (crcS (tableL L)).toNat 4) (m := be (crcS (headA id L)).toNat 4) (z := y) (p := 18) (by simp [hAl, be_length]) (w := 4) (crc_pow _) rfl
    simpa [List.append_assoc] using this
theorem img_head (hp : POk id wd L) : headE (imgL id L) = 0 := by
  obtain ⟨n1, n2, n3, n4, n5⟩ := img_nums hp
  have hl := img_len id L
  obtain ⟨z, hz⟩ := img_split id L
  have hhl := headL_len id L
  have hal := headA_len id L
  have t4 : (imgL id L).take 4 = [66, 73, 78, 49] := by rw [hz, headL_eq]; rfl
  have t18 : (imgL id L).take 18 = headA id L := by
    rw [hz]
    unfold headL
    rw [List.append_assoc, List.take_append_of_le_length (by omega), List.take_of_length_le (by omega)]
  have t22 : ((imgL id L).drop 22).take 106 = List.replicate 106 0 := by
    rw [hz, List.drop_append_of_le_length (by omega), List.drop_of_length_le (by omega), List.nil_append, List.take_append_of_le_length (by simp), List.take_of_length_le (by simp)]
  unfold headE
  rw [n1, n2, n3, n5, t4, t18, t22, if_neg (by omega), if_neg (by simp), if_neg (by simp), if_neg (by rw [Bool.not_eq_true, List.any_eq_false]; intro x hx; rw [List.eq_of_mem_replicate hx]; simp), if_neg (by have := hp.idl; have := hp.num; omega), if_neg (by omega)]
theorem img_drop (id : Nat) (L : Ch) : ∃ z, (imgL id L).drop (128 + L.flatten.length) = tableL L ++ z := by
  obtain ⟨z, hz⟩ := img_split id L
  have hhl := headL_len id L
  refine ⟨z, ?_⟩
  rw [hz, ← List.append_assoc, ← List.append_assoc, List.drop_append_of_le_length (by simp [hhl]; omega), List.drop_of_length_le (by simp [hhl]; omega), List.nil_append]
theorem rows_img : ∀ (L : Ch) (b z : List UInt8) (p q : Nat), (∀ c ∈ L, c.length ≤ 512) → b.drop p = tableL L ++ z → rowsL b L.length p q = slotsL q L
  | [], _, _, _, _, _, _ => rfl
  | c :: L, b, z, p, q, hc, h => by
    have hcl := hc c (List.mem_cons_self ..)
    have hsl := Dig.sum_len c
    have e1 : b.drop p = Dig.sum c ++ (be c.length 2 ++ (tableL L ++ z)) := by rw [h]; simp [tableL, List.append_assoc]
    have hbl : 34 ≤ (b.drop p).length := by rw [e1]; simp [hsl, be_length]; omega
    rw [List.length_drop] at hbl
    have eS : tabS b p = Dig.sum c := by rw [tabS_in (by omega), e1, List.take_append_of_le_length (by omega), List.take_of_length_le (by omega)]
    have d32 : b.drop (p + 32) = be c.length 2 ++ (tableL L ++ z) := by
      rw [← List.drop_drop, e1, List.drop_append_of_le_length (by omega), List.drop_of_length_le (by omega), List.nil_append]
    have eE : tabE b p = c.length := by
      unfold tabE hdN
      rw [d32, List.take_append_of_le_length (by rw [be_length]; omega), List.take_of_length_le (by rw [be_length]; omega), ofBe_be _ _ (by omega)]
    have d34 : b.drop (p + 34) = tableL L ++ z := by
      rw [show p + 34 = p + 32 + 2 by omega, ← List.drop_drop, d32, List.drop_append_of_le_length (by rw [be_length]; omega), List.drop_of_length_le (by rw [be_length]; omega), List.nil_append]
    rw [List.length_cons, rowsL, slotsL, eE, rows_img L b z (p + 34) (q + c.length) (fun x hx => hc x (List.mem_cons_of_mem _ hx)) d34]
    congr 1
    exact Sl.ext eS rfl rfl
theorem slots_end (q : Nat) (L : Ch) : endL q (slotsL q L) = q + L.flatten.length := by
  induction L generalizing q with
  | nil => simp [slotsL, endL]
  | cons c L ih => rw [slotsL, endL_cons, ih]; simp; omega
theorem parse_img (hp : POk id wd L) : parseL (imgL id L) = (0, id, (imgL id L).length / 128, slotsL 128 L) := by
  obtain ⟨n1, n2, n3, n4, n5⟩ := img_nums hp
  have hl := img_len id L
  obtain ⟨z, hz⟩ := img_drop id L
  have ht := table_len L
  have hr := rows_img L (imgL id L) z (128 + L.flatten.length) 128 (fun c hc => (hp.ch c hc).2) hz
  unfold parseL
  simp only [n1, n2, n3, n4, img_head hp, hr]
  have hall : (slotsL 128 L).all okE = true := by
    rw [List.all_eq_true]
    intro s hs
    obtain ⟨i, hi, rfl⟩ := List.mem_iff_getElem.1 hs
    rw [slots_len] at hi
    obtain ⟨q, hq⟩ := slots_get (p := 128) (List.getElem?_eq_getElem hi)
    have hi' : i < (slotsL 128 L).length := by rw [slots_len]; exact hi
    rw [List.getElem?_eq_getElem hi', Option.some.injEq] at hq
    rw [hq]
    have := hp.ch _ (List.getElem_mem hi)
    simp [okE, this]
  have hE := slots_end 128 L
  rw [if_neg (by simp), hz, List.take_append_of_le_length (by omega), List.take_of_length_le (by omega), if_neg (by simp), if_neg (by rw [hall]; decide), if_neg (by rw [hE]; simp)]
  congr 3
  omega
theorem slots_at : ∀ (L : Ch) (q i : Nat) (c : List UInt8), L[i]? = some c → (slotsL q L)[i]? = some ⟨Dig.sum c, q + (L.take i).flatten.length, c.length, Dig.sum_len c⟩
  | [], _, _, _, h => by simp at h
  | d :: L, q, 0, c, h => by simp at h; subst h; simp [slotsL]
  | d :: L, q, i + 1, c, h => by
    have := slots_at L (q + d.length) i c (by simpa using h)
    simp only [slotsL, List.getElem?_cons_succ, this, List.take_succ_cons, List.flatten_cons, List.length_append]
    rw [Nat.add_assoc]
theorem flat_at : ∀ (L : Ch) (i : Nat) (c : List UInt8), L[i]? = some c → (L.flatten.drop (L.take i).flatten.length).take c.length = c ∧ (L.take i).flatten.length + c.length ≤ L.flatten.length
  | [], _, _, h => by simp at h
  | d :: L, 0, c, h => by simp at h; subst h; simp
  | d :: L, i + 1, c, h => by
    obtain ⟨h1, h2⟩ := flat_at L i c (by simpa using h)
    simp only [List.take_succ_cons, List.flatten_cons, List.length_append]
    refine ⟨?_, by omega⟩
    rw [List.drop_append, List.drop_of_length_le (by omega), List.nil_append, show d.length + (L.take i).flatten.length - d.length = (L.take i).flatten.length by omega]
    exact h1
theorem chunk_img (hp : POk id wd L) {i : Nat} {c : List UInt8} (h : L[i]? = some c) : ∃ s, (slotsL 128 L)[i]? = some s ∧ chunkL (imgL id L) s = (0, c) := by
  refine ⟨_, slots_at L 128 i c h, ?_⟩
  obtain ⟨h1, h2⟩ := flat_at L i c h
  have hl := img_len id L
  have hc := hp.ch c (List.mem_of_getElem? h)
  have hhl := headL_len id L
  obtain ⟨z, hz⟩ := img_split id L
  have e : ((imgL id L).drop (128 + (L.take i).flatten.length)).take c.length = c := by
    rw [hz, ← List.append_assoc, List.drop_append, List.drop_of_length_le (by simp [hhl]), List.nil_append, List.length_append, hhl, List.length_replicate, show 128 + (L.take i).flatten.length - (22 + 106) = (L.take i).flatten.length by omega, List.drop_append_of_le_length (by omega), List.take_append_of_le_length (by rw [List.length_drop]; omega)]
    exact h1
  unfold chunkL
  simp only [e]
  rw [if_neg (by omega), if_neg (by omega), if_pos trivial]
end
end Go.Proofs.YtmbfmkiagdhcoaaGreat.Pk
end
