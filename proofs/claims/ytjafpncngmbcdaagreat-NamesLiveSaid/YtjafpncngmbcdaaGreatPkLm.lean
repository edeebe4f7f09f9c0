/-
  Part 13: NnT, NnU, NnV, NnW, NnY, NnZ, NpA, NpB, RowBaseS.
-/
import Derived.Test.YtjafpncngmbcdaaGreatPkLh
import Derived.Test.YtjafpncngmbcdaaGreatPkLi
import Derived.Test.YtjafpncngmbcdaaGreatPkLj
import Derived.Test.YtjafpncngmbcdaaGreatPkLl
set_option linter.unusedSimpArgs false
set_option linter.unusedVariables false
set_option linter.unusedSectionVars false
section
namespace Go.Proofs.YtjafpncngmbcdaaGreat.Nam
open Go Go.SL Go.SL.Stb Go.Proofs Go.Proofs.YtjafpncngmbcdaaGreat.Sh
variable {B : World} {H : List Asrt} {K : Value → WT} {W : WT} {a : Nat} {M : Bk} {f : Fa}
attribute [local irreducible] S.pick S.ld S.ldN S.st S.box S.nc S.fad S.ixS S.ixA S.chr S.prt S.ext S.bin S.sh S.sbin S.beq S.neg1 S.com1 S.not1 S.cvt S.str1 S.lenS S.len S.cap S.lenM S.mx S.mn S.mkM S.cond S.gd S.fa S.dr S.rck S.join S.loop S.cvv S.eqv S.slc S.slcS S.b2s S.lk V U CF Gives E cel mpb osl ros dct dit itr lpo dfo
set_option maxRecDepth 8000
attribute [local irreducible] bk
theorem allW (hw : Inv M) {fv : Value} {G : List Ver → Asrt}
    (hstep : ∀ (D : List Ver) (x : VR) (R : List Asrt) (K' : Value → WT), D ++ [x.1] <+: M.V → (∀ Q, Rs B (Q ++ R) x.2.1 rfC x.1.refs) → E B (G (D ++ [x.1]) :: R) (K' (.tuple #[])) → E B (G D :: R) (S.cvv Tryz.prog fv [str x.1.name, .agg (vC x).toArray] K'))
    (h : E B (G M.V :: bk a M :: H) (K (.tuple #[]))) : E B (G [] :: bk a M :: H) (CF Tryz.prog 61 [ptr a, fv] K) := by
  have hnl := hw.nl
  have hfl := hw.fl
  have hflat := V_flat hw.v.n
  refine E_mono (W := s61 _ _ _) ?_ fun _ => c61
  unfold s61
  refine fd (a := bk a M) (order hw.v.n (by have := hw.n; omega) fun nv _ => ?_)
  refine E_rslen (v := nv) (l := nms M.V) ?_
  refine E_loop (n := 5) (σ := Nat) (fun i => i ≤ (nms M.V).length)
    (fun i => [ptr a, fv, nv, I (nms M.V).length, I i]) (fun i => G (((nms M.V).take i).flatMap (fof M.V)) :: sls cS 9 1 nv (nms M.V) :: bk a M :: H) (fun i => (nms M.V).length - i) 0 (fun _ => rfl) rfl (Nat.zero_le _)
    (fun W hW => by
      rw [List.take_zero, List.flatMap_nil] at hW
      exact sm hW) ?_
  rintro i K0 hi hk0
  refine E_fa fun _ => ?_
  refine E_lss ?_
  refine E_if (fun hc1 => ?_) (fun hc1 => ?_)
  · have hx : (nms M.V)[i]? = some (nms M.V)[i] := List.getElem?_eq_getElem (by omega)
    have hdr : (nms M.V).drop i = (nms M.V)[i] :: (nms M.V).drop (i + 1) := List.drop_eq_getElem_cons (by omega)
    generalize (nms M.V)[i] = k at hx hdr
    have htk : (nms M.V).take (i + 1) = (nms M.V).take i ++ [k] := by rw [List.take_add_one, hx]; rfl
    have hpre : M.V = ((nms M.V).take i).flatMap (fof M.V) ++ (fof M.V k ++ ((nms M.V).drop (i + 1)).flatMap (fof M.V)) := by
      conv => lhs; rw [hflat, ← List.take_append_drop i (nms M.V), List.flatMap_append, hdr, List.flatMap_cons]
    have hfk := hfl k
    refine E_rsix (v := nv) (l := nms M.V) hx fun _ _ => ?_
    refine E_ptld ?_
    refine fd (a := bk a M) (E_bk fun r1 r2 kf ks Lv Lr Lh hf hs => ?_)
    obtain ⟨v, l, hrv, hle, hlr, hlk⟩ := fok_get hf k
    have i1 := hrv B
    have hll : l.length = (fof M.V k).length := by rw [← hle, List.length_map]
    (repeat first | refine gS ?_ | refine gA fun _ => ?_)
    refine E_dlkg hlk ?_
    refine E_rslen (v := v) (l := l) ?_
    refine E_loop (n := 9) (σ := Nat) (fun j => j ≤ l.length)
      (fun j => [ptr a, fv, str k, nv, I (nms M.V).length, I i, v, I l.length, I j])
      (fun j => G (((nms M.V).take i).flatMap (fof M.V) ++ (fof M.V k).take j) :: sls cS 9 1 nv (nms M.V) :: cel true a 81 [.map (some r1), .map (some r2), I M.now] :: dct kL true r1 kf :: dct kL true r2 ks :: spool vC Lv :: spool rfC Lr :: spool hC Lh :: H) (fun j => l.length - j) 0 (fun _ => rfl) rfl (Nat.zero_le _)
      (fun W hW => by
        rw [List.take_zero, List.append_nil] at hW
        exact sm hW) ?_
    rintro j K1 hj hk1
    refine E_fa fun _ => ?_
    refine E_lss ?_
    refine E_if (fun hc2 => ?_) (fun hc2 => ?_)
    · have hy : l[j]? = some l[j] := List.getElem?_eq_getElem (by omega)
      have hym := hlr _ (List.mem_of_getElem? hy)
      have hyf : (l[j]).1 ∈ fof M.V k := hle ▸ List.mem_map_of_mem (List.getElem_mem _)
      generalize l[j] = x at hy hym hyf
      have hyn := (fof_mem.1 hyf).2
      have hfj : (fof M.V k)[j]? = some x.1 := by rw [← hle, List.getElem?_map, hy]; rfl
      have htk2 : (fof M.V k).take (j + 1) = (fof M.V k).take j ++ [x.1] := by rw [List.take_add_one, hfj]; rfl
      refine E_rsix (v := v) (l := l) hy fun _ _ => ?_
      refine E_ptldA ?_
      refine E_box fun b7 => ?_
      refine E_stW (vs := vC x) rfl rfl ?_
      (repeat first | refine gS ?_ | refine gA fun _ => ?_)
      have rp := rs_pool (B := B) (enc := rfC) hym
      have hrx : ∀ Q, Rs B (Q ++ (spool rfC Lr :: sls cS 9 1 nv (nms M.V) :: cel true b7 31 (vC x) :: cel true a 81 [.map (some r1), .map (some r2), I M.now] :: dct kL true r1 kf :: dct kL true r2 ks :: spool vC Lv :: spool hC Lh :: H)) x.2.1 rfC x.1.refs := fun Q => rs_app Q (rp _)
      refine sm (G := G (((nms M.V).take i).flatMap (fof M.V) ++ (fof M.V k).take j) :: spool rfC Lr :: sls cS 9 1 nv (nms M.V) :: cel true b7 31 (vC x) :: cel true a 81 [.map (some r1), .map (some r2), I M.now] :: dct kL true r1 kf :: dct kL true r2 ks :: spool vC Lv :: spool hC Lh :: H) ?_
      rw [← hyn]
      refine hstep _ x _ _ ?_ hrx ?_
      · rw [List.append_assoc, hyn, ← htk2]
        conv => rhs; rw [hpre]
        refine List.prefix_append_right_inj _ |>.2 ?_
        exact (List.take_prefix _ _).trans (List.prefix_append _ _)
      · refine E_addI (by omega) (by omega) ?_
        have hk2 := hk1 (j + 1) (by omega) (by omega)
        rw [htk2, ← List.append_assoc] at hk2
        rw [hyn]
        exact sm hk2
    · have hje : j = (fof M.V k).length := by omega
      subst hje
      rw [List.take_length]
      refine E_addI (by omega) (by omega) ?_
      refine sm (G := cel true a 81 [.map (some r1), .map (some r2), I M.now] :: dct kL true r1 kf :: dct kL true r2 ks :: spool vC Lv :: spool rfC Lr :: spool hC Lh :: G (((nms M.V).take i).flatMap (fof M.V) ++ fof M.V k) :: sls cS 9 1 nv (nms M.V) :: H) ?_
      refine E_bkS r1 r2 hf hs rfl ?_
      have hk2 := hk0 (i + 1) (by omega) (by omega)
      rw [htk, List.flatMap_append, List.flatMap_cons, List.flatMap_nil, List.append_nil] at hk2
      exact sm hk2
  · have hie : i = (nms M.V).length := by omega
    subst hie
    rw [List.take_length, ← hflat]
    exact sm h
end Go.Proofs.YtjafpncngmbcdaaGreat.Nam
end
section
namespace Go.Proofs.YtjafpncngmbcdaaGreat.Nam
open Go Go.SL Go.SL.Stb Go.Proofs Go.Proofs.YtjafpncngmbcdaaGreat.Sh
variable {B : World} {H : List Asrt} {K : Value → WT} {W : WT} {a : Nat} {M : Bk} {f : Fa}
def outA {α : Type} (ob T T2 sz : Nat) (enc : α → List Value) (l : List α) : Asrt := ex fun ov : Cv => all [cel true ob T [ov.1], sls enc T2 sz ov.1 l]
theorem E_outA {α : Type} {ob T T2 sz : Nat} {enc : α → List Value} {l : List α} (h : ∀ ov [CellI ov], E B (cel true ob T [ov] :: sls enc T2 sz ov l :: H) W) : E B (outA ob T T2 sz enc l :: H) W := by
  refine E_ex fun ov => E_all ?_
  have : CellI ov.1 := ⟨ov.2⟩
  exact h ov.1
theorem E_outS {α : Type} {ob T T2 sz : Nat} {enc : α → List Value} {l : List α} {ov : Value} [hc : CellI ov] (h : E B (outA ob T T2 sz enc l :: H) W) : E B (cel true ob T [ov] :: sls enc T2 sz ov l :: H) W := by
  have h' := E_all' (E_ex' (f := fun ov : Cv => all [cel true ob T [ov.1], sls enc T2 sz ov.1 l]) ⟨ov, hc.pf⟩ h)
  exact E_same (by repeat (first | exact Same.refl | (refine Same.cons (by repeat (first | exact Find.here | apply Find.there)) ?_) | (refine Same.drop ?_))) h'
instance rfA : EncA rfC 35 := ⟨fun _ => inferInstance, fun _ => inferInstance⟩
attribute [local irreducible] S.pick S.ld S.ldN S.st S.box S.nc S.fad S.ixS S.ixA S.chr S.prt S.ext S.bin S.sh S.sbin S.beq S.neg1 S.com1 S.not1 S.cvt S.str1 S.lenS S.len S.cap S.lenM S.mx S.mn S.mkM S.cond S.gd S.fa S.dr S.rck S.join S.loop S.cvv S.eqv S.slc S.slcS S.b2s S.lk V U CF Gives E cel mpb osl ros dct dit itr lpo dfo
set_option maxRecDepth 8000
attribute [local irreducible] bk outA
theorem isNaN {x : Int} (h : E B H (K (.bool false))) : E B H (CF Tryz.prog 102 [I x] K) := by
  refine E_mono (W := s102 _ K) ?_ fun _ => c102
  unfold s102
  refine E_neq ?_
  rw [decide_eq_false (by simp)]; exact h
theorem compare {x y : Int} (h : E B H (K (I (cmpI x y)))) : E B H (CF Tryz.prog 65 [I x, I y] K) := by
  refine E_mono (W := s65 _ _ K) ?_ fun _ => c65
  unfold s65
  refine isNaN (isNaN ?_)
  unfold cmpI at h
  (repeat first | refine gS ?_ | refine gA fun _ => ?_ | refine gX fun _ _ => ?_ | refine gT ?_ | refine gF ?_ | refine gI ?_)
  refine E_if (fun hc => ?_) (fun hc => ?_)
  · rw [if_pos hc] at h; exact h
  · rw [if_neg hc] at h
    (repeat first | refine gS ?_ | refine gA fun _ => ?_ | refine gX fun _ _ => ?_ | refine gT ?_ | refine gF ?_ | refine gI ?_)
    refine E_if (fun hc => ?_) (fun hc => ?_)
    · rw [if_pos hc] at h; exact h
    · rw [if_neg hc] at h; exact h
theorem cmpOr2 {v : Value} {x y : Int} [Rs B H v cI [x, y]] (h : E B H (K (I (if x ≠ 0 then x else y)))) : E B H (CF Tryz.prog 64 [v] K) := by
  refine E_mono (W := s64 _ K) ?_ fun _ => c64
  unfold s64
  refine E_rslen (v := v) (l := [x, y]) ?_
  refine E_loop (n := 4) (σ := Nat) (fun j => j ≤ 2 ∧ (1 ≤ j → x = 0) ∧ (2 ≤ j → y = 0)) (fun j => [I 0, v, I 2, I j]) (fun _ => H) (fun j => 2 - j) 0 (fun _ => rfl) rfl ⟨by omega, by omega, by omega⟩ (fun W hW => hW) ?_
  intro j K0 ⟨hj, h1, h2⟩ hk
  refine E_fa fun _ => ?_
  refine E_lss ?_
  match j, hj, h1, h2, hk with
  | 0, hj, h1, h2, hk =>
    refine E_ifT (by omega) ?_
    refine E_rsix (v := v) (l := [x, y]) (i := 0) (x := x) rfl fun _ _ => ?_
    refine E_ptld ?_
    refine E_neq ?_
    refine E_if (fun hc => ?_) (fun hc => ?_)
    · rw [if_pos hc] at h; exact h
    · refine E_addI (by omega) (by omega) ?_
      exact hk 1 ⟨by omega, fun _ => by omega, by omega⟩ (by omega)
  | 1, hj, h1, h2, hk =>
    refine E_ifT (by omega) ?_
    have hx := h1 (Nat.le_refl _)
    rw [if_neg (by omega)] at h
    refine E_rsix (v := v) (l := [x, y]) (i := 1) (x := y) rfl fun _ _ => ?_
    refine E_ptld ?_
    refine E_neq ?_
    refine E_if (fun hc => ?_) (fun hc => ?_)
    · exact h
    · refine E_addI (by omega) (by omega) ?_
      exact hk 2 ⟨by omega, fun _ => hx, fun _ => by omega⟩ (by omega)
  | 2, hj, h1, h2, hk =>
    refine E_ifF (by omega) ?_
    rw [if_neg (by have := h1 (by omega); omega), h2 (Nat.le_refl _)] at h
    exact h
  | j + 3, hj, _, _, _ => omega
theorem u_intL : Tryz.prog.underlying 141 = some (.slice 3) := u_ints
theorem spotCmp : CmpOk Tryz.prog B [] (.func (.func 63) #[] #[]) rfC cmpR := fun x y H K h => by
  show E B H _
  replace h : E B H (K (I (cmpR x y))) := h
  refine E_cvv (by kernel_rfl) ?_
  show E B _ (CF Tryz.prog 63 [.agg (rfC x).toArray, .agg (rfC y).toArray] _)
  refine E_mono (W := s63 _ _ K) ?_ fun _ => c63
  unfold s63
  refine E_box (vs := rfC x) fun b2 => ?_
  refine E_box (vs := rfC y) fun b3 => ?_
  (repeat first | refine gS ?_ | refine gA fun _ => ?_ | refine gX fun _ _ => ?_ | refine gT ?_ | refine gF ?_ | refine gI ?_)
  refine compare ?_
  (repeat (refine E_rck1 (by first | exact E_ld (E_fact rfl) | exact E_ld' (by assumption) (E_fact rfl) | exact E_b2sR (E_fact rfl) | exact E_gdnF (by assumption) (E_ld (E_fact rfl)) | exact E_gdT (by assumption) (E_ld (E_fact rfl)) | exact E_gtf (E_ld (E_fact rfl)) | exact E_gft (E_ld (E_fact rfl)) | exact E_ldNA (E_fact rfl) | exact E_ptld (E_fact rfl) | exact E_gtf (E_ldNA (E_fact rfl))) ?_)); (first | (refine E_rck0 ?_) | skip)
  refine compare ?_
  refine E_bsl (l0 := [I 0, I 0]) [(0, 1), (1, 1)] u_intL elt_int (by simp) (by decide) rfl fun b => ?_
  have hr : Rs B (cel true b 3 [I (cmpI x.bin y.bin), I (cmpI x.slot y.slot)] :: H) (.slice (some ⟨b, 0, none⟩) 2 2) cI [cmpI x.bin y.bin, cmpI x.slot y.slot] := rs_cel (by simp) rfl
  refine sm (G := cel true b 3 [I (cmpI x.bin y.bin), I (cmpI x.slot y.slot)] :: H) ?_
  refine cmpOr2 (x := cmpI x.bin y.bin) (y := cmpI x.slot y.slot) ?_
  exact E_drop h
theorem spotAsk {b : Nat} : AskOk Tryz.prog B [cel true b 109 [.func (.func 63) #[] #[]]] (.func (.func 68) #[] #[ptr b]) rfC (alk (ltC cmpR)) := fun x y H K h => by
  refine E_cvv (by kernel_rfl) ?_
  show E B (cel true b 109 [.func (.func 63) #[] #[]] :: H) (CF Tryz.prog 68 [.agg (rfC x).toArray, .agg (rfC y).toArray, ptr b] _)
  refine E_mono (W := s68 _ _ _ K) ?_ fun _ => c68
  unfold s68
  refine E_box (vs := rfC x) fun b2 => ?_
  refine E_box (vs := rfC y) fun b3 => ?_
  (repeat first | refine gS ?_ | refine gA fun _ => ?_ | refine gX fun _ _ => ?_ | refine gT ?_ | refine gF ?_ | refine gI ?_)
  refine spotCmp x y _ _ ?_
  show E B _ _
  refine E_eql ?_
  rw [eqR]
  replace h : E B (cel true b 109 [.func (.func 63) #[] #[]] :: H) (K (.bool (alk (ltC cmpR) x y))) := h
  show E B (cel true b3 38 (rfC y) :: cel true b2 38 (rfC x) :: cel true b 109 [.func (.func 63) #[] #[]] :: H) _
  exact sm h
theorem liveStep {ob : Nat} {D : List Rf} {x : VR} {k : List UInt8} {R : List Asrt} (hD : D.length + x.1.refs.length ≤ 1000000) (hr : ∀ Q, Rs B (Q ++ R) x.2.1 rfC x.1.refs) (h : E B (outA ob 29 38 35 rfC (D ++ x.1.refs) :: R) (K (.tuple #[]))) :
    E B (outA ob 29 38 35 rfC D :: R) (S.cvv Tryz.prog (.func (.func 62) #[] #[ptr ob]) [str k, .agg (vC x).toArray] K) := by
  refine E_outA fun ov _ => ?_
  refine E_cvv (by kernel_rfl) ?_
  show E B _ (CF Tryz.prog 62 [str k, .agg (vC x).toArray, ptr ob] _)
  refine E_mono (W := s62 _ _ _ K) ?_ fun _ => c62
  unfold s62
  refine E_box (vs := vC x) fun b2 => ?_
  (repeat first | refine gS ?_ | refine gA fun _ => ?_ | refine gX fun _ _ => ?_ | refine gT ?_ | refine gF ?_ | refine gI ?_)
  have i1 : Rs B (cel true b2 31 (vC x) :: cel true ob 29 [ov] :: R) x.2.1 rfC x.1.refs := hr [_, _]
  refine fd (a := sls rfC 38 35 ov D) ?_
  refine E_sapps (enc := rfC) u_refs elt_ref (by omega) (by omega) fun ov' _ => ?_
  (repeat first | refine gS ?_ | refine gA fun _ => ?_ | refine gX fun _ _ => ?_ | refine gT ?_ | refine gF ?_ | refine gI ?_)
  refine sm (G := cel true ob 29 [ov'] :: sls rfC 38 35 ov' (D ++ x.1.refs) :: R) ?_
  exact E_outS h
theorem refs_len (hw : Inv M) {D : List Ver} (hD : D <+: M.V) : (D.flatMap (·.refs)).length ≤ 524288 := by
  have h1 : (D.flatMap (·.refs)).length ≤ 256 * D.length := flat_len fun v hv => hw.r v (hD.subset hv)
  have h2 := hw.n
  have h3 := hD.length_le
  omega
theorem liveP (hw : Inv M) (h : ∀ v [CellI v], E B (sls rfC 38 35 v (liveRs (refsL M)) :: bk a M :: H) (K v)) : E B (bk a M :: H) (CF Tryz.prog 26 [ptr a] K) := by
  have hl := refs_len hw (List.prefix_refl _)
  refine E_mono (W := s26 _ K) ?_ fun _ => c26
  unfold s26
  refine E_box (vs := [nil]) fun ob => ?_
  refine sls_nil rfC 35 (T := 38) ?_
  refine sm (G := cel true ob 29 [nil] :: sls rfC 38 35 nil [] :: bk a M :: H) ?_
  refine E_outS ?_
  refine allW (G := fun D => outA ob 29 38 35 rfC (D.flatMap (·.refs))) hw (fun D x R K' hpre hr hk => ?_) ?_
  · have := refs_len hw hpre
    rw [List.flatMap_append] at this hk
    have e : [x.1].flatMap (fun v : Ver => v.refs) = x.1.refs := by simp
    rw [e] at this hk
    rw [List.length_append] at this
    exact liveStep (by omega) hr hk
  refine E_outA fun ov _ => ?_
  show E B (_ :: sls rfC 38 35 ov (refsL M) :: _) _
  replace hl : (refsL M).length ≤ 524288 := hl
  (repeat first | refine gS ?_ | refine gA fun _ => ?_ | refine gX fun _ _ => ?_ | refine gT ?_ | refine gF ?_ | refine gI ?_)
  rename_i sb
  (repeat first | refine gS ?_ | refine gA fun _ => ?_ | refine gX fun _ _ => ?_ | refine gT ?_ | refine gF ?_ | refine gI ?_)
  refine E_mono (W := s66 _ _ _) ?_ fun _ => c66
  unfold s66
  refine E_rslen (v := ov) (l := refsL M) ?_
  refine E_mono (W := s103 _ _ _ _) ?_ fun _ => c103
  refine sm (G := sls rfC 38 35 ov (refsL M) :: cel true sb 109 [.func (.func 63) #[] #[]] :: cel true ob 29 [ov] :: bk a M :: H) ?_
  refine stC_ok (C := []) (l := refsL M) (H := cel true sb 109 [.func (.func 63) #[] #[]] :: cel true ob 29 [ov] :: bk a M :: H) (sw := 171) (rot := 148) (sym := 133) (ins := 132) swR spotCmp (fun _ _ _ _ _ _ _ hk => E_mono hk fun _ => c171) (fun _ _ _ _ _ _ _ hk => E_mono hk fun _ => c148) (fun _ _ _ _ _ _ _ hk => E_mono hk fun _ => c133) (fun _ _ _ _ _ _ hk => E_mono hk fun _ => c132) (by omega) fun l' h1 h2 h3 => ?_
  show E B (sls rfC 38 35 ov l' :: cel true sb 109 [.func (.func 63) #[] #[]] :: cel true ob 29 [ov] :: bk a M :: H) _
  (repeat first | refine gS ?_ | refine gA fun _ => ?_ | refine gX fun _ _ => ?_ | refine gT ?_ | refine gF ?_ | refine gI ?_)
  refine E_mono (W := s67 _ _ _) ?_ fun _ => c67
  refine cptC_ok (H := cel true ob 29 [ov] :: bk a M :: H) (l := l') (C := [cel true sb 109 [.func (.func 63) #[] #[]]]) spotAsk u_refs elt_ref (by decide) rfl (by omega) fun v' _ => ?_
  rw [live_plain h2 h3]
  show E B (sls rfC 38 35 v' (liveRs (refsL M)) :: cel true sb 109 [.func (.func 63) #[] #[]] :: cel true ob 29 [ov] :: bk a M :: H) _
  exact sm (h v')
end Go.Proofs.YtjafpncngmbcdaaGreat.Nam
end
section
namespace Go.Proofs.YtjafpncngmbcdaaGreat.Nam
open Go Go.SL Go.SL.Stb Go.Proofs Go.Proofs.YtjafpncngmbcdaaGreat.Sh
variable {B : World} {H : List Asrt} {K : Value → WT} {W : WT} {a : Nat} {M : Bk} {f : Fa}
theorem u_factL : Tryz.prog.underlying 22 = some (.slice 60) := by kernel_rfl
theorem elt_fact : Elt Tryz.prog 60 14 168 zFact := elt_of (zv := .agg zFact.toArray) (by kernel_rfl) rfl rfl
structure FR (Lr : List (Value × List Rf)) (Lh : List (Value × List (List UInt8 × Int))) (p : FV) : Prop where
  r : (p.2.1.1, p.1.refs) ∈ Lr ∨ (p.2.1.1 = nil ∧ p.1.refs = [])
  h : (p.2.2.1.1, p.1.held) ∈ Lh ∨ (p.2.2.1.1 = nil ∧ p.1.held = [])
  m : p.2.2.2.1 = nil ∧ p.1.moves = []
theorem FR.mono {Lr Lr' : List (Value × List Rf)} {Lh Lh' : List (Value × List (List UInt8 × Int))} {p : FV} (h : FR Lr Lh p) (h1 : ∀ x ∈ Lr, x ∈ Lr') (h2 : ∀ x ∈ Lh, x ∈ Lh') : FR Lr' Lh' p :=
  ⟨h.r.imp (h1 _) id, h.h.imp (h2 _) id, h.m⟩
abbrev fvN (f : Fa) : FV := (f, ⟨nil, rfl⟩, ⟨nil, rfl⟩, ⟨nil, rfl⟩)
structure FS where
  ov : Cv
  gv : Cv
  L : List FV
  LG : List FV
  Lr : List (Value × List Rf)
structure FcOk (t : Int) (D : List Ver) (x : FS) : Prop where
  l : x.L.map (·.1) = tickF t :: D.map filedF
  g : x.LG.map (·.1) = (D.filter (·.gone)).map goneF
  r : ∀ p ∈ x.L, FR x.Lr [] p
  s : ∀ p ∈ x.LG, FR x.Lr [] p
def fcs (ob gb : Nat) (t : Int) (D : List Ver) : Asrt := ex fun x : FS => all [cel true ob 22 [x.ov.1], sls faE 60 14 x.ov.1 x.L, cel true gb 22 [x.gv.1], sls faE 60 14 x.gv.1 x.LG, spool rfC x.Lr, pur (FcOk t D x)]
theorem E_fcs {ob gb : Nat} {t : Int} {D : List Ver} (h : ∀ ov gv L LG Lr [CellI ov] [CellI gv], (∀ x : FS, x.L = L → x.LG = LG → x.Lr = Lr → FcOk t D x) → E B (cel true ob 22 [ov] :: sls faE 60 14 ov L :: cel true gb 22 [gv] :: sls faE 60 14 gv LG :: spool rfC Lr :: H) W) : E B (fcs ob gb t D :: H) W := by
  refine E_ex fun x => E_all ?_
  refine E_find (a := pur (FcOk t D x)) (by repeat (first | exact Find.here | apply Find.there)) (E_pur fun hr => ?_)
  have : CellI x.ov.1 := ⟨x.ov.2⟩
  have : CellI x.gv.1 := ⟨x.gv.2⟩
  exact h x.ov.1 x.gv.1 x.L x.LG x.Lr fun y e1 e2 e3 => ⟨by rw [e1]; exact hr.l, by rw [e2]; exact hr.g, by rw [e1, e3]; exact hr.r, by rw [e2, e3]; exact hr.s⟩
theorem E_fcsS {ob gb : Nat} {t : Int} {D : List Ver} {ov gv : Value} {L LG : List FV} {Lr : List (Value × List Rf)} [hc : CellI ov] [hc' : CellI gv] (hf : FcOk t D ⟨⟨ov, hc.pf⟩, ⟨gv, hc'.pf⟩, L, LG, Lr⟩) (h : E B (fcs ob gb t D :: H) W) :
    E B (cel true ob 22 [ov] :: sls faE 60 14 ov L :: cel true gb 22 [gv] :: sls faE 60 14 gv LG :: spool rfC Lr :: H) W := by
  refine E_pur' hf ?_
  have h' := E_all' (E_ex' (f := fun x : FS => all [cel true ob 22 [x.ov.1], sls faE 60 14 x.ov.1 x.L, cel true gb 22 [x.gv.1], sls faE 60 14 x.gv.1 x.LG, spool rfC x.Lr, pur (FcOk t D x)]) ⟨⟨ov, hc.pf⟩, ⟨gv, hc'.pf⟩, L, LG, Lr⟩ h)
  exact E_same (by repeat (first | exact Same.refl | (refine Same.cons (by repeat (first | exact Find.here | apply Find.there)) ?_) | (refine Same.drop ?_))) h'
theorem fill_fact {f : Fa} {rv hv mv : Value} [CellI rv] [CellI hv] [CellI mv] : FillI [(0, 14)] zFact [(0, .agg (faL f rv hv mv).toArray)] (faL f rv hv mv) := by
  have h1 : SetsI zFact 0 (faL f rv hv mv) (faL f rv hv mv) := ⟨by simp [faL], by unfold setAll; simp [faL]⟩
  have h2 : AtLen (faL f rv hv mv) 14 := ⟨rfl⟩
  have h3 : AtN [(0, 14)] 0 (0, 14) := ⟨rfl⟩
  have hc : CellsI (.agg (faL f rv hv mv).toArray) (faL f rv hv mv) := inferInstance
  exact fillI_cons (ha := h3) (hv := hc) (hs := h1) (hn := h2) (h := fillI_nil)
attribute [local irreducible] S.pick S.ld S.ldN S.st S.box S.nc S.fad S.ixS S.ixA S.chr S.prt S.ext S.bin S.sh S.sbin S.beq S.neg1 S.com1 S.not1 S.cvt S.str1 S.lenS S.len S.cap S.lenM S.mx S.mn S.mkM S.cond S.gd S.fa S.dr S.rck S.join S.loop S.cvv S.eqv S.slc S.slcS S.b2s S.lk V U CF Gives E cel mpb osl ros dct dit itr lpo dfo
set_option maxRecDepth 8000
attribute [local irreducible] bk fcs
theorem factsStep {ob gb : Nat} {t : Int} {D : List Ver} {x : VR} {R : List Asrt} (hD : D.length ≤ 2048) (hrn : x.1.refs.length ≤ 256) (hr : ∀ Q, Rs B (Q ++ R) x.2.1 rfC x.1.refs) (h : E B (fcs ob gb t (D ++ [x.1]) :: R) (K (.tuple #[]))) :
    E B (fcs ob gb t D :: R) (S.cvv Tryz.prog (.func (.func 70) #[] #[ptr ob, ptr gb]) [str x.1.name, .agg (vC x).toArray] K) := by
  refine E_fcs fun ov gv L LG Lr _ _ hf0 => ?_
  have hf := hf0 ⟨⟨ov, CellI.pf⟩, ⟨gv, CellI.pf⟩, L, LG, Lr⟩ rfl rfl rfl
  have hL : L.length = D.length + 1 := by have := congrArg List.length hf.l; simpa using this
  have hLG : LG.length ≤ D.length := by
    have := congrArg List.length hf.g
    rw [List.length_map, List.length_map] at this
    rw [this]; exact List.length_filter_le _ _
  refine E_cvv (by kernel_rfl) ?_
  show E B _ (CF Tryz.prog 70 [str x.1.name, .agg (vC x).toArray, ptr ob, ptr gb] _)
  refine E_mono (W := s70 _ _ _ _ K) ?_ fun _ => c70
  unfold s70
  refine E_box (vs := vC x) fun b2 => ?_
  (repeat first | refine gS ?_ | refine gA fun _ => ?_ | refine gX fun _ _ => ?_ | refine gT ?_ | refine gF ?_ | refine gI ?_)
  have i1 : Rs B (cel true b2 31 (vC x) :: cel true ob 22 [ov] :: sls faE 60 14 ov L :: cel true gb 22 [gv] :: sls faE 60 14 gv LG :: spool rfC Lr :: R) x.2.1 rfC x.1.refs := hr [_, _, _, _, _, _]
  refine cloneR (v := x.2.1) (l := x.1.refs) (by omega) fun v' iv' => ?_
  (repeat (refine E_rck1 (by first | exact E_ld (E_fact rfl) | exact E_ld' (by assumption) (E_fact rfl) | exact E_b2sR (E_fact rfl) | exact E_gdnF (by assumption) (E_ld (E_fact rfl)) | exact E_gdT (by assumption) (E_ld (E_fact rfl)) | exact E_gtf (E_ld (E_fact rfl)) | exact E_gft (E_ld (E_fact rfl)) | exact E_ldNA (E_fact rfl) | exact E_ptld (E_fact rfl) | exact E_gtf (E_ldNA (E_fact rfl))) ?_)); (first | (refine E_rck0 ?_) | skip)
  refine E_build (l := faL (filedF x.1) v' nil nil) str_fact ?_
  (repeat (refine E_rck1 (by first | exact E_ld (E_fact rfl) | exact E_ld' (by assumption) (E_fact rfl) | exact E_b2sR (E_fact rfl) | exact E_gdnF (by assumption) (E_ld (E_fact rfl)) | exact E_gdT (by assumption) (E_ld (E_fact rfl)) | exact E_gtf (E_ld (E_fact rfl)) | exact E_gft (E_ld (E_fact rfl)) | exact E_ldNA (E_fact rfl) | exact E_ptld (E_fact rfl) | exact E_gtf (E_ldNA (E_fact rfl))) ?_)); (first | (refine E_rck0 ?_) | skip)
  refine fd (a := sls faE 60 14 ov L) ?_
  refine E_sapp1R (enc := faE) ((filedF x.1, ⟨v', iv'.pf⟩, ⟨nil, rfl⟩, ⟨nil, rfl⟩) : FV) u_factL elt_fact rfl (by decide) (by omega) (by omega) (fun b W hW => by (repeat (refine E_rck1 (by first | exact E_ld (E_fact rfl) | exact E_ld' (by assumption) (E_fact rfl) | exact E_b2sR (E_fact rfl) | exact E_gdnF (by assumption) (E_ld (E_fact rfl)) | exact E_gdT (by assumption) (E_ld (E_fact rfl)) | exact E_gtf (E_ld (E_fact rfl)) | exact E_gft (E_ld (E_fact rfl)) | exact E_ldNA (E_fact rfl) | exact E_ptld (E_fact rfl) | exact E_gtf (E_ldNA (E_fact rfl))) ?_)); (first | (refine E_rck0 ?_) | skip); exact hW) fun ov' _ => ?_
  (repeat first | refine gS ?_ | refine gA fun _ => ?_ | refine gX fun _ _ => ?_ | refine gT ?_ | refine gF ?_ | refine gI ?_)
  refine fd (a := spool rfC Lr) ?_
  refine fd (a := sls rfC 38 35 v' x.1.refs) ?_
  refine E_give ?_
  have hl' : (L ++ [((filedF x.1, ⟨v', iv'.pf⟩, ⟨nil, rfl⟩, ⟨nil, rfl⟩) : FV)]).map (·.1) = tickF t :: (D ++ [x.1]).map filedF := by
    rw [List.map_append, hf.l]; simp
  have hr' : ∀ p ∈ L ++ [((filedF x.1, ⟨v', iv'.pf⟩, ⟨nil, rfl⟩, ⟨nil, rfl⟩) : FV)], FR ((v', x.1.refs) :: Lr) [] p := fun p hp => by
    rcases List.mem_append.1 hp with hp | hp
    · exact (hf.r p hp).mono (fun _ h => List.mem_cons_of_mem _ h) fun _ h => h
    · simp only [List.mem_singleton] at hp
      subst hp
      exact ⟨.inl List.mem_cons_self, .inr ⟨rfl, rfl⟩, rfl, rfl⟩
  have hs' : ∀ p ∈ LG, FR ((v', x.1.refs) :: Lr) [] p := fun p hp => (hf.s p hp).mono (fun _ h => List.mem_cons_of_mem _ h) fun _ h => h
  cases hg : x.1.gone with
  | true =>
    (repeat first | refine gS ?_ | refine gA fun _ => ?_ | refine gX fun _ _ => ?_ | refine gT ?_ | refine gF ?_ | refine gI ?_)
    refine E_build (l := faL (goneF x.1) nil nil nil) str_fact ?_
    refine fd (a := sls faE 60 14 gv LG) ?_
    refine E_sapp1 (enc := faE) (fvN (goneF x.1)) u_factL elt_fact rfl (by decide) (by omega) (by omega) fun gv' _ => ?_
    (repeat first | refine gS ?_ | refine gA fun _ => ?_ | refine gX fun _ _ => ?_ | refine gT ?_ | refine gF ?_ | refine gI ?_)
    refine sm (G := cel true ob 22 [ov'] :: sls faE 60 14 ov' (L ++ [((filedF x.1, ⟨v', iv'.pf⟩, ⟨nil, rfl⟩, ⟨nil, rfl⟩) : FV)]) :: cel true gb 22 [gv'] :: sls faE 60 14 gv' (LG ++ [fvN (goneF x.1)]) :: spool rfC ((v', x.1.refs) :: Lr) :: R) ?_
    refine E_fcsS ⟨hl', ?_, hr', fun p hp => ?_⟩ h
    · show (LG ++ [fvN (goneF x.1)]).map (·.1) = _
      rw [List.map_append, hf.g, List.filter_append, List.map_append]
      simp [hg]
    · rcases List.mem_append.1 hp with hp | hp
      · exact hs' p hp
      · simp only [List.mem_singleton] at hp
        subst hp
        exact ⟨.inr ⟨rfl, rfl⟩, .inr ⟨rfl, rfl⟩, rfl, rfl⟩
  | false =>
    (repeat first | refine gS ?_ | refine gA fun _ => ?_ | refine gX fun _ _ => ?_ | refine gT ?_ | refine gF ?_ | refine gI ?_)
    refine sm (G := cel true ob 22 [ov'] :: sls faE 60 14 ov' (L ++ [((filedF x.1, ⟨v', iv'.pf⟩, ⟨nil, rfl⟩, ⟨nil, rfl⟩) : FV)]) :: cel true gb 22 [gv] :: sls faE 60 14 gv LG :: spool rfC ((v', x.1.refs) :: Lr) :: R) ?_
    refine E_fcsS ⟨hl', ?_, hr', hs'⟩ h
    show LG.map (·.1) = _
    rw [hf.g, List.filter_append, List.map_append]
    simp [hg]
theorem factsP (hw : Inv M) (h : ∀ v L Lr Lh [CellI v], L.map (·.1) = factsL M → (∀ p ∈ L, FR Lr Lh p) → E B (sls faE 60 14 v L :: spool rfC Lr :: spool hC Lh :: bk a M :: H) (K v)) : E B (bk a M :: H) (CF Tryz.prog 28 [ptr a] K) := by
  have hn := hw.n
  have h16 := hw.s16
  refine E_mono (W := s28 _ K) ?_ fun _ => c28
  unfold s28
  refine E_peq u_pBook ?_
  refine E_ff ?_
  refine E_bk fun r1 r2 kf ks Lv Lr Lh hf hs => ?_
  (repeat first | refine gS ?_ | refine gA fun _ => ?_ | refine gX fun _ _ => ?_ | refine gT ?_ | refine gF ?_ | refine gI ?_)
  refine E_build (l := [I 8, I 0, I 0, I 0, .string ⟨#[]⟩, I 0, I M.now, nil, nil, nil, I 0, I 0, I 0, I 0]) str_fact ?_
  refine E_bsl (l0 := zFact) [(0, 14)] u_factL elt_fact (by simp) (by decide) rfl (hf := fill_fact (f := tickF M.now) (rv := nil) (hv := nil) (mv := nil)) fun b1 => ?_
  refine E_slsC (enc := faE) [fvN (tickF M.now)] 1 rfl rfl ?_
  refine E_box (vs := [nil]) fun ob => ?_
  (repeat first | refine gS ?_ | refine gA fun _ => ?_ | refine gX fun _ _ => ?_ | refine gT ?_ | refine gF ?_ | refine gI ?_)
  rename_i gb
  refine sls_nil faE 14 (T := 60) ?_
  refine pool_new (slQ rfC) ?_
  refine sm (G := cel true a 81 [.map (some r1), .map (some r2), I M.now] :: dct kL true r1 kf :: dct kL true r2 ks :: spool vC Lv :: spool rfC Lr :: spool hC Lh :: cel true ob 22 [.slice (some ⟨b1, 0, none⟩) 1 1] :: sls faE 60 14 (.slice (some ⟨b1, 0, none⟩) 1 1) [fvN (tickF M.now)] :: cel true gb 22 [nil] :: sls faE 60 14 nil [] :: spool rfC [] :: H) ?_
  refine E_bkS r1 r2 hf hs rfl ?_
  refine sm (G := cel true ob 22 [.slice (some ⟨b1, 0, none⟩) 1 1] :: sls faE 60 14 (.slice (some ⟨b1, 0, none⟩) 1 1) [fvN (tickF M.now)] :: cel true gb 22 [nil] :: sls faE 60 14 nil [] :: spool rfC [] :: bk a M :: H) ?_
  refine E_fcsS (t := M.now) (D := []) ⟨rfl, rfl, fun p hp => ?_, fun p hp => by cases hp⟩ ?_
  · simp only [List.mem_singleton] at hp
    subst hp
    exact ⟨.inr ⟨rfl, rfl⟩, .inr ⟨rfl, rfl⟩, rfl, rfl⟩
  refine allW (G := fcs ob gb M.now) hw (fun D x R K' hpre hr hk => ?_) ?_
  · have h1 := hpre.length_le
    simp only [List.length_append, List.length_singleton] at h1
    exact factsStep (by omega) (hw.r _ (hpre.subset (by simp))) hr hk
  refine E_fcs fun ov gv L LG Lr' _ _ hf0 => ?_
  have hf := hf0 ⟨⟨ov, CellI.pf⟩, ⟨gv, CellI.pf⟩, L, LG, Lr'⟩ rfl rfl rfl
  clear hf0
  have hL : L.length = M.V.length + 1 := by have := congrArg List.length hf.l; simpa using this
  have hLG : LG.length ≤ M.V.length := by
    have := congrArg List.length hf.g
    rw [List.length_map, List.length_map] at this
    rw [this]; exact List.length_filter_le _ _
  refine fd (a := bk a M) ?_
  refine shots hw fun sv SL Lo _ hsh => ?_
  have hSl : SL.length = M.S.length := by rw [← hsh.1, List.length_map]
  refine E_rslen (v := sv) (l := SL) ?_
  refine E_loop (n := 5) (σ := Nat × Cv × List FV) (fun s => s.1 ≤ SL.length ∧ s.2.2.map (·.1) = (tickF M.now :: M.V.map filedF) ++ (M.S.take s.1).map shotF ∧ ∀ p ∈ s.2.2, FR Lr' Lo p) (fun s => [ptr ob, ptr gb, sv, I SL.length, I s.1])
    (fun s => cel true ob 22 [s.2.1.1] :: sls faE 60 14 s.2.1.1 s.2.2 :: cel true gb 22 [gv] :: sls faE 60 14 gv LG :: spool rfC Lr' :: sls shC 90 3 sv SL :: spool hC Lo :: bk a M :: H) (fun s => SL.length - s.1) (0, ⟨ov, CellI.pf⟩, L) (fun _ => rfl) rfl
    ⟨Nat.zero_le _, by simp only [List.take_zero, List.map_nil, List.append_nil]; exact hf.l, fun p hp => (hf.r p hp).mono (fun _ h => h) fun _ h => by cases h⟩ (fun W hW => by exact sm hW) ?_
  rintro ⟨i, ov1, L1⟩ K0 ⟨hi, hl1, hr1⟩ hk
  simp only at hi hl1 hr1 hk ⊢
  have : CellI ov1.1 := ⟨ov1.2⟩
  have hL1 : L1.length ≤ M.V.length + 1 + i := by
    have := congrArg List.length hl1
    simp only [List.length_map, List.length_append, List.length_cons, List.length_take] at this
    omega
  refine E_fa fun _ => ?_
  refine E_lss ?_
  refine E_if (fun hc1 => ?_) (fun hc1 => ?_)
  · have hx : SL[i]? = some SL[i] := List.getElem?_eq_getElem (by omega)
    have hxm := hsh.2 _ (List.mem_of_getElem? hx)
    generalize SL[i] = x at hx hxm
    have hxS : M.S[i]? = some x.1 := by rw [← hsh.1, List.getElem?_map, hx]; rfl
    have htk : M.S.take (i + 1) = M.S.take i ++ [x.1] := by rw [List.take_add_one, hxS]; rfl
    refine E_rsix (v := sv) (l := SL) hx fun _ _ => ?_
    refine E_ptldA ?_
    refine E_box fun b7 => ?_
    refine E_stW (vs := shC x) rfl rfl ?_
    (repeat first | refine gS ?_ | refine gA fun _ => ?_ | refine gX fun _ _ => ?_ | refine gT ?_ | refine gF ?_ | refine gI ?_)
    have ic : CellI x.2.1 := ⟨x.2.2⟩
    refine E_build (l := faL (shotF x.1) nil x.2.1 nil) str_fact ?_
    refine fd (a := sls faE 60 14 ov1.1 L1) ?_
    refine E_sapp1 (enc := faE) ((shotF x.1, ⟨nil, rfl⟩, x.2, ⟨nil, rfl⟩) : FV) u_factL elt_fact rfl (by decide) (by omega) (by omega) fun ov2 hov2 => ?_
    (repeat first | refine gS ?_ | refine gA fun _ => ?_ | refine gX fun _ _ => ?_ | refine gT ?_ | refine gF ?_ | refine gI ?_)
    refine sm (hk (i + 1, ⟨ov2, hov2.pf⟩, L1 ++ [((shotF x.1, ⟨nil, rfl⟩, x.2, ⟨nil, rfl⟩) : FV)]) ⟨by simp only; omega, ?_, fun p hp => ?_⟩ (by simp only; omega))
    · simp only
      rw [htk, List.map_append, hl1, List.map_append]; simp
    · rcases List.mem_append.1 hp with hp | hp
      · exact hr1 p hp
      · simp only [List.mem_singleton] at hp
        subst hp
        exact ⟨.inr ⟨rfl, rfl⟩, .inl hxm, rfl, rfl⟩
  · have hie : i = M.S.length := by omega
    subst hie
    rw [List.take_length] at hl1
    (repeat first | refine gS ?_ | refine gA fun _ => ?_ | refine gX fun _ _ => ?_ | refine gT ?_ | refine gF ?_ | refine gI ?_)
    refine fd (a := sls faE 60 14 ov1.1 L1) ?_
    refine E_sapps (enc := faE) (m := LG) u_factL elt_fact (by omega) (by omega) fun v' _ => ?_
    refine sm (h v' (L1 ++ LG) Lr' Lo ?_ fun p hp => ?_)
    · rw [List.map_append, hl1, hf.g]
      unfold factsL
      simp
    · rcases List.mem_append.1 hp with hp | hp
      · exact hr1 p hp
      · exact (hf.s p hp).mono (fun _ h => h) fun _ h => by cases h
end Go.Proofs.YtjafpncngmbcdaaGreat.Nam
end
section
namespace Go.Proofs.YtjafpncngmbcdaaGreat.Nam
open Go Go.SL Go.SL.Stb Go.Proofs Go.Proofs.YtjafpncngmbcdaaGreat.Sh
variable {B : World} {H : List Asrt} {K : Value → WT} {W : WT} {a : Nat} {M : Bk} {f : Fa}
noncomputable def putC [Amb] (w0 w3 w4 w5 : Value) (K1 : Kn 3) : WT :=
 S.loop 5 (fun K2 => fun v0'2 v3' v4' v5' v6 => S.fa fun _ =>
 S.join 6 (fun K3 =>
 S.dr <|
 S.len v3' fun v28 =>
 S.bin .lss v6 v28 fun v29 =>
 S.gd v29 true (fun k => k v3') fun v31 =>
 S.gd v29 true (fun k => k v6) fun v32 =>
 S.gd v29 true (S.ixS 2 v31 v32) fun v33 =>
 S.gd v29 true (S.ldN 2 v33) fun v34 =>
 S.gd v29 true (S.ldN 2 v5') fun v35 =>
 S.gd v29 true (CF Tryz.prog 104 [v34, v35]) fun v36 =>
 S.pick v29 v36 (SL.B false) fun v37 =>
 K3 v0'2 v3' v4' v5' v6 v37)
 <| fun v0'3 v3'2 v4'2 v5'2 v6' v37' => S.fa fun _ =>
 S.cond v37' (
 S.bin .add v6' (SL.I 1) fun v39 =>
 K2 v0'3 v3'2 v4'2 v5'2 v39) (
 S.join 6 (fun K4 =>
 S.dr <|
 S.len v3'2 fun v42 =>
 S.bin .lss v6' v42 fun v43 =>
 S.gd v43 true (fun k => k v3'2) fun v45 =>
 S.gd v43 true (fun k => k v6') fun v46 =>
 S.gd v43 true (S.ixS 2 v45 v46) fun v47 =>
 S.gd v43 true (S.ldN 2 v47) fun v48 =>
 S.gd v43 true (S.ldN 2 v5'2) fun v49 =>
 S.gd v43 true (S.eqv Tryz.prog .eql 116 false v48 v49) fun v50 =>
 S.pick v43 v50 (SL.B false) fun v51 =>
 K4 v0'3 v3'2 v4'2 v5'2 v6' v51)
 <| fun v0'4 v3'3 v4'3 v5'3 v6'2 v51' => S.fa fun _ =>
 S.cond v51' (
 K1 v0'4 v3'3 v4'3) (
 V Tryz.prog (Instr.buildSlice 113 0 #[]) fun v52 =>
 S.slc 2 v3'3 none (some v6'2) none fun v55 =>
 V Tryz.prog (Builtin.append_ #[113, 113] 113 #[v52, v55]) fun v56 =>
 S.ldN 2 v5'3 fun v58 =>
 V Tryz.prog (Instr.buildSlice 113 1 #[(0, v58)]) fun v59 =>
 V Tryz.prog (Builtin.append_ #[113, 113] 113 #[v56, v59]) fun v60 =>
 S.slc 2 v3'3 (some v6'2) none none fun v64 =>
 V Tryz.prog (Builtin.append_ #[113, 113] 113 #[v60, v64]) fun v65 =>
 K1 v0'4 v65 v4'3)))
 [w0, w3, w4, w5, (SL.I 0)]
abbrev spC (p : Int × Int) : List Value := [I p.1, I p.2]
instance : Enc spC 2 := ⟨fun _ => rfl, fun x y hy => by simp at hy; rcases hy with rfl | rfl <;> rfl⟩
theorem u_spots : Tryz.prog.underlying 113 = some (.slice 116) := by kernel_rfl
theorem elt_spot : Elt Tryz.prog 116 2 16 [I 0, I 0] := elt_of (zv := .agg #[I 0, I 0]) (by kernel_rfl) rfl rfl
theorem spots_nil : spotsL [] = [] := rfl
theorem find_at {α : Type} {p : α → Bool} : ∀ {l : List α} {k : Nat} {x : α}, l[k]? = some x → (∀ y ∈ l.take k, p y = false) → p x = true → l.find? p = some x
  | [], k, x, h, _, _ => by simp at h
  | a :: l, 0, x, h, _, hp => by
    have : a = x := by simpa using h
    subst this
    rw [List.find?_cons, hp]
  | a :: l, k + 1, x, h, ha, hp => by
    rw [List.find?_cons, ha a (by simp)]
    exact find_at (by simpa using h) (fun y hy => ha y (by simp [hy])) hp
theorem put_at {zs : List (Int × Int)} {s : Int × Int} {k : Nat} (hs : zs.Pairwise spLt) (hk : k ≤ zs.length) (h1 : ∀ t ∈ zs.take k, spLt t s) (h2 : ∀ t, zs[k]? = some t → ¬ spLt t s ∧ t ≠ s) : putS zs s = zs.take k ++ s :: zs.drop k := by
  have hd : ∀ t ∈ zs.drop k, ¬ spLt t s ∧ t ≠ s := fun t ht => by
    obtain ⟨j, hj, e⟩ := List.mem_drop_iff_getElem.1 ht
    have hk' : zs[k]? = some zs[k] := List.getElem?_eq_getElem (by omega)
    obtain ⟨a1, a2⟩ := h2 _ hk'
    rcases Nat.eq_zero_or_pos j with h0 | h0
    · subst h0
      simp only [Nat.add_zero] at e
      rw [← e]; exact ⟨a1, a2⟩
    · have := List.pairwise_iff_getElem.1 hs k (k + j) (by omega) (by omega) (by omega)
      rw [e] at this
      have hne : ¬ (zs[k].1 = s.1 ∧ zs[k].2 = s.2) := fun h => a2 (Prod.ext h.1 h.2)
      refine ⟨fun h => ?_, fun h => ?_⟩
      · unfold spLt at *; omega
      · subst h; exact a1 this
  have hn : s ∉ zs := fun hm => by
    rw [← List.take_append_drop k zs] at hm
    rcases List.mem_append.1 hm with hm | hm
    · have := h1 s hm
      unfold spLt at this; omega
    · exact (hd s hm).2 rfl
  unfold putS
  rw [if_neg hn]
  have e1 : zs.takeWhile (fun t => decide (spLt t s)) = zs.take k ∧ zs.dropWhile (fun t => decide (spLt t s)) = zs.drop k := by
    obtain ⟨t1, t2⟩ := takeWhile_all' (l := zs.take k) (p := fun t => decide (spLt t s)) fun t ht => decide_eq_true (h1 t ht)
    have e : zs = zs.take k ++ zs.drop k := (List.take_append_drop ..).symm
    constructor
    · conv => lhs; rw [e]
      rw [List.takeWhile_append, t1, if_pos rfl]
      cases hdr : zs.drop k with
      | nil => simp
      | cons t r =>
        rw [List.takeWhile_cons, if_neg (by simpa using (hd t (by rw [hdr]; simp)).1)]; simp
    · conv => lhs; rw [e]
      rw [List.dropWhile_append, t2]
      simp only [List.isEmpty_nil, if_true]
      cases hdr : zs.drop k with
      | nil => simp
      | cons t r =>
        rw [List.dropWhile_cons, if_neg (by simpa using (hd t (by rw [hdr]; simp)).1)]
  rw [e1.1, e1.2]
attribute [local irreducible] S.pick S.ld S.ldN S.st S.box S.nc S.fad S.ixS S.ixA S.chr S.prt S.ext S.bin S.sh S.sbin S.beq S.neg1 S.com1 S.not1 S.cvt S.str1 S.lenS S.len S.cap S.lenM S.mx S.mn S.mkM S.cond S.gd S.fa S.dr S.rck S.join S.loop S.cvv S.eqv S.slc S.slcS S.b2s S.lk V U CF Gives E cel mpb osl ros dct dit itr lpo dfo
set_option maxRecDepth 8000
attribute [local irreducible] bk dbk putS spotsL
theorem lessD {p q : Int × Int} (h : E B H (K (.bool (decide (spLt p q))))) : E B H (CF Tryz.prog 104 [.agg (spC p).toArray, .agg (spC q).toArray] K) := by
  refine E_mono (W := s104 _ _ K) ?_ fun _ => c104
  unfold s104
  refine E_box (vs := spC p) fun b1 => ?_
  refine E_box (vs := spC q) fun b2 => ?_
  have fin : ∀ c : Bool, decide (spLt p q) = c → E B H (K (.bool c)) := fun c hc => hc ▸ h
  have e : decide (spLt p q) = (decide (p.1 < q.1) || (decide (p.1 = q.1) && decide (p.2 < q.2))) := by
    rw [Bool.eq_iff_iff, decide_eq_true_eq]
    unfold spLt
    simp
  (repeat first | refine gS ?_ | refine gA fun _ => ?_ | refine gX fun _ _ => ?_ | refine gT ?_ | refine gF ?_ | refine gI ?_)
  by_cases h1 : p.1 < q.1
  · (repeat first | refine gS ?_ | refine gA fun _ => ?_ | refine gX fun _ _ => ?_ | refine gT ?_ | refine gF ?_ | refine gI ?_)
    exact sm (fin true (by rw [e]; simp [h1]))
  · (repeat first | refine gS ?_ | refine gA fun _ => ?_ | refine gX fun _ _ => ?_ | refine gT ?_ | refine gF ?_ | refine gI ?_)
    by_cases h2 : p.1 = q.1
    · (repeat first | refine gS ?_ | refine gA fun _ => ?_ | refine gX fun _ _ => ?_ | refine gT ?_ | refine gF ?_ | refine gI ?_)
      exact sm (fin _ (by rw [e]; simp [h2]))
    · (repeat first | refine gS ?_ | refine gA fun _ => ?_ | refine gX fun _ _ => ?_ | refine gT ?_ | refine gF ?_ | refine gI ?_)
      exact sm (fin false (by rw [e]; simp [h1, h2]))
theorem putC_ok {K1 : Kn 3} {v0 v4 zv : Value} {b5 : Nat} {zs : List (Int × Int)} {s : Int × Int} [CellI zv] (hs : zs.Pairwise spLt) (hz : zs.length ≤ 1000000) (h : ∀ zv' [CellI zv'], E B (sls spC 116 2 zv' (putS zs s) :: H) (app 3 K1 [v0, zv', v4])) :
    E B (cel true b5 116 (spC s) :: sls spC 116 2 zv zs :: H) (putC v0 zv v4 (ptr b5) K1) := by
  unfold putC
  refine E_loop (n := 5) (σ := Nat) (fun k => k ≤ zs.length ∧ ∀ t ∈ zs.take k, spLt t s) (fun k => [v0, zv, v4, ptr b5, I k]) (fun _ => cel true b5 116 (spC s) :: sls spC 116 2 zv zs :: H) (fun k => zs.length - k) 0 (fun _ => rfl) rfl ⟨Nat.zero_le _, by simp⟩ (fun W hW => hW) ?_
  rintro k K0 ⟨hk, ha⟩ hk0
  refine E_fa fun _ => ?_
  by_cases hlt : k < zs.length
  · have hx : zs[k]? = some zs[k] := List.getElem?_eq_getElem hlt
    generalize zs[k] = t at hx
    refine E_join1 [v0, zv, v4, ptr b5, I k, .bool (decide (spLt t s))] (cel true b5 116 (spC s) :: sls spC 116 2 zv zs :: H) (fun q hq => ?_) ?_
    · refine E_dr ?_
      refine E_rslen (v := zv) (l := zs) ?_
      refine E_lss ?_
      rw [decide_eq_true (by omega)]
      (repeat first | refine gS ?_ | refine gA fun _ => ?_ | refine gX fun _ _ => ?_ | refine gT ?_ | refine gF ?_ | refine gI ?_)
      refine lessD ?_
      (repeat first | refine gS ?_ | refine gA fun _ => ?_ | refine gX fun _ _ => ?_ | refine gT ?_ | refine gF ?_ | refine gI ?_)
      exact hq
    refine E_fa fun _ => ?_
    refine E_if (fun hl => ?_) (fun hl => ?_)
    · refine E_addI (by omega) (by omega) ?_
      refine hk0 (k + 1) ⟨by omega, fun y hy => ?_⟩ (by omega)
      rw [List.take_add_one, hx] at hy
      rcases List.mem_append.1 hy with hy | hy
      · exact ha y hy
      · simp only [Option.toList_some, List.mem_singleton] at hy
        subst hy; exact hl
    refine E_join1 [v0, zv, v4, ptr b5, I k, .bool (decide (t = s))] (cel true b5 116 (spC s) :: sls spC 116 2 zv zs :: H) (fun q hq => ?_) ?_
    · refine E_dr ?_
      refine E_rslen (v := zv) (l := zs) ?_
      refine E_lss ?_
      rw [decide_eq_true (by omega)]
      (repeat first | refine gS ?_ | refine gA fun _ => ?_ | refine gX fun _ _ => ?_ | refine gT ?_ | refine gF ?_ | refine gI ?_)
      refine E_aeq (by kernel_rfl) (eq_spot t s) ?_
      (repeat first | refine gS ?_ | refine gA fun _ => ?_ | refine gX fun _ _ => ?_ | refine gT ?_ | refine gF ?_ | refine gI ?_)
      exact hq
    refine E_fa fun _ => ?_
    refine E_if (fun he => ?_) (fun he => ?_)
    · have e : putS zs s = zs := by
        unfold putS
        rw [if_pos (by rw [← he]; exact List.mem_of_getElem? hx)]
      rw [e] at h
      exact E_drop (h zv)
    · have e := put_at hs hk ha (fun t' ht' => by
        rw [hx] at ht'; cases ht'; exact ⟨hl, he⟩)
      rw [e] at h
      refine E_sbsl0 (sz := 2) spC u_spots elt_spot fun n0 _ => ?_
      refine E_slcS2 (v := zv) (l := zs) (i := 0) (j := k) (bound_nat _ _) rfl (by omega) hk fun w1 _ _ => ?_
      refine fd (a := sls spC 116 2 n0 []) ?_
      refine E_sapps (enc := spC) (u := w1) (m := (zs.drop 0).take (k - 0)) u_spots elt_spot (by simp; omega) (by simp; omega) fun n1 _ => ?_
      (repeat first | refine gS ?_ | refine gA fun _ => ?_ | refine gX fun _ _ => ?_ | refine gT ?_ | refine gF ?_ | refine gI ?_)
      refine fd (a := sls spC 116 2 n1 ([] ++ (zs.drop 0).take (k - 0))) ?_
      refine E_sapp1 (enc := spC) s u_spots elt_spot rfl (by decide) (by simp; omega) (by simp; omega) fun n2 _ => ?_
      refine E_slcS2 (v := zv) (l := zs) (i := k) (j := zs.length) rfl (bound_nat _ _) hk (Nat.le_refl _) fun w2 _ _ => ?_
      refine fd (a := sls spC 116 2 n2 ([] ++ (zs.drop 0).take (k - 0) ++ [s])) ?_
      refine E_sapps (enc := spC) (u := w2) (m := (zs.drop k).take (zs.length - k)) u_spots elt_spot (by simp; omega) (by simp; omega) fun n3 _ => ?_
      have e3 : [] ++ (zs.drop 0).take (k - 0) ++ [s] ++ (zs.drop k).take (zs.length - k) = zs.take k ++ s :: zs.drop k := by
        rw [List.take_of_length_le (l := zs.drop k) (by simp)]; simp
      rw [e3]
      exact sm (h n3)
  · have hke : k = zs.length := by omega
    have e := put_at hs hk ha (fun t' ht' => by
      rw [List.getElem?_eq_none (by omega)] at ht'; cases ht')
    rw [e] at h
    refine E_join1 [v0, zv, v4, ptr b5, I k, .bool false] (cel true b5 116 (spC s) :: sls spC 116 2 zv zs :: H) (fun q hq => ?_) ?_
    · refine E_dr ?_
      refine E_rslen (v := zv) (l := zs) ?_
      refine E_lss ?_
      rw [decide_eq_false (by omega)]
      (repeat first | refine gS ?_ | refine gA fun _ => ?_ | refine gX fun _ _ => ?_ | refine gT ?_ | refine gF ?_ | refine gI ?_)
      exact hq
    refine E_fa fun _ => ?_
    refine E_ff ?_
    refine E_join1 [v0, zv, v4, ptr b5, I k, .bool false] (cel true b5 116 (spC s) :: sls spC 116 2 zv zs :: H) (fun q hq => ?_) ?_
    · refine E_dr ?_
      refine E_rslen (v := zv) (l := zs) ?_
      refine E_lss ?_
      rw [decide_eq_false (by omega)]
      (repeat first | refine gS ?_ | refine gA fun _ => ?_ | refine gX fun _ _ => ?_ | refine gT ?_ | refine gF ?_ | refine gI ?_)
      exact hq
    refine E_fa fun _ => ?_
    refine E_ff ?_
    refine E_sbsl0 (sz := 2) spC u_spots elt_spot fun n0 _ => ?_
    refine E_slcS2 (v := zv) (l := zs) (i := 0) (j := k) (bound_nat _ _) rfl (by omega) hk fun w1 _ _ => ?_
    refine fd (a := sls spC 116 2 n0 []) ?_
    refine E_sapps (enc := spC) (u := w1) (m := (zs.drop 0).take (k - 0)) u_spots elt_spot (by simp; omega) (by simp; omega) fun n1 _ => ?_
    (repeat first | refine gS ?_ | refine gA fun _ => ?_ | refine gX fun _ _ => ?_ | refine gT ?_ | refine gF ?_ | refine gI ?_)
    refine fd (a := sls spC 116 2 n1 ([] ++ (zs.drop 0).take (k - 0))) ?_
    refine E_sapp1 (enc := spC) s u_spots elt_spot rfl (by decide) (by simp; omega) (by simp; omega) fun n2 _ => ?_
    refine E_slcS2 (v := zv) (l := zs) (i := k) (j := zs.length) rfl (bound_nat _ _) hk (Nat.le_refl _) fun w2 _ _ => ?_
    refine fd (a := sls spC 116 2 n2 ([] ++ (zs.drop 0).take (k - 0) ++ [s])) ?_
    refine E_sapps (enc := spC) (u := w2) (m := (zs.drop k).take (zs.length - k)) u_spots elt_spot (by simp; omega) (by simp; omega) fun n3 _ => ?_
    have e3 : [] ++ (zs.drop 0).take (k - 0) ++ [s] ++ (zs.drop k).take (zs.length - k) = zs.take k ++ s :: zs.drop k := by
      rw [List.take_of_length_le (l := zs.drop k) (by simp)]; simp
    rw [e3]
    exact sm (h n3)
theorem putS_len (l : List (Int × Int)) (s : Int × Int) : (putS l s).length ≤ l.length + 1 := by
  unfold putS
  split
  · omega
  · have e : l.takeWhile (fun t => decide (spLt t s)) ++ l.dropWhile (fun t => decide (spLt t s)) = l := List.takeWhile_append_dropWhile ..
    have := congrArg List.length e
    simp only [List.length_append, List.length_cons] at this ⊢
    omega
theorem spots_snoc (l : List Rf) (x : Rf) : spotsL (l ++ [x]) = putS (spotsL l) (spR x) := by
  unfold spotsL
  rw [List.map_append, List.foldl_append]; rfl
theorem spots_len (l : List Rf) : (spotsL l).length ≤ l.length := by
  have : ∀ (m z : List (Int × Int)), (m.foldl putS z).length ≤ z.length + m.length := fun m => by
    induction m with
    | nil => intro z; simp
    | cons s m ih =>
      intro z
      rw [List.foldl_cons]
      have := ih (putS z s)
      have := putS_len z s
      simp only [List.length_cons]; omega
  have := this (l.map spR) []
  rw [List.length_map] at this
  unfold spotsL
  simpa using this
theorem spotsD {v : Value} {l : List Rf} [hv : ∀ Q, Rs B (Q ++ H) v rfC l] (hn : l.length ≤ 1000000) (h : ∀ v' [CellI v'], E B (sls spC 116 2 v' (spotsL l) :: H) (K v')) : E B H (CF Tryz.prog 69 [v] K) := by
  have hv0 : Rs B H v rfC l := hv []
  refine E_mono (W := s69 _ K) ?_ fun _ => c69
  unfold s69
  refine E_sbsl0 (sz := 2) spC u_spots elt_spot fun n0 _ => ?_
  refine E_loop (n := 3) (σ := Nat × Cv) (fun s => s.1 ≤ l.length) (fun s => [v, s.2.1, I s.1]) (fun s => sls spC 116 2 s.2.1 (spotsL (l.take s.1)) :: H) (fun s => l.length - s.1) (0, ⟨n0, CellI.pf⟩) (fun _ => rfl) rfl (Nat.zero_le _) (fun W hW => by
    simp only [List.take_zero, spots_nil] at hW
    exact hW) ?_
  rintro ⟨i, zv⟩ K0 hi hk
  simp only at hi hk ⊢
  have izv : CellI zv.1 := ⟨zv.2⟩
  refine E_fa fun _ => ?_
  refine E_rslen (v := v) (l := l) ?_
  refine E_lss ?_
  refine E_if (fun hc => ?_) (fun hc => ?_)
  · have hx : l[i]? = some l[i] := List.getElem?_eq_getElem (by omega)
    generalize l[i] = x at hx
    have htk : l.take (i + 1) = l.take i ++ [x] := by rw [List.take_add_one, hx]; rfl
    have hso := (spots_ok (l.take i)).1
    have hsl := spots_len (l.take i)
    have htl : (l.take i).length ≤ i := by rw [List.length_take]; omega
    refine E_joinC (σ := Cv) (fun _ => True) (fun z => [v, z.1, I i]) (fun z => sls spC 116 2 z.1 (spotsL (l.take (i + 1))) :: H) (fun q hq => ?_) (fun z _ => ?_)
    · refine E_dr ?_
      refine E_rsix (v := v) (l := l) hx fun p _ => ?_
      (repeat first | refine gS ?_ | refine gA fun _ => ?_ | refine gX fun _ _ => ?_ | refine gT ?_ | refine gF ?_ | refine gI ?_)
      have hput : ∀ b5, E B (cel true b5 116 (spC (spR x)) :: sls spC 116 2 zv.1 (spotsL (l.take i)) :: H) (putC v zv.1 (I i) (ptr b5) q) := fun b5 => by
        refine putC_ok hso (by omega) fun zv' hz' => ?_
        rw [← spots_snoc, ← htk]
        exact hq ⟨zv', hz'.pf⟩ trivial
      refine E_both ?_ ?_
      · refine E_build (l := [I x.bin, I x.slot]) str_spot ?_
        refine E_box fun b5 => ?_
        refine E_stW (vs := [I x.bin, I x.slot]) rfl rfl ?_
        exact hput b5
      · refine E_box fun b5 => ?_
        (repeat (refine E_rck1 (by first | exact E_ld (E_fact rfl) | exact E_ld' (by assumption) (E_fact rfl) | exact E_b2sR (E_fact rfl) | exact E_gdnF (by assumption) (E_ld (E_fact rfl)) | exact E_gdT (by assumption) (E_ld (E_fact rfl)) | exact E_gtf (E_ld (E_fact rfl)) | exact E_gft (E_ld (E_fact rfl)) | exact E_ldNA (E_fact rfl) | exact E_ptld (E_fact rfl) | exact E_gtf (E_ldNA (E_fact rfl))) ?_)); (first | (refine E_rck0 ?_) | skip)
        refine E_build (l := [I x.bin, I x.slot]) str_spot ?_
        refine E_stW (vs := [I x.bin, I x.slot]) rfl rfl ?_
        exact hput b5
    · refine E_fa fun _ => ?_
      refine E_addI (by omega) (by omega) ?_
      exact hk (i + 1, z) (by simp only; omega) (by simp only; omega)
  · have hie : i = l.length := by omega
    rw [hie, List.take_length]
    exact h zv.1
end Go.Proofs.YtjafpncngmbcdaaGreat.Nam
end
section
namespace Go.Proofs.YtjafpncngmbcdaaGreat.Nam
open Go Go.SL Go.SL.Stb Go.Proofs Go.Proofs.YtjafpncngmbcdaaGreat.Sh
variable {B : World} {H : List Asrt} {K : Value → WT} {W : WT} {a : Nat} {M : Bk} {f : Fa}
variable {fv sv : Cv} {L : List FC} {LS : List SC} {Pf : List (Value × List FC)} {Lv : List (Value × List VR)} {Lr : List (Value × List Rf)} {Ps : List (Value × List SC)} {Lh : List (Value × List (List UInt8 × Int))}
theorem firstR_at {all : List Rf} {s : Int × Int} {k : Nat} {x : Rf} (hx : all[k]? = some x) (ha : ∀ y ∈ all.take k, spR y ≠ s) (hp : spR x = s) : firstR all s = some x :=
  find_at hx (fun y hy => decide_eq_false (ha y hy)) (decide_eq_true hp)
theorem firstR_none {all : List Rf} {s : Int × Int} (ha : ∀ y ∈ all, spR y ≠ s) : firstR all s = none := List.find?_eq_none.2 fun y hy => by simpa using ha y hy
theorem flat_at {V : List Ver} (hs : SrtN V) {i : Nat} {k : List UInt8} (hx : (nms V)[i]? = some k) : V = ((nms V).take i).flatMap (fof V) ++ (fof V k ++ ((nms V).drop (i + 1)).flatMap (fof V)) := by
  obtain ⟨hi, e⟩ := List.getElem?_eq_some_iff.1 hx
  conv => lhs; rw [V_flat hs, ← List.take_append_drop i (nms V), List.flatMap_append, List.drop_eq_getElem_cons hi, e, List.flatMap_cons]
theorem pre_at {V : List Ver} (hs : SrtN V) {i j : Nat} {k : List UInt8} (hx : (nms V)[i]? = some k) : ((nms V).take i).flatMap (fof V) ++ (fof V k).take j <+: V := by
  conv => rhs; rw [flat_at hs hx]
  refine List.prefix_append_right_inj _ |>.2 ?_
  exact (List.take_prefix _ _).trans (List.prefix_append _ _)
attribute [local irreducible] S.pick S.ld S.ldN S.st S.box S.nc S.fad S.ixS S.ixA S.chr S.prt S.ext S.bin S.sh S.sbin S.beq S.neg1 S.com1 S.not1 S.cvt S.str1 S.lenS S.len S.cap S.lenM S.mx S.mn S.mkM S.cond S.gd S.fa S.dr S.rck S.join S.loop S.cvv S.eqv S.slc S.slcS S.b2s S.lk V U CF Gives E cel mpb osl ros dct dit itr lpo dfo
set_option maxRecDepth 8000
attribute [local irreducible] bk dbk spotsL
theorem liveD0 (hd : DOk ⟨fv, sv, L, LS, Pf, Lv, Lr, Ps, Lh⟩ M) (hw : Inv M) (h : ∀ v [CellI v], E B (sls rfC 38 35 v (liveRs (refsL M)) :: cel true a 88 [fv.1, sv.1, I M.now] :: spool fC Pf :: spool vC Lv :: spool rfC Lr :: spool shC Ps :: spool hC Lh :: H) (K v)) : E B (cel true a 88 [fv.1, sv.1, I M.now] :: spool fC Pf :: spool vC Lv :: spool rfC Lr :: spool shC Ps :: spool hC Lh :: H) (CF Tryz.prog 27 [ptr a] K) := by
  have hns := nms_lt hw.v.n
  have hL := nms_len32 hd hw
  have hlen := hd.len
  have hfl := hw.fl
  have rf : ∀ H, Rs B (spool fC Pf :: H) fv.1 fC L := rs_pool hd.f
  refine E_mono (W := s27 _ K) ?_ fun _ => c27
  unfold s27
  refine E_sbsl0 (sz := 35) rfC u_refs elt_ref fun n0 _ => ?_
  refine E_loop (n := 3) (σ := Nat × Cv) (fun s => s.1 ≤ L.length)
    (fun s => [ptr a, s.2.1, I s.1]) (fun s => cel true a 88 [fv.1, sv.1, I M.now] :: spool fC Pf :: spool vC Lv :: spool rfC Lr :: spool shC Ps :: spool hC Lh :: sls rfC 38 35 s.2.1 ((((nms M.V).take s.1).flatMap (fof M.V)).flatMap (·.refs)) :: H) (fun s => L.length - s.1) (0, ⟨n0, CellI.pf⟩) (fun _ => rfl) rfl (Nat.zero_le _) (fun W hW => by
      simp only [List.take_zero, List.flatMap_nil] at hW
      exact sm hW) ?_
  rintro ⟨i, ov⟩ K0 hi hk0
  simp only at hi hk0 ⊢
  refine E_fa fun _ => ?_
  (repeat first | refine gS ?_ | refine gA fun _ => ?_ | refine gX fun _ _ => ?_ | refine gT ?_ | refine gF ?_ | refine gI ?_)
  refine E_if (fun hc => ?_) (fun hc => ?_)
  · have hx : (nms M.V)[i]? = some (nms M.V)[i] := List.getElem?_eq_getElem (by omega)
    generalize (nms M.V)[i] = k at hx
    have htk : (nms M.V).take (i + 1) = (nms M.V).take i ++ [k] := by rw [List.take_add_one, hx]; rfl
    obtain ⟨c, l, hx', hl⟩ := hd.get hx
    have rl := rs_pool (B := B) (enc := vC) hl.m
    have hll : l.length = (fof M.V k).length := by rw [← hl.e, List.length_map]
    have hfk := hfl k
    refine E_loop (n := 4) (σ := Nat × Cv) (fun s => s.1 ≤ l.length)
      (fun s => [ptr a, s.2.1, I i, I s.1]) (fun s => cel true a 88 [fv.1, sv.1, I M.now] :: spool fC Pf :: spool vC Lv :: spool rfC Lr :: spool shC Ps :: spool hC Lh :: sls rfC 38 35 s.2.1 ((((nms M.V).take i).flatMap (fof M.V) ++ (fof M.V k).take s.1).flatMap (·.refs)) :: H) (fun s => l.length - s.1) (0, ov) (fun _ => rfl) rfl (Nat.zero_le _) (fun W hW => by
        simp only [List.take_zero, List.append_nil] at hW
        exact sm hW) ?_
    rintro ⟨j, ov1⟩ K1 hj hk1
    simp only at hj hk1 ⊢
    refine E_fa fun _ => ?_
    (repeat first | refine gS ?_ | refine gA fun _ => ?_ | refine gX fun _ _ => ?_ | refine gT ?_ | refine gF ?_ | refine gI ?_)
    refine E_if (fun hc2 => ?_) (fun hc2 => ?_)
    · have hy : l[j]? = some l[j] := List.getElem?_eq_getElem (by omega)
      have hym := hl.r _ (List.mem_of_getElem? hy)
      generalize l[j] = x at hy hym
      have hfj : (fof M.V k)[j]? = some x.1 := by rw [← hl.e, List.getElem?_map, hy]; rfl
      have htk2 : (fof M.V k).take (j + 1) = (fof M.V k).take j ++ [x.1] := by rw [List.take_add_one, hfj]; rfl
      have hpl := refs_len hw (pre_at (j := j + 1) hw.v.n hx)
      have rr := rs_pool (B := B) (enc := rfC) hym
      (repeat first | refine gS ?_ | refine gA fun _ => ?_ | refine gX fun _ _ => ?_ | refine gT ?_ | refine gF ?_ | refine gI ?_)
      have hk2 := hk1 (j + 1, ov1) (by simp only; omega) (by simp only; omega)
      rw [htk2, ← List.append_assoc, List.flatMap_append] at hpl
      have e1 : [x.1].flatMap (fun v : Ver => v.refs) = x.1.refs := by simp
      rw [e1, List.length_append] at hpl
      generalize hD : ((nms M.V).take i).flatMap (fof M.V) ++ (fof M.V k).take j = D at *
      refine fd (a := sls rfC 38 35 ov1.1 (D.flatMap (·.refs))) ?_
      refine E_sapps (enc := rfC) (m := x.1.refs) u_refs elt_ref (by omega) (by omega) fun ov2 hov2 => ?_
      refine E_addI (by omega) (by omega) ?_
      have hk3 := hk1 (j + 1, ⟨ov2, hov2.pf⟩) (by simp only; omega) (by simp only; omega)
      rw [htk2, ← List.append_assoc, hD, List.flatMap_append, e1] at hk3
      exact sm hk3
    · have hje : j = (fof M.V k).length := by omega
      subst hje
      rw [List.take_length]
      refine E_addI (by omega) (by omega) ?_
      have hk3 := hk0 (i + 1, ov1) (by simp only; omega) (by simp only; omega)
      rw [htk, List.flatMap_append, List.flatMap_cons, List.flatMap_nil, List.append_nil] at hk3
      exact sm hk3
  have hie : i = (nms M.V).length := by omega
  subst hie
  rw [List.take_length, ← V_flat hw.v.n]
  clear hk0
  have hlr : (refsL M).length ≤ 524288 := refs_len hw (List.prefix_refl _)
  have hsl := spots_len (refsL M)
  show E B (_ :: _ :: _ :: _ :: _ :: _ :: sls rfC 38 35 ov.1 (refsL M) :: H) _
  refine E_sbsl0 (sz := 35) rfC u_refs elt_ref fun n1 _ => ?_
  refine fd (a := sls rfC 38 35 ov.1 (refsL M)) ?_
  have hrs : ∀ Q, Rs B (Q ++ (sls rfC 38 35 ov.1 (refsL M) :: sls rfC 38 35 n1 [] :: cel true a 88 [fv.1, sv.1, I M.now] :: spool fC Pf :: spool vC Lv :: spool rfC Lr :: spool shC Ps :: spool hC Lh :: H)) ov.1 rfC (refsL M) := fun Q => rs_app Q rs_sls
  refine spotsD (v := ov.1) (hv := hrs) (by omega) fun zv _ => ?_
  refine E_loop (n := 4) (σ := Nat × Cv × List Rf) (fun s => s.1 ≤ (spotsL (refsL M)).length ∧ s.2.2 = ((spotsL (refsL M)).take s.1).filterMap (firstR (refsL M)))
    (fun s => [ov.1, s.2.1.1, zv, I s.1]) (fun s => sls rfC 38 35 s.2.1.1 s.2.2 :: sls rfC 38 35 ov.1 (refsL M) :: sls spC 116 2 zv (spotsL (refsL M)) :: cel true a 88 [fv.1, sv.1, I M.now] :: spool fC Pf :: spool vC Lv :: spool rfC Lr :: spool shC Ps :: spool hC Lh :: H) (fun s => (spotsL (refsL M)).length - s.1) (0, ⟨n1, CellI.pf⟩, []) (fun _ => rfl) rfl ⟨Nat.zero_le _, rfl⟩ (fun W hW => by exact sm hW) ?_
  rintro ⟨i, o1, zs⟩ K0 ⟨hi, hzs⟩ hk
  simp only at hi hzs hk ⊢
  have hzl : zs.length ≤ i := by
    rw [hzs]
    refine Nat.le_trans (List.length_filterMap_le _ _) ?_
    rw [List.length_take]; omega
  have icz : CellI o1.1 := ⟨o1.2⟩
  refine E_fa fun _ => ?_
  refine E_rslen (v := zv) (l := spotsL (refsL M)) ?_
  refine E_lss ?_
  refine E_if (fun hc => ?_) (fun hc => ?_)
  · have hx : (spotsL (refsL M))[i]? = some (spotsL (refsL M))[i] := List.getElem?_eq_getElem (by omega)
    generalize (spotsL (refsL M))[i] = s at hx
    have htk : (spotsL (refsL M)).take (i + 1) = (spotsL (refsL M)).take i ++ [s] := by rw [List.take_add_one, hx]; rfl
    refine E_joinC (σ := Cv × List Rf) (fun t => t.2 = ((spotsL (refsL M)).take (i + 1)).filterMap (firstR (refsL M))) (fun t => [ov.1, t.1.1, zv, I i]) (fun t => sls rfC 38 35 t.1.1 t.2 :: sls rfC 38 35 ov.1 (refsL M) :: sls spC 116 2 zv (spotsL (refsL M)) :: cel true a 88 [fv.1, sv.1, I M.now] :: spool fC Pf :: spool vC Lv :: spool rfC Lr :: spool shC Ps :: spool hC Lh :: H) (fun q hq => ?_) (fun t ht => ?_)
    · rw [htk, List.filterMap_append, ← hzs] at hq
      refine E_loop (n := 5) (σ := Nat) (fun j => j ≤ (refsL M).length ∧ ∀ y ∈ (refsL M).take j, spR y ≠ s) (fun j => [ov.1, o1.1, zv, I i, I j]) (fun _ => sls rfC 38 35 o1.1 zs :: sls rfC 38 35 ov.1 (refsL M) :: sls spC 116 2 zv (spotsL (refsL M)) :: cel true a 88 [fv.1, sv.1, I M.now] :: spool fC Pf :: spool vC Lv :: spool rfC Lr :: spool shC Ps :: spool hC Lh :: H) (fun j => (refsL M).length - j) 0 (fun _ => rfl) rfl ⟨Nat.zero_le _, by simp⟩ (fun W hW => hW) ?_
      rintro j K1 ⟨hj, ha⟩ hk1
      refine E_fa fun _ => ?_
      refine E_rslen (v := ov.1) (l := refsL M) ?_
      refine E_lss ?_
      refine E_if (fun hc2 => ?_) (fun hc2 => ?_)
      · have hy : (refsL M)[j]? = some (refsL M)[j] := List.getElem?_eq_getElem (by omega)
        generalize (refsL M)[j] = x at hy
        refine E_join1 [ov.1, o1.1, zv, I i, I j, .bool (decide (spR x = s))] (sls rfC 38 35 o1.1 zs :: sls rfC 38 35 ov.1 (refsL M) :: sls spC 116 2 zv (spotsL (refsL M)) :: cel true a 88 [fv.1, sv.1, I M.now] :: spool fC Pf :: spool vC Lv :: spool rfC Lr :: spool shC Ps :: spool hC Lh :: H) (fun k hk2 => ?_) ?_
        · have fin : ∀ c : Bool, decide (spR x = s) = c → E B (sls rfC 38 35 o1.1 zs :: sls rfC 38 35 ov.1 (refsL M) :: sls spC 116 2 zv (spotsL (refsL M)) :: cel true a 88 [fv.1, sv.1, I M.now] :: spool fC Pf :: spool vC Lv :: spool rfC Lr :: spool shC Ps :: spool hC Lh :: H) (app 6 k [ov.1, o1.1, zv, I i, I j, .bool c]) := fun c hc => hc ▸ hk2
          have e : decide (spR x = s) = (decide (x.bin = s.1) && decide (x.slot = s.2)) := by
            rw [Bool.eq_iff_iff, decide_eq_true_eq]
            unfold spR
            rw [Prod.ext_iff]; simp
          refine E_dr ?_
          refine E_rsix (v := ov.1) (l := refsL M) hy fun _ _ => ?_
          (repeat first | refine gS ?_ | refine gA fun _ => ?_ | refine gX fun _ _ => ?_ | refine gT ?_ | refine gF ?_ | refine gI ?_)
          by_cases h1 : x.bin = s.1
          · (repeat first | refine gS ?_ | refine gA fun _ => ?_ | refine gX fun _ _ => ?_ | refine gT ?_ | refine gF ?_ | refine gI ?_)
            exact fin _ (by rw [e]; simp [h1])
          · (repeat first | refine gS ?_ | refine gA fun _ => ?_ | refine gX fun _ _ => ?_ | refine gT ?_ | refine gF ?_ | refine gI ?_)
            exact fin false (by rw [e]; simp [h1])
        refine E_fa fun _ => ?_
        refine E_if (fun he => ?_) (fun he => ?_)
        · refine E_rsix (v := ov.1) (l := refsL M) hy fun _ _ => ?_
          refine E_ptldA ?_
          refine E_sapp1 (enc := rfC) x u_refs elt_ref rfl (by decide) (by omega) (by omega) fun o2 ho2 => ?_
          have := hq (⟨o2, ho2.pf⟩, zs ++ [x]) (by simp only [List.filterMap_cons, firstR_at hy ha he, List.filterMap_nil])
          exact sm this
        · refine E_addI (by omega) (by omega) ?_
          refine hk1 (j + 1) ⟨by omega, fun y hy' => ?_⟩ (by omega)
          rw [List.take_add_one, hy] at hy'
          rcases List.mem_append.1 hy' with hy' | hy'
          · exact ha y hy'
          · simp only [Option.toList_some, List.mem_singleton] at hy'
            subst hy'; exact he
      · have hje : j = (refsL M).length := by omega
        rw [hje, List.take_length] at ha
        have := hq (o1, zs) (by simp only [List.filterMap_cons, firstR_none ha, List.filterMap_nil, List.append_nil])
        exact sm this
    · obtain ⟨o2, z2⟩ := t
      refine E_fa fun _ => ?_
      refine E_addI (by omega) (by omega) ?_
      exact hk (i + 1, o2, z2) ⟨by simp only; omega, ht⟩ (by simp only; omega)
  · have hie : i = (spotsL (refsL M)).length := by omega
    rw [hie, List.take_length] at hzs
    have e : liveRs (refsL M) = zs := hzs.symm
    rw [e] at h
    exact sm (h o1.1)
theorem liveDW (hw : Inv M) (h : ∀ v [CellI v], E B (sls rfC 38 35 v (liveRs (refsL M)) :: dbk a M :: H) (K v)) : E B (dbk a M :: H) (CF Tryz.prog 27 [ptr a] K) := by
  refine E_dbk fun fv sv L LS Pf Lv Lr Ps Lh hd => ?_
  refine liveD0 hd hw fun v _ => ?_
  refine sm (G := cel true a 88 [fv.1, sv.1, I M.now] :: spool fC Pf :: spool vC Lv :: spool rfC Lr :: spool shC Ps :: spool hC Lh :: sls rfC 38 35 v (liveRs (refsL M)) :: H) ?_
  refine E_dbkS hd rfl ?_
  exact sm (h v)
end Go.Proofs.YtjafpncngmbcdaaGreat.Nam
end
section
namespace Go.Proofs.YtjafpncngmbcdaaGreat.Nam
open Go Go.SL Go.SL.Stb Go.Proofs Go.Proofs.YtjafpncngmbcdaaGreat.Sh
variable {B : World} {H : List Asrt} {K : Value → WT} {W : WT} {a : Nat} {M : Bk} {f : Fa}
variable {fv sv : Cv} {L : List FC} {LS : List SC} {Pf : List (Value × List FC)} {Lv : List (Value × List VR)} {Lr : List (Value × List Rf)} {Ps : List (Value × List SC)} {Lh : List (Value × List (List UInt8 × Int))}
structure FX (Lr : List (Value × List Rf)) (Lh : List (Value × List (List UInt8 × Int))) (t : Int) (D : List Ver) (Z ZG : List FV) : Prop where
  l : Z.map (·.1) = tickF t :: D.map filedF
  g : ZG.map (·.1) = (D.filter (·.gone)).map goneF
  r : ∀ p ∈ Z, FR Lr Lh p
  s : ∀ p ∈ ZG, FR Lr Lh p
theorem FX.len {t : Int} {D : List Ver} {Z ZG : List FV} (h : FX Lr Lh t D Z ZG) : Z.length = D.length + 1 ∧ ZG.length ≤ D.length := by
  have h1 := congrArg List.length h.l
  have h2 := congrArg List.length h.g
  simp only [List.length_map, List.length_cons] at h1 h2
  refine ⟨h1, ?_⟩
  rw [h2]; exact List.length_filter_le _ _
theorem fr_gone {v : Ver} : FR Lr Lh (fvN (goneF v)) := ⟨.inr ⟨rfl, rfl⟩, .inr ⟨rfl, rfl⟩, rfl, rfl⟩
attribute [local irreducible] S.pick S.ld S.ldN S.st S.box S.nc S.fad S.ixS S.ixA S.chr S.prt S.ext S.bin S.sh S.sbin S.beq S.neg1 S.com1 S.not1 S.cvt S.str1 S.lenS S.len S.cap S.lenM S.mx S.mn S.mkM S.cond S.gd S.fa S.dr S.rck S.join S.loop S.cvv S.eqv S.slc S.slcS S.b2s S.lk V U CF Gives E cel mpb osl ros dct dit itr lpo dfo
set_option maxRecDepth 8000
attribute [local irreducible] bk dbk
theorem factsD0 (hd : DOk ⟨fv, sv, L, LS, Pf, Lv, Lr, Ps, Lh⟩ M) (hw : Inv M) (h : ∀ v Z [CellI v], Z.map (·.1) = factsL M → (∀ p ∈ Z, FR Lr Lh p) → E B (sls faE 60 14 v Z :: cel true a 88 [fv.1, sv.1, I M.now] :: spool fC Pf :: spool vC Lv :: spool rfC Lr :: spool shC Ps :: spool hC Lh :: H) (K v)) : E B (cel true a 88 [fv.1, sv.1, I M.now] :: spool fC Pf :: spool vC Lv :: spool rfC Lr :: spool shC Ps :: spool hC Lh :: H) (CF Tryz.prog 30 [ptr a] K) := by
  have hns := nms_lt hw.v.n
  have hL := nms_len32 hd hw
  have hlen := hd.len
  have hlenS := hd.lenS
  have hfl := hw.fl
  have hn := hw.n
  have h16 := hw.s16
  have rf : ∀ H, Rs B (spool fC Pf :: H) fv.1 fC L := rs_pool hd.f
  have rsh : ∀ H, Rs B (spool shC Ps :: H) sv.1 shC LS := rs_pool hd.s
  refine E_mono (W := s30 _ K) ?_ fun _ => c30
  unfold s30
  (repeat first | refine gS ?_ | refine gA fun _ => ?_ | refine gX fun _ _ => ?_ | refine gT ?_ | refine gF ?_ | refine gI ?_)
  refine E_build (l := faL (tickF M.now) nil nil nil) str_fact ?_
  refine E_bsl (l0 := zFact) [(0, 14)] u_factL elt_fact (by simp) (by decide) rfl (hf := fill_fact (f := tickF M.now) (rv := nil) (hv := nil) (mv := nil)) fun b1 => ?_
  refine E_slsC (enc := faE) [fvN (tickF M.now)] 1 rfl rfl ?_
  refine E_sbsl0 (sz := 14) faE u_factL elt_fact fun n1 _ => ?_
  refine E_loop (n := 4) (σ := Nat × Cv × List FV × Cv × List FV) (fun s => s.1 ≤ L.length ∧ FX Lr Lh M.now (((nms M.V).take s.1).flatMap (fof M.V)) s.2.2.1 s.2.2.2.2)
    (fun s => [ptr a, s.2.1.1, s.2.2.2.1.1, I s.1]) (fun s => cel true a 88 [fv.1, sv.1, I M.now] :: spool fC Pf :: spool vC Lv :: spool rfC Lr :: spool shC Ps :: spool hC Lh :: sls faE 60 14 s.2.1.1 s.2.2.1 :: sls faE 60 14 s.2.2.2.1.1 s.2.2.2.2 :: H) (fun s => L.length - s.1) (0, ⟨.slice (some ⟨b1, 0, none⟩) 1 1, rfl⟩, [fvN (tickF M.now)], ⟨n1, CellI.pf⟩, []) (fun _ => rfl) rfl
    ⟨Nat.zero_le _, rfl, rfl, fun p hp => (by
      simp only [List.mem_singleton] at hp
      subst hp
      exact ⟨.inr ⟨rfl, rfl⟩, .inr ⟨rfl, rfl⟩, rfl, rfl⟩), fun p hp => by cases hp⟩ (fun W hW => sm hW) ?_
  rintro ⟨i, ov, Z, gv, ZG⟩ K0 ⟨hi, hX⟩ hk0
  simp only at hi hX hk0 ⊢
  refine E_fa fun _ => ?_
  (repeat first | refine gS ?_ | refine gA fun _ => ?_ | refine gX fun _ _ => ?_ | refine gT ?_ | refine gF ?_ | refine gI ?_)
  refine E_if (fun hc => ?_) (fun hc => ?_)
  · have hx : (nms M.V)[i]? = some (nms M.V)[i] := List.getElem?_eq_getElem (by omega)
    generalize (nms M.V)[i] = k at hx
    have htk : (nms M.V).take (i + 1) = (nms M.V).take i ++ [k] := by rw [List.take_add_one, hx]; rfl
    obtain ⟨c, l, hx', hl⟩ := hd.get hx
    have rl := rs_pool (B := B) (enc := vC) hl.m
    have hll : l.length = (fof M.V k).length := by rw [← hl.e, List.length_map]
    have hfk := hfl k
    refine E_loop (n := 5) (σ := Nat × Cv × List FV × Cv × List FV) (fun s => s.1 ≤ l.length ∧ FX Lr Lh M.now (((nms M.V).take i).flatMap (fof M.V) ++ (fof M.V k).take s.1) s.2.2.1 s.2.2.2.2)
      (fun s => [ptr a, s.2.1.1, s.2.2.2.1.1, I i, I s.1]) (fun s => cel true a 88 [fv.1, sv.1, I M.now] :: spool fC Pf :: spool vC Lv :: spool rfC Lr :: spool shC Ps :: spool hC Lh :: sls faE 60 14 s.2.1.1 s.2.2.1 :: sls faE 60 14 s.2.2.2.1.1 s.2.2.2.2 :: H) (fun s => l.length - s.1) (0, ov, Z, gv, ZG) (fun _ => rfl) rfl ⟨Nat.zero_le _, by simp only [List.take_zero, List.append_nil]; exact hX⟩ (fun W hW => sm hW) ?_
    rintro ⟨j, ov1, Z1, gv1, ZG1⟩ K1 ⟨hj, hX1⟩ hk1
    simp only at hj hX1 hk1 ⊢
    have icv : CellI ov1.1 := ⟨ov1.2⟩
    have icg : CellI gv1.1 := ⟨gv1.2⟩
    refine E_fa fun _ => ?_
    (repeat first | refine gS ?_ | refine gA fun _ => ?_ | refine gX fun _ _ => ?_ | refine gT ?_ | refine gF ?_ | refine gI ?_)
    refine E_if (fun hc2 => ?_) (fun hc2 => ?_)
    · have hy : l[j]? = some l[j] := List.getElem?_eq_getElem (by omega)
      have hym := hl.r _ (List.mem_of_getElem? hy)
      have hyn : (l[j]).1.name = k := (fof_mem.1 (hl.e ▸ List.mem_map_of_mem (List.getElem_mem _))).2
      generalize l[j] = x at hy hym hyn
      have hfj : (fof M.V k)[j]? = some x.1 := by rw [← hl.e, List.getElem?_map, hy]; rfl
      have htk2 : (fof M.V k).take (j + 1) = (fof M.V k).take j ++ [x.1] := by rw [List.take_add_one, hfj]; rfl
      have hpl := (pre_at (j := j) hw.v.n hx).length_le
      obtain ⟨hz1, hz2⟩ := hX1.len
      generalize hD : ((nms M.V).take i).flatMap (fof M.V) ++ (fof M.V k).take j = D at *
      have icx : CellI x.2.1 := ⟨x.2.2⟩
      refine E_joinC (σ := Cv × List FV × Cv × List FV) (fun s => FX Lr Lh M.now (D ++ [x.1]) s.2.1 s.2.2.2) (fun s => [ptr a, s.1.1, s.2.2.1.1, I i, I j]) (fun s => cel true a 88 [fv.1, sv.1, I M.now] :: spool fC Pf :: spool vC Lv :: spool rfC Lr :: spool shC Ps :: spool hC Lh :: sls faE 60 14 s.1.1 s.2.1 :: sls faE 60 14 s.2.2.1.1 s.2.2.2 :: H) (fun q hq => ?_) (fun s hs => ?_)
      · (repeat first | refine gS ?_ | refine gA fun _ => ?_ | refine gX fun _ _ => ?_ | refine gT ?_ | refine gF ?_ | refine gI ?_)
        refine E_stW (vs := vC x) rfl rfl ?_
        (repeat first | refine gS ?_ | refine gA fun _ => ?_ | refine gX fun _ _ => ?_ | refine gT ?_ | refine gF ?_ | refine gI ?_)
        rw [← hyn]
        refine E_build (l := faL (filedF x.1) x.2.1 nil nil) str_fact ?_
        refine fd (a := sls faE 60 14 ov1.1 Z1) ?_
        refine E_sapp1 (enc := faE) ((filedF x.1, x.2, ⟨nil, rfl⟩, ⟨nil, rfl⟩) : FV) u_factL elt_fact rfl (by decide) (by omega) (by omega) fun ov2 hov2 => ?_
        have hl' : (Z1 ++ [((filedF x.1, x.2, ⟨nil, rfl⟩, ⟨nil, rfl⟩) : FV)]).map (·.1) = tickF M.now :: (D ++ [x.1]).map filedF := by
          rw [List.map_append, hX1.l]; simp
        have hr' : ∀ p ∈ Z1 ++ [((filedF x.1, x.2, ⟨nil, rfl⟩, ⟨nil, rfl⟩) : FV)], FR Lr Lh p := fun p hp => by
          rcases List.mem_append.1 hp with hp | hp
          · exact hX1.r p hp
          · simp only [List.mem_singleton] at hp
            subst hp
            exact ⟨.inl hym, .inr ⟨rfl, rfl⟩, rfl, rfl⟩
        (repeat first | refine gS ?_ | refine gA fun _ => ?_ | refine gX fun _ _ => ?_ | refine gT ?_ | refine gF ?_ | refine gI ?_)
        cases hg : x.1.gone with
        | true =>
          (repeat first | refine gS ?_ | refine gA fun _ => ?_ | refine gX fun _ _ => ?_ | refine gT ?_ | refine gF ?_ | refine gI ?_)
          rw [← hyn]
          refine E_build (l := faL (goneF x.1) nil nil nil) str_fact ?_
          refine fd (a := sls faE 60 14 gv1.1 ZG1) ?_
          refine E_sapp1 (enc := faE) (fvN (goneF x.1)) u_factL elt_fact rfl (by decide) (by omega) (by omega) fun gv2 hgv2 => ?_
          have := hq (⟨ov2, hov2.pf⟩, Z1 ++ [((filedF x.1, x.2, ⟨nil, rfl⟩, ⟨nil, rfl⟩) : FV)], ⟨gv2, hgv2.pf⟩, ZG1 ++ [fvN (goneF x.1)]) ⟨hl', by
            simp only
            rw [List.map_append, hX1.g, List.filter_append, List.map_append]
            simp [hg], hr', fun p hp => by
            rcases List.mem_append.1 hp with hp | hp
            · exact hX1.s p hp
            · simp only [List.mem_singleton] at hp
              subst hp
              exact fr_gone⟩
          exact sm this
        | false =>
          (repeat first | refine gS ?_ | refine gA fun _ => ?_ | refine gX fun _ _ => ?_ | refine gT ?_ | refine gF ?_ | refine gI ?_)
          have := hq (⟨ov2, hov2.pf⟩, Z1 ++ [((filedF x.1, x.2, ⟨nil, rfl⟩, ⟨nil, rfl⟩) : FV)], gv1, ZG1) ⟨hl', by
            simp only
            rw [hX1.g, List.filter_append, List.map_append]
            simp [hg], hr', hX1.s⟩
          exact sm this
      · obtain ⟨ov2, Z2, gv2, ZG2⟩ := s
        refine E_fa fun _ => ?_
        refine E_addI (by omega) (by omega) ?_
        exact hk1 (j + 1, ov2, Z2, gv2, ZG2) ⟨by simp only; omega, by simp only; rw [htk2, ← List.append_assoc, hD]; exact hs⟩ (by simp only; omega)
    · have hje : j = (fof M.V k).length := by omega
      subst hje
      rw [List.take_length] at hX1
      refine E_addI (by omega) (by omega) ?_
      refine sm (hk0 (i + 1, ov1, Z1, gv1, ZG1) ⟨by simp only; omega, ?_⟩ (by simp only; omega))
      simp only
      rw [htk, List.flatMap_append, List.flatMap_cons, List.flatMap_nil, List.append_nil]
      exact hX1
  have hie : i = (nms M.V).length := by omega
  subst hie
  rw [List.take_length, ← V_flat hw.v.n] at hX
  clear hk0
  obtain ⟨hz1, hz2⟩ := hX.len
  refine E_loop (n := 4) (σ := Nat × Cv × List FV) (fun s => s.1 ≤ LS.length ∧ s.2.2.map (·.1) = (tickF M.now :: M.V.map filedF) ++ (M.S.take s.1).map shotF ∧ ∀ p ∈ s.2.2, FR Lr Lh p) (fun s => [ptr a, s.2.1.1, gv.1, I s.1])
    (fun s => cel true a 88 [fv.1, sv.1, I M.now] :: spool fC Pf :: spool vC Lv :: spool rfC Lr :: spool shC Ps :: spool hC Lh :: sls faE 60 14 s.2.1.1 s.2.2 :: sls faE 60 14 gv.1 ZG :: H) (fun s => LS.length - s.1) (0, ov, Z) (fun _ => rfl) rfl
    ⟨Nat.zero_le _, by simp only [List.take_zero, List.map_nil, List.append_nil]; exact hX.l, hX.r⟩ (fun W hW => sm hW) ?_
  rintro ⟨i, ov1, Z1⟩ K0 ⟨hi, hl1, hr1⟩ hk
  simp only at hi hl1 hr1 hk ⊢
  have : CellI ov1.1 := ⟨ov1.2⟩
  have hL1 : Z1.length ≤ M.V.length + 1 + i := by
    have := congrArg List.length hl1
    simp only [List.length_map, List.length_append, List.length_cons, List.length_take] at this
    omega
  refine E_fa fun _ => ?_
  (repeat first | refine gS ?_ | refine gA fun _ => ?_ | refine gX fun _ _ => ?_ | refine gT ?_ | refine gF ?_ | refine gI ?_)
  refine E_if (fun hc1 => ?_) (fun hc1 => ?_)
  · have hxS : M.S[i]? = some M.S[i] := List.getElem?_eq_getElem (by omega)
    generalize M.S[i] = x at hxS
    obtain ⟨c, hx, hxm⟩ := hd.getS hxS
    have htk : M.S.take (i + 1) = M.S.take i ++ [x] := by rw [List.take_add_one, hxS]; rfl
    have icx : CellI c.1 := ⟨c.2⟩
    (repeat first | refine gS ?_ | refine gA fun _ => ?_ | refine gX fun _ _ => ?_ | refine gT ?_ | refine gF ?_ | refine gI ?_)
    refine E_build (l := faL (shotF x) nil c.1 nil) str_fact ?_
    refine fd (a := sls faE 60 14 ov1.1 Z1) ?_
    refine E_sapp1 (enc := faE) ((shotF x, ⟨nil, rfl⟩, c, ⟨nil, rfl⟩) : FV) u_factL elt_fact rfl (by decide) (by omega) (by omega) fun ov2 hov2 => ?_
    refine E_addI (by omega) (by omega) ?_
    refine sm (hk (i + 1, ⟨ov2, hov2.pf⟩, Z1 ++ [((shotF x, ⟨nil, rfl⟩, c, ⟨nil, rfl⟩) : FV)]) ⟨by simp only; omega, ?_, fun p hp => ?_⟩ (by simp only; omega))
    · simp only
      rw [htk, List.map_append, hl1, List.map_append]; simp
    · rcases List.mem_append.1 hp with hp | hp
      · exact hr1 p hp
      · simp only [List.mem_singleton] at hp
        subst hp
        exact ⟨.inr ⟨rfl, rfl⟩, .inl hxm, rfl, rfl⟩
  · have hie : i = M.S.length := by omega
    subst hie
    rw [List.take_length] at hl1
    refine fd (a := sls faE 60 14 ov1.1 Z1) ?_
    refine E_sapps (enc := faE) (m := ZG) u_factL elt_fact (by omega) (by omega) fun v' _ => ?_
    refine sm (h v' (Z1 ++ ZG) ?_ fun p hp => ?_)
    · rw [List.map_append, hl1, hX.g]
      unfold factsL
      simp
    · rcases List.mem_append.1 hp with hp | hp
      · exact hr1 p hp
      · exact hX.s p hp
theorem factsDW (hw : Inv M) (h : ∀ v Z Lr Lh [CellI v], Z.map (·.1) = factsL M → (∀ p ∈ Z, FR Lr Lh p) → E B (sls faE 60 14 v Z :: spool rfC Lr :: spool hC Lh :: dbk a M :: H) (K v)) : E B (dbk a M :: H) (CF Tryz.prog 30 [ptr a] K) := by
  refine E_dbk fun fv sv L LS Pf Lv Lr Ps Lh hd => ?_
  refine factsD0 hd hw fun v Z _ h1 h2 => ?_
  refine fd (a := spool rfC Lr) (pool_dup ?_)
  refine fd (a := spool hC Lh) (pool_dup ?_)
  refine sm (G := cel true a 88 [fv.1, sv.1, I M.now] :: spool fC Pf :: spool vC Lv :: spool rfC Lr :: spool shC Ps :: spool hC Lh :: sls faE 60 14 v Z :: spool rfC Lr :: spool hC Lh :: H) ?_
  refine E_dbkS hd rfl ?_
  exact sm (h v Z Lr Lh h1 h2)
end Go.Proofs.YtjafpncngmbcdaaGreat.Nam
end
section
namespace Go.Proofs.YtjafpncngmbcdaaGreat.Nam
open Go Go.SL Go.SL.Stb Go.Proofs Go.Proofs.YtjafpncngmbcdaaGreat.Sh
variable {B : World} {H : List Asrt} {K : Value → WT} {W : WT} {a : Nat} {M : Bk} {f : Fa}
theorem aneT {P : Program} {t : TypeId} {c : Bool} {xs ys : Array Value} (hg : P.eqGuardType P.depth t = false) (he : ∀ w, (Op.equal t (.agg xs) (.agg ys)).run P w = .ok true w) (h : E B H (K (.bool false))) : E B H (S.eqv P .neq t c (.agg xs) (.agg ys) K) := E_ane (b := true) hg he h
theorem FR.rs {Lr : List (Value × List Rf)} {Lh : List (Value × List (List UInt8 × Int))} {p : FV} (h : FR Lr Lh p) (h1 : ∀ v l, (v, l) ∈ Lr → Rs B H v rfC l) (h2 : ∀ v l, (v, l) ∈ Lh → Rs B H v hC l) : Rs B H p.2.1.1 rfC p.1.refs ∧ Rs B H p.2.2.1.1 hC p.1.held := by
  constructor
  · rcases h.r with hr | ⟨e1, e2⟩
    · exact h1 _ _ hr
    · rw [e1, e2]; exact ⟨fun _ => .inl ⟨rfl, rfl, rfl⟩⟩
  · rcases h.h with hr | ⟨e1, e2⟩
    · exact h2 _ _ hr
    · rw [e1, e2]; exact ⟨fun _ => .inl ⟨rfl, rfl, rfl⟩⟩
attribute [local irreducible] S.pick S.ld S.ldN S.st S.box S.nc S.fad S.ixS S.ixA S.chr S.prt S.ext S.bin S.sh S.sbin S.beq S.neg1 S.com1 S.not1 S.cvt S.str1 S.lenS S.len S.cap S.lenM S.mx S.mn S.mkM S.cond S.gd S.fa S.dr S.rck S.join S.loop S.cvv S.eqv S.slc S.slcS S.b2s S.lk V U CF Gives E cel mpb osl ros dct dit itr lpo dfo
set_option maxRecDepth 8000
attribute [local irreducible] bk dbk
theorem sameFact {r1 h1 r2 h2 : Value} [CellI r1] [CellI h1] [CellI r2] [CellI h2] [i1 : Rs B H r1 rfC f.refs] [i2 : Rs B H r2 rfC f.refs] [i3 : Rs B H h1 hC f.held] [i4 : Rs B H h2 hC f.held] (hr : f.refs.length ≤ 1000000) (hh : f.held.length ≤ 1000000) (h : E B H (K (.bool true))) :
    E B H (CF Tryz.prog 72 [.agg (faL f r1 h1 nil).toArray, .agg (faL f r2 h2 nil).toArray] K) := by
  refine E_mono (W := s72 _ _ K) ?_ fun _ => c72
  unfold s72
  refine E_box (vs := faL f r1 h1 nil) fun b1 => ?_
  refine E_box (vs := faL f r2 h2 nil) fun b2 => ?_
  have n1 : ¬ f.k ≠ f.k := fun h => h rfl
  have n2 : ¬ f.gen ≠ f.gen := fun h => h rfl
  have n3 : ¬ f.time ≠ f.time := fun h => h rfl
  have n4 : ¬ (f.held.length : Int) ≠ (f.held.length : Int) := fun h => h rfl
  refine E_join1 [ptr b1, ptr b2, .bool false] (cel true b2 60 (faL f r2 h2 nil) :: cel true b1 60 (faL f r1 h1 nil) :: H) (fun q hq => ?_) ?_
  · (repeat first | refine gS ?_ | refine gA fun _ => ?_ | refine gX fun _ _ => ?_ | refine gT ?_ | refine gF ?_ | refine gI ?_)
    refine E_ldN (cs := [I f.bin, I f.at_, I f.n]) rfl rfl ?_
    (repeat first | refine gS ?_ | refine gA fun _ => ?_ | refine gX fun _ _ => ?_ | refine gT ?_ | refine gF ?_ | refine gI ?_)
    refine E_ldN (cs := [I f.bin, I f.at_, I f.n]) rfl rfl ?_
    (repeat first | refine gS ?_ | refine gA fun _ => ?_ | refine gX fun _ _ => ?_ | refine gT ?_ | refine gF ?_ | refine gI ?_)
    refine aneT (by kernel_rfl) (fun w => by
      have := (eq_place f.bin f.at_ f.n f.bin f.at_ f.n).equal (by decide) w
      simpa using this) ?_
    (repeat first | refine gS ?_ | refine gA fun _ => ?_ | refine gX fun _ _ => ?_ | refine gT ?_ | refine gF ?_ | refine gI ?_)
    refine E_ldN (cs := [I f.last, I f.young, I f.step, I f.count]) rfl rfl ?_
    (repeat first | refine gS ?_ | refine gA fun _ => ?_ | refine gX fun _ _ => ?_ | refine gT ?_ | refine gF ?_ | refine gI ?_)
    refine E_ldN (cs := [I f.last, I f.young, I f.step, I f.count]) rfl rfl ?_
    (repeat first | refine gS ?_ | refine gA fun _ => ?_ | refine gX fun _ _ => ?_ | refine gT ?_ | refine gF ?_ | refine gI ?_)
    refine aneT (by kernel_rfl) (fun w => by
      have := (eq_keep f.last f.young f.step f.count f.last f.young f.step f.count).equal (by decide) w
      simpa using this) ?_
    (repeat first | refine gS ?_ | refine gA fun _ => ?_ | refine gX fun _ _ => ?_ | refine gT ?_ | refine gF ?_ | refine gI ?_)
    refine sameRefs (l := f.refs) hr ?_
    (repeat first | refine gS ?_ | refine gA fun _ => ?_ | refine gX fun _ _ => ?_ | refine gT ?_ | refine gF ?_ | refine gI ?_)
    exact hq
  refine E_fa fun _ => ?_
  refine E_ff ?_
  refine E_loop (n := 3) (σ := Nat) (fun i => i ≤ f.held.length) (fun i => [ptr b1, ptr b2, I i]) (fun _ => cel true b2 60 (faL f r2 h2 nil) :: cel true b1 60 (faL f r1 h1 nil) :: H) (fun i => f.held.length - i) 0 (fun _ => rfl) rfl (Nat.zero_le _) (fun W hW => hW) ?_
  rintro i K0 hi hk0
  refine E_fa fun _ => ?_
  (repeat first | refine gS ?_ | refine gA fun _ => ?_ | refine gX fun _ _ => ?_ | refine gT ?_ | refine gF ?_ | refine gI ?_)
  refine E_if (fun hc => ?_) (fun hc => ?_)
  · have hz : f.held[i]? = some f.held[i] := List.getElem?_eq_getElem (by omega)
    generalize f.held[i] = z at hz
    (repeat first | refine gS ?_ | refine gA fun _ => ?_ | refine gX fun _ _ => ?_ | refine gT ?_ | refine gF ?_ | refine gI ?_)
    refine aneT (by kernel_rfl) (fun w => by
      have := eq_held z z w
      rw [decide_eq_true rfl] at this
      exact this) ?_
    (repeat first | refine gS ?_ | refine gA fun _ => ?_ | refine gX fun _ _ => ?_ | refine gT ?_ | refine gF ?_ | refine gI ?_)
    refine hk0 (i + 1) (by omega) (by omega)
  refine E_loop (n := 3) (σ := Unit) (fun _ => True) (fun _ => [ptr b1, ptr b2, I 0]) (fun _ => cel true b2 60 (faL f r2 h2 nil) :: cel true b1 60 (faL f r1 h1 nil) :: H) (fun _ => 0) () (fun _ => rfl) rfl trivial (fun W hW => hW) ?_
  rintro _ K1 _ hk1
  refine E_fa fun _ => ?_
  (repeat first | refine gS ?_ | refine gA fun _ => ?_ | refine gX fun _ _ => ?_ | refine gT ?_ | refine gF ?_ | refine gI ?_)
  exact sm h
theorem sameFacts {x y : Value} {L1 L2 : List FV} [hx : Rs B H x faE L1] [hy : Rs B H y faE L2] (he : L1.map (·.1) = L2.map (·.1)) (h1 : ∀ p ∈ L1, Rs B H p.2.1.1 rfC p.1.refs ∧ Rs B H p.2.2.1.1 hC p.1.held ∧ p.2.2.2.1 = nil) (h2 : ∀ p ∈ L2, Rs B H p.2.1.1 rfC p.1.refs ∧ Rs B H p.2.2.1.1 hC p.1.held ∧ p.2.2.2.1 = nil)
    (hn : L1.length ≤ 1000000) (hr : ∀ p ∈ L1, p.1.refs.length ≤ 1000000 ∧ p.1.held.length ≤ 1000000) (h : E B H (K (.bool true))) : E B H (CF Tryz.prog 29 [x, y] K) := by
  have hl : L1.length = L2.length := by have := congrArg List.length he; simpa using this
  refine E_mono (W := s29 _ _ K) ?_ fun _ => c29
  unfold s29
  refine E_rslen (v := x) (l := L1) ?_
  refine E_rslen (v := y) (l := L2) ?_
  refine E_neq ?_
  refine E_ifF (by omega) ?_
  refine E_loop (n := 3) (σ := Nat) (fun i => i ≤ L1.length) (fun i => [x, y, I i]) (fun _ => H) (fun i => L1.length - i) 0 (fun _ => rfl) rfl (Nat.zero_le _) (fun W hW => hW) ?_
  rintro i K0 hi hk0
  refine E_fa fun _ => ?_
  refine E_rslen (v := x) (l := L1) ?_
  refine E_lss ?_
  refine E_if (fun hc => ?_) (fun hc => ?_)
  · have hz1 : L1[i]? = some L1[i] := List.getElem?_eq_getElem (by omega)
    have hz2 : L2[i]? = some L2[i] := List.getElem?_eq_getElem (by omega)
    have hm1 := List.mem_of_getElem? hz1
    have hm2 := List.mem_of_getElem? hz2
    have hee : (L1[i]).1 = (L2[i]).1 := by
      have := congrArg (fun l => l[i]?) he
      simp only [List.getElem?_map, hz1, hz2, Option.map_some, Option.some.injEq] at this
      exact this
    generalize L1[i] = p at *
    generalize L2[i] = q at *
    obtain ⟨a1, a2, a3⟩ := h1 p hm1
    obtain ⟨b1, b2, b3⟩ := h2 q hm2
    obtain ⟨c1, c2⟩ := hr p hm1
    obtain ⟨pf, pr, ph, pm⟩ := p
    obtain ⟨qf, qr, qh, qm⟩ := q
    simp only at hee a1 a2 a3 b1 b2 b3 c1 c2
    subst hee
    have ic1 : CellI pr.1 := ⟨pr.2⟩
    have ic2 : CellI ph.1 := ⟨ph.2⟩
    have ic3 : CellI qr.1 := ⟨qr.2⟩
    have ic4 : CellI qh.1 := ⟨qh.2⟩
    refine E_dr ?_
    refine E_rsix (v := x) (l := L1) hz1 fun _ _ => ?_
    refine E_ptldA ?_
    refine E_rsix (v := y) (l := L2) hz2 fun _ _ => ?_
    refine E_ptldA ?_
    show E B H (CF Tryz.prog 72 [.agg (faL pf pr.1 ph.1 pm.1).toArray, .agg (faL pf qr.1 qh.1 qm.1).toArray] _)
    rw [a3, b3]
    refine sameFact (f := pf) c1 c2 ?_
    (repeat first | refine gS ?_ | refine gA fun _ => ?_ | refine gX fun _ _ => ?_ | refine gT ?_ | refine gF ?_ | refine gI ?_)
    exact hk0 (i + 1) (by omega) (by omega)
  · exact h
end Go.Proofs.YtjafpncngmbcdaaGreat.Nam
end
section
namespace Go.Proofs.YtjafpncngmbcdaaGreat.Nam
open Go Go.SL Go.SL.Stb Go.Proofs Go.Proofs.YtjafpncngmbcdaaGreat.Sh
variable {B : World} {H : List Asrt} {K : Value → WT} {W : WT} {a : Nat} {M : Bk} {f : Fa}
theorem nameOk_len {n : List UInt8} (h : nameOk n = true) : n.length ≤ 32 := by
  simp only [nameOk, decide_eq_true_eq] at h; omega
theorem facts_all (hw : Inv M) : ∀ f ∈ factsL M, FaOk f ∧ f.refs.length ≤ 256 ∧ f.held.length ≤ 64 := fun f hf => by
  unfold factsL at hf
  rcases List.mem_cons.1 hf with rfl | hf
  · exact ⟨⟨Nat.zero_le _, Nat.zero_le _, Nat.zero_le _, Nat.zero_le _, fun h hh => by cases hh⟩, Nat.zero_le _, Nat.zero_le _⟩
  rcases List.mem_append.1 hf with hf | hf
  · obtain ⟨v, hv, rfl⟩ := List.mem_map.1 hf
    have h1 := nameOk_len (hw.nm v hv)
    have h2 := hw.r v hv
    exact ⟨⟨by show v.name.length ≤ _; omega, by show v.refs.length ≤ _; omega, Nat.zero_le _, Nat.zero_le _, fun h hh => by cases hh⟩, h2, Nat.zero_le _⟩
  rcases List.mem_append.1 hf with hf | hf
  · obtain ⟨s, hs, rfl⟩ := List.mem_map.1 hf
    have h1 := nameOk_len (hw.sn s hs)
    have h2 := hw.hh s hs
    refine ⟨⟨by show s.name.length ≤ _; omega, Nat.zero_le _, by show s.held.length ≤ _; omega, Nat.zero_le _, fun h hh => ?_⟩, Nat.zero_le _, h2⟩
    obtain ⟨v, hv, e, _⟩ := hw.se s hs h hh
    have := nameOk_len (hw.nm v hv)
    rw [← e]; omega
  · obtain ⟨v, hv, rfl⟩ := List.mem_map.1 hf
    have h1 := nameOk_len (hw.nm v (List.mem_filter.1 hv).1)
    exact ⟨⟨by show v.name.length ≤ _; omega, Nat.zero_le _, Nat.zero_le _, Nat.zero_le _, fun h hh => by cases hh⟩, Nat.zero_le _, Nat.zero_le _⟩
theorem facts_len (hw : Inv M) : (factsL M).length ≤ 5000 := by
  have h1 := hw.n
  have h2 := hw.s16
  have h3 : (M.V.filter (·.gone)).length ≤ M.V.length := List.length_filter_le _ _
  unfold factsL
  simp only [List.length_cons, List.length_append, List.length_map]
  omega
attribute [local irreducible] S.pick S.ld S.ldN S.st S.box S.nc S.fad S.ixS S.ixA S.chr S.prt S.ext S.bin S.sh S.sbin S.beq S.neg1 S.com1 S.not1 S.cvt S.str1 S.lenS S.len S.cap S.lenM S.mx S.mn S.mkM S.cond S.gd S.fa S.dr S.rck S.join S.loop S.cvv S.eqv S.slc S.slcS S.b2s S.lk V U CF Gives E cel mpb osl ros dct dit itr lpo dfo
set_option maxRecDepth 8000
attribute [local irreducible] bk dbk factsL
theorem namesLive {v0 : Value} {l : List FV} (hl : ∀ H, Rs B H v0 faE l) (hin : ∀ p ∈ l, FIn B p) (h : E B H (K (.bool true))) : E B H (CF Tryz.prog 7 [v0] K) := by
  refine E_mono (W := s7 _ K) ?_ fun _ => c7
  unfold s7
  refine play hl hin fun a b => ?_
  have hw := inv_run (l.map (·.1))
  generalize runM (l.map (·.1)) = M at hw ⊢
  have hlr : (refsL M).length ≤ 524288 := refs_len hw (List.prefix_refl _)
  have hsl := spots_len (refsL M)
  have hll : (liveRs (refsL M)).length ≤ 524288 := Nat.le_trans (List.length_filterMap_le _ _) (by omega)
  (repeat first | refine gS ?_ | refine gA fun _ => ?_ | refine gX fun _ _ => ?_ | refine gT ?_ | refine gF ?_ | refine gI ?_)
  refine E_join1 [ptr a, ptr b, .bool false] (bk a M :: dbk b M :: H) (fun q hq => ?_) ?_
  · (repeat first | refine gS ?_ | refine gA fun _ => ?_ | refine gX fun _ _ => ?_ | refine gT ?_ | refine gF ?_ | refine gI ?_)
    refine liveP hw fun v1 _ => ?_
    (repeat first | refine gS ?_ | refine gA fun _ => ?_ | refine gX fun _ _ => ?_ | refine gT ?_ | refine gF ?_ | refine gI ?_)
    refine fd (a := dbk b M) ?_
    refine liveDW hw fun v2 _ => ?_
    (repeat first | refine gS ?_ | refine gA fun _ => ?_ | refine gX fun _ _ => ?_ | refine gT ?_ | refine gF ?_ | refine gI ?_)
    refine sameRefs (l := liveRs (refsL M)) (by omega) ?_
    (repeat first | refine gS ?_ | refine gA fun _ => ?_ | refine gX fun _ _ => ?_ | refine gT ?_ | refine gF ?_ | refine gI ?_)
    exact sm hq
  refine E_fa fun _ => ?_
  refine E_ff ?_
  refine factsP hw fun v1 L1 Lr1 Lh1 _ e1 r1 => ?_
  refine fd (a := dbk b M) ?_
  refine factsDW hw fun v2 L2 Lr2 Lh2 _ e2 r2 => ?_
  have hfl := facts_len hw
  have hfa := facts_all hw
  have hl1 : L1.length = (factsL M).length := by rw [← e1, List.length_map]
  have hm1 : ∀ p ∈ L1, p.1 ∈ factsL M := fun p hp => by rw [← e1]; exact List.mem_map_of_mem hp
  refine sameFacts (L1 := L1) (L2 := L2) (e1.trans e2.symm) (fun p hp => ?_) (fun p hp => ?_) (by omega) (fun p hp => by have := (hfa _ (hm1 p hp)).2; omega) ?_
  · have := (r1 p hp).rs (B := B) (H := sls faE 60 14 v2 L2 :: spool rfC Lr2 :: spool hC Lh2 :: dbk b M :: sls faE 60 14 v1 L1 :: spool rfC Lr1 :: spool hC Lh1 :: bk a M :: H) (fun v l hm => by have := rs_pool (B := B) (enc := rfC) hm; infer_instance) (fun v l hm => by have := rs_pool (B := B) (enc := hC) hm; infer_instance)
    exact ⟨this.1, this.2, (r1 p hp).m.1⟩
  · have := (r2 p hp).rs (B := B) (H := sls faE 60 14 v2 L2 :: spool rfC Lr2 :: spool hC Lh2 :: dbk b M :: sls faE 60 14 v1 L1 :: spool rfC Lr1 :: spool hC Lh1 :: bk a M :: H) (fun v l hm => by have := rs_pool (B := B) (enc := rfC) hm; infer_instance) (fun v l hm => by have := rs_pool (B := B) (enc := hC) hm; infer_instance)
    exact ⟨this.1, this.2, (r2 p hp).m.1⟩
  (repeat first | refine gS ?_ | refine gA fun _ => ?_ | refine gX fun _ _ => ?_ | refine gT ?_ | refine gF ?_ | refine gI ?_)
  refine new fun c => ?_
  refine E_loop (n := 4) (σ := Nat × Bk) (fun s => s.1 ≤ L1.length ∧ Inv s.2 ∧ Run s.2 ((factsL M).drop s.1) M) (fun s => [ptr b, v1, ptr c, I s.1]) (fun s => bk c s.2 :: sls faE 60 14 v1 L1 :: spool rfC Lr1 :: spool hC Lh1 :: dbk b M :: H) (fun s => L1.length - s.1) (0, ⟨[], [], 0⟩) (fun _ => rfl) rfl ⟨Nat.zero_le _, inv0, facts_run hw⟩ (fun W hW => sm hW) ?_
  rintro ⟨i, Mi⟩ K0 ⟨hi, hwi, hrun⟩ hk
  simp only at hi hwi hrun hk ⊢
  refine E_fa fun _ => ?_
  refine E_rslen (v := v1) (l := L1) ?_
  refine E_lss ?_
  refine E_if (fun hc => ?_) (fun hc => ?_)
  · have hx : L1[i]? = some L1[i] := List.getElem?_eq_getElem (by omega)
    have hxm := List.mem_of_getElem? hx
    generalize L1[i] = p at hx hxm
    have hf : (factsL M)[i]? = some p.1 := by rw [← e1, List.getElem?_map, hx]; rfl
    obtain ⟨hck, hrun2⟩ := hrun.at hf
    have hfr := r1 p hxm
    obtain ⟨hok, _, _⟩ := hfa _ (hm1 p hxm)
    have hrs := hfr.rs (B := B) (H := sls faE 60 14 v1 L1 :: spool rfC Lr1 :: spool hC Lh1 :: dbk b M :: H) (fun v l hm => by have := rs_pool (B := B) (enc := rfC) hm; infer_instance) (fun v l hm => by have := rs_pool (B := B) (enc := hC) hm; infer_instance)
    have j1 := hrs.1
    have j2 := hrs.2
    have ic1 : CellI p.2.1.1 := ⟨p.2.1.2⟩
    have ic2 : CellI p.2.2.1.1 := ⟨p.2.2.1.2⟩
    have ic3 : CellI p.2.2.2.1 := ⟨p.2.2.2.2⟩
    have j3 : ∀ G, Rs B (G ++ (sls faE 60 14 v1 L1 :: spool rfC Lr1 :: spool hC Lh1 :: dbk b M :: H)) p.2.2.2.1 mvC p.1.moves := fun G => by
      rw [hfr.m.1, hfr.m.2]; exact ⟨fun _ => .inl ⟨rfl, rfl, rfl⟩⟩
    refine E_rsix (v := v1) (l := L1) hx fun _ _ => ?_
    refine E_ptldA ?_
    show E B _ (CF Tryz.prog 23 [ptr c, .agg (faL p.1 p.2.1.1 p.2.2.1.1 p.2.2.2.1).toArray] _)
    refine apply (f := p.1) hok hwi ?_
    rw [hck]
    (repeat first | refine gS ?_ | refine gA fun _ => ?_ | refine gX fun _ _ => ?_ | refine gT ?_ | refine gF ?_ | refine gI ?_)
    exact hk (i + 1, stepM Mi p.1) ⟨by simp only; omega, hwi.step p.1, hrun2⟩ (by simp only; omega)
  · have hie : i = (factsL M).length := by omega
    subst hie
    rw [List.drop_length] at hrun
    cases hrun
    refine alive ?_
    (repeat first | refine gS ?_ | refine gA fun _ => ?_ | refine gX fun _ _ => ?_ | refine gT ?_ | refine gF ?_ | refine gI ?_)
    refine sm (G := bk c M :: dbk b M :: H) ?_
    refine alike hw ?_
    (repeat first | refine gS ?_ | refine gA fun _ => ?_ | refine gX fun _ _ => ?_ | refine gT ?_ | refine gF ?_ | refine gI ?_)
    exact sm h
end Go.Proofs.YtjafpncngmbcdaaGreat.Nam
end
section
namespace Go.Proofs.YtjafpncngmbcdaaGreat.Row
open Go Go.SL Go.Proofs Go.Proofs.YtjafpncngmbcdaaGreat
open Go.ChangeShapes Go.WideShapes Go.ChangeAt Go.RowKit
set_option maxRecDepth 100000
variable {H : Type} {enc : TypeId × Value → H} {W : World} {base : Nat} {v : Value} {d : DataW H} {p : List MemPlace}
theorem walk_NamesLive {w : World} {v0 : Value} (h0 : Q_tFacts w v0) : Calls Tryz.prog 7 #[v0] w fun e w' => e = .returned (.bool true) ∧ Below w.heap.size w w' := by
  obtain ⟨l, hc, hr, hok⟩ := h0
  exact calls_of (args := [v0]) fun K h => Nam.namesLive (facts_rs hr) (fun p hp => (hok p hp).fin) h
end Go.Proofs.YtjafpncngmbcdaaGreat.Row
end
