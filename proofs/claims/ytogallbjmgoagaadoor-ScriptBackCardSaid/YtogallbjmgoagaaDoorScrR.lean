/-
  Script: the reference's Print; answers told.
-/
import Derived.Test.YtogallbjmgoagaaDoorScrQ
set_option linter.unusedSimpArgs false
set_option linter.unusedVariables false
set_option linter.unusedSectionVars false
namespace Go.Proofs.YtogallbjmgoagaaDoor.Scr
open Go Go.SL Go.Proofs Go.Proofs.YtogallbjmgoagaaDoor.Sh
variable {B : World} {H : List Asrt} {K : Value → WT} {W : WT}
/-- The words of a form. -/
def pieces : List UInt8 → List Int → OpV → List (List UInt8)
  | [], _, _ => []
  | c :: t, ns, o =>
    if c = 110 then numI (ns.headD 0) :: pieces t ns.tail o
    else if c = 97 then o.name :: pieces t ns o
    else if c = 115 then o.shot :: pieces t ns o
    else if c = 98 then textT o.bytes :: pieces t ns o
    else if c = 107 then keepT o.keep :: tornT o.torn :: numI o.at_ :: pieces t ns o
    else pieces t ns o
def numsF (f : List UInt8) (o : OpV) : List Int :=
  if f = [97, 110] then [o.gen] else if f = [97, 110, 110, 110] then [o.gen, o.from_, o.size] else if f = [110, 110, 110, 110] then [o.last, o.young, o.step, o.count] else [o.n]
theorem pieces_arg {o : OpV} (hd : 1 ≤ o.d ∧ o.d ≤ 21) : pieces (formsL.getD o.d.toNat []) (numsF (formsL.getD o.d.toNat []) o) o = argL o := by
  obtain ⟨d, hdd⟩ : ∃ d : Nat, o.d = d := ⟨o.d.toNat, by omega⟩
  have key : ∀ d, 1 ≤ d ∧ d ≤ 21 → d = 1 ∨ d = 2 ∨ d = 3 ∨ d = 4 ∨ d = 5 ∨ d = 6 ∨ d = 7 ∨ d = 8 ∨ d = 9 ∨ d = 10 ∨ d = 11 ∨ d = 12 ∨ d = 13 ∨ d = 14 ∨ d = 15 ∨ d = 16 ∨ d = 17 ∨ d = 18 ∨ d = 19 ∨ d = 20 ∨ d = 21 := by omega
  unfold argL
  rw [hdd, Int.toNat_natCast]
  rcases key d (by omega) with rfl | rfl | rfl | rfl | rfl | rfl | rfl | rfl | rfl | rfl | rfl | rfl | rfl | rfl | rfl | rfl | rfl | rfl | rfl | rfl | rfl <;> rfl
theorem joinB_flat : ∀ (w : List UInt8) (l : List (List UInt8)), joinB (w :: l) = w ++ l.flatMap (32 :: ·)
  | w, [] => by simp [joinB]
  | w, u :: l => by
    show w ++ 32 :: joinB (u :: l) = _
    rw [joinB_flat u l]; simp
theorem nums_fit {f : List UInt8} {o : OpV} (hf : Fit o) : (∀ n ∈ numsF f o, n ≤ 9223372036854775807) ∧ (f ∈ formsL → f.count 110 ≤ (numsF f o).length) := by
  obtain ⟨f1, f2, f3, f4, f5, f6, f7, f8, f9, f10, f11, f12, f13, f14⟩ := hf
  constructor
  · intro n hn
    unfold numsF at hn
    repeat' split at hn
    all_goals simp only [List.mem_cons, List.not_mem_nil, or_false] at hn
    all_goals omega
  · intro hm
    have : ∀ f ∈ formsL, f.count 110 ≤ (if f = [97, 110] then 1 else if f = [97, 110, 110, 110] then 3 else if f = [110, 110, 110, 110] then 4 else 1) := by decide
    refine Nat.le_trans (this f hm) ?_
    unfold numsF
    repeat' split
    all_goals simp
attribute [local irreducible] S.pick S.ld S.ldN S.st S.box S.nc S.fad S.ixS S.ixA S.chr S.prt S.ext S.bin S.sh S.sbin S.beq S.neg1 S.com1 S.not1 S.cvt S.str1 S.lenS S.len S.cap S.lenM S.mx S.mn S.mkM S.cond S.gd S.fa S.dr S.rck S.join S.loop S.cvv S.eqv S.slc S.slcS S.b2s S.lk V U CF Gives E cel mpb osl ros dct dit itr lpo dfo
attribute [local irreducible] sls
set_option maxRecDepth 8000
theorem rprint [Amb] {o : OpV} {v u : Value} [CellI v] [CellI u] [Rb B H v o.bytes] [Rs B H u cL o.keep] (hfit : Fit o)
    (h1 : ∀ l, printP o = some l → E B H (K (.tuple #[str l, I 0]))) (h2 : printP o = none → E B H (K (.tuple #[str [], I 4]))) : E B H (CF Tryd.prog 12 [.agg (opC o v u).toArray] K) := by
  refine E_mono (W := s12 _ K) ?_ fun _ => c12
  unfold s12
  refine E_box (vs := opC o v u) fun b1 => ?_
  have hb := hfit.bytes
  have hkp := hfit.keep
  refine E_join1 [ptr b1, .bool (decide (¬ (1 ≤ o.d ∧ o.d ≤ 21)))] (cel true b1 30 (opC o v u) :: H) (fun q hq => ?_) ?_
  · have hfin : ∀ b : Bool, decide (¬ (1 ≤ o.d ∧ o.d ≤ 21)) = b → E B (cel true b1 30 (opC o v u) :: H) (app 2 q [ptr b1, .bool b]) := fun b h => h ▸ hq
    (repeat (first | refine goS ?_ | refine E_box fun _ => ?_ | refine E_fa fun _ => ?_ | refine E_ptfad0 fun _ _ => ?_ | refine E_ptfad fun _ _ => ?_ | refine E_rsix (by assumption) fun _ _ => ?_ | refine E_ifT (by first | assumption | decide) ?_ | refine E_ifF (by first | assumption | decide) ?_ | refine E_gdT (by first | assumption | decide) ?_ | refine E_gdF (by first | assumption | decide) ?_ | refine E_gdnT (by first | assumption | decide) ?_ | refine E_gdnF (by first | assumption | decide) ?_ | refine E_pickT (by first | assumption | decide) ?_ | refine E_pickF (by first | assumption | decide) ?_ | refine E_ixN (by omega) ?_ | refine E_ld' (by assumption) ?_ | refine E_addI (by omega) (by omega) ?_ | refine E_subI (by omega) (by omega) ?_ | refine E_mulI (by omega) (by omega) ?_))
    by_cases g : o.d < 1
    · (repeat (first | refine goS ?_ | refine E_box fun _ => ?_ | refine E_fa fun _ => ?_ | refine E_ptfad0 fun _ _ => ?_ | refine E_ptfad fun _ _ => ?_ | refine E_rsix (by assumption) fun _ _ => ?_ | refine E_ifT (by first | assumption | decide) ?_ | refine E_ifF (by first | assumption | decide) ?_ | refine E_gdT (by first | assumption | decide) ?_ | refine E_gdF (by first | assumption | decide) ?_ | refine E_gdnT (by first | assumption | decide) ?_ | refine E_gdnF (by first | assumption | decide) ?_ | refine E_pickT (by first | assumption | decide) ?_ | refine E_pickF (by first | assumption | decide) ?_ | refine E_ixN (by omega) ?_ | refine E_ld' (by assumption) ?_ | refine E_addI (by omega) (by omega) ?_ | refine E_subI (by omega) (by omega) ?_ | refine E_mulI (by omega) (by omega) ?_))
      exact hfin _ (decide_eq_true (by omega))
    · (repeat (first | refine goS ?_ | refine E_box fun _ => ?_ | refine E_fa fun _ => ?_ | refine E_ptfad0 fun _ _ => ?_ | refine E_ptfad fun _ _ => ?_ | refine E_rsix (by assumption) fun _ _ => ?_ | refine E_ifT (by first | assumption | decide) ?_ | refine E_ifF (by first | assumption | decide) ?_ | refine E_gdT (by first | assumption | decide) ?_ | refine E_gdF (by first | assumption | decide) ?_ | refine E_gdnT (by first | assumption | decide) ?_ | refine E_gdnF (by first | assumption | decide) ?_ | refine E_pickT (by first | assumption | decide) ?_ | refine E_pickF (by first | assumption | decide) ?_ | refine E_ixN (by omega) ?_ | refine E_ld' (by assumption) ?_ | refine E_addI (by omega) (by omega) ?_ | refine E_subI (by omega) (by omega) ?_ | refine E_mulI (by omega) (by omega) ?_))
      exact hfin _ (by rw [decide_eq_decide]; omega)
  refine E_fa fun _ => ?_
  refine E_if (fun hd => ?_) (fun hd => ?_)
  · exact E_drop (h2 (by unfold printP; rw [if_neg hd]))
  have hd : 1 ≤ o.d ∧ o.d ≤ 21 := Decidable.not_not.1 hd
  obtain ⟨k, hk⟩ : ∃ k : Nat, o.d = (k + 1 : Nat) := ⟨o.d.toNat - 1, by omega⟩
  have hpa := pieces_arg hd
  have hline : lineT o = verbL.getD k [] ++ (argL o).flatMap (32 :: ·) := by
    unfold lineT; rw [joinB_flat, show o.d.toNat - 1 = k by omega]
  have hll := lineT_len hfit
  rw [show o.d.toNat = k + 1 by omega] at hpa
  have hgv : ([] :: verbL)[k + 1]? = some (verbL.getD k []) := by
    have hl : k < verbL.length := by have : verbL.length = 21 := rfl; omega
    rw [List.getElem?_cons_succ, List.getD_eq_getElem?_getD, List.getElem?_eq_getElem hl]; rfl
  have hgf : formsL[k + 1]? = some (formsL.getD (k + 1) []) := by
    have hl : k + 1 < formsL.length := by have : formsL.length = 22 := rfl; omega
    rw [List.getD_eq_getElem?_getD, List.getElem?_eq_getElem hl]; rfl
  have hfm := List.mem_of_getElem? hgf
  generalize formsL.getD (k + 1) [] = f at hpa hgf hfm
  obtain ⟨hnf, hnc⟩ := nums_fit (f := f) hfit
  have hnc := hnc hfm
  have hflen : f.length ≤ 4 := by
    have : ∀ f ∈ formsL, f.length ≤ 4 := by decide
    exact this f hfm
  refine E_dr ?_
  (repeat (first | refine goS ?_ | refine E_box fun _ => ?_ | refine E_fa fun _ => ?_ | refine E_ptfad0 fun _ _ => ?_ | refine E_ptfad fun _ _ => ?_ | refine E_rsix (by assumption) fun _ _ => ?_ | refine E_ifT (by first | assumption | decide) ?_ | refine E_ifF (by first | assumption | decide) ?_ | refine E_gdT (by first | assumption | decide) ?_ | refine E_gdF (by first | assumption | decide) ?_ | refine E_gdnT (by first | assumption | decide) ?_ | refine E_gdnF (by first | assumption | decide) ?_ | refine E_pickT (by first | assumption | decide) ?_ | refine E_pickF (by first | assumption | decide) ?_ | refine E_ixN (by omega) ?_ | refine E_ld' (by assumption) ?_ | refine E_addI (by omega) (by omega) ?_ | refine E_subI (by omega) (by omega) ?_ | refine E_mulI (by omega) (by omega) ?_))
  refine rverbs fun vv _ => ?_
  (repeat (refine E_rck1 (by first | exact E_ld (E_fact rfl) | exact E_ld' (by assumption) (E_fact rfl) | exact E_b2sR (E_fact rfl) | exact E_gdnF (by assumption) (E_ld (E_fact rfl)) | exact E_gdT (by assumption) (E_ld (E_fact rfl)) | exact E_gtf (E_ld (E_fact rfl)) | exact E_gft (E_ld (E_fact rfl)) | exact E_ldNA (E_fact rfl) | exact E_ptld (E_fact rfl) | exact E_gtf (E_ldNA (E_fact rfl))) ?_)); (first | (refine E_rck0 ?_) | skip)
  rw [hk]
  refine E_rsix (v := vv) hgv fun _ _ => ?_
  refine E_ptld ?_
  refine E_dr ?_
  (repeat (first | refine goS ?_ | refine E_box fun _ => ?_ | refine E_fa fun _ => ?_ | refine E_ptfad0 fun _ _ => ?_ | refine E_ptfad fun _ _ => ?_ | refine E_rsix (by assumption) fun _ _ => ?_ | refine E_ifT (by first | assumption | decide) ?_ | refine E_ifF (by first | assumption | decide) ?_ | refine E_gdT (by first | assumption | decide) ?_ | refine E_gdF (by first | assumption | decide) ?_ | refine E_gdnT (by first | assumption | decide) ?_ | refine E_gdnF (by first | assumption | decide) ?_ | refine E_pickT (by first | assumption | decide) ?_ | refine E_pickF (by first | assumption | decide) ?_ | refine E_ixN (by omega) ?_ | refine E_ld' (by assumption) ?_ | refine E_addI (by omega) (by omega) ?_ | refine E_subI (by omega) (by omega) ?_ | refine E_mulI (by omega) (by omega) ?_))
  refine rforms fun fv _ => ?_
  (repeat (refine E_rck1 (by first | exact E_ld (E_fact rfl) | exact E_ld' (by assumption) (E_fact rfl) | exact E_b2sR (E_fact rfl) | exact E_gdnF (by assumption) (E_ld (E_fact rfl)) | exact E_gdT (by assumption) (E_ld (E_fact rfl)) | exact E_gtf (E_ld (E_fact rfl)) | exact E_gft (E_ld (E_fact rfl)) | exact E_ldNA (E_fact rfl) | exact E_ptld (E_fact rfl) | exact E_gtf (E_ldNA (E_fact rfl))) ?_)); (first | (refine E_rck0 ?_) | skip)
  rw [hk]
  refine E_rsix (v := fv) hgf fun _ _ => ?_
  refine E_ptld ?_
  (repeat (first | refine goS ?_ | refine E_box fun _ => ?_ | refine E_fa fun _ => ?_ | refine E_ptfad0 fun _ _ => ?_ | refine E_ptfad fun _ _ => ?_ | refine E_rsix (by assumption) fun _ _ => ?_ | refine E_ifT (by first | assumption | decide) ?_ | refine E_ifF (by first | assumption | decide) ?_ | refine E_gdT (by first | assumption | decide) ?_ | refine E_gdF (by first | assumption | decide) ?_ | refine E_gdnT (by first | assumption | decide) ?_ | refine E_gdnF (by first | assumption | decide) ?_ | refine E_pickT (by first | assumption | decide) ?_ | refine E_pickF (by first | assumption | decide) ?_ | refine E_ixN (by omega) ?_ | refine E_ld' (by assumption) ?_ | refine E_addI (by omega) (by omega) ?_ | refine E_subI (by omega) (by omega) ?_ | refine E_mulI (by omega) (by omega) ?_))
  refine E_bsl (l0 := [I 0]) [(0, 1)] u_ints elt_int (by simp) (by decide) rfl fun b2 => ?_
  refine E_joinC (σ := Value) (fun nv => CellI nv) (fun nv => [ptr b1, str (verbL.getD k []), str f, nv]) (fun nv => sls cI 3 1 nv (numsF f o) :: cel true b1 30 (opC o v u) :: H) (fun q hq => ?_) ?_
  · refine E_streq (b := [97, 110]) ?_
    by_cases g1 : f = [97, 110]
    · have e : numsF f o = [o.gen] := by unfold numsF; rw [if_pos g1]
      rw [e] at hq
      (repeat (first | refine goS ?_ | refine E_box fun _ => ?_ | refine E_fa fun _ => ?_ | refine E_ptfad0 fun _ _ => ?_ | refine E_ptfad fun _ _ => ?_ | refine E_rsix (by assumption) fun _ _ => ?_ | refine E_ifT (by first | assumption | decide) ?_ | refine E_ifF (by first | assumption | decide) ?_ | refine E_gdT (by first | assumption | decide) ?_ | refine E_gdF (by first | assumption | decide) ?_ | refine E_gdnT (by first | assumption | decide) ?_ | refine E_gdnF (by first | assumption | decide) ?_ | refine E_pickT (by first | assumption | decide) ?_ | refine E_pickF (by first | assumption | decide) ?_ | refine E_ixN (by omega) ?_ | refine E_ld' (by assumption) ?_ | refine E_addI (by omega) (by omega) ?_ | refine E_subI (by omega) (by omega) ?_ | refine E_mulI (by omega) (by omega) ?_))
      refine E_bsl (l0 := [I 0]) [(0, 1)] u_ints elt_int (by simp) (by decide) rfl fun b3 => ?_
      refine E_slsC (enc := cI) [o.gen] 1 rfl rfl ?_
      exact E_same (by repeat (first | exact Same.refl | (refine Same.cons (by repeat (first | exact Find.here | apply Find.there)) ?_) | (refine Same.drop ?_))) (hq _ ⟨rfl⟩)
    (repeat (first | refine goS ?_ | refine E_box fun _ => ?_ | refine E_fa fun _ => ?_ | refine E_ptfad0 fun _ _ => ?_ | refine E_ptfad fun _ _ => ?_ | refine E_rsix (by assumption) fun _ _ => ?_ | refine E_ifT (by first | assumption | decide) ?_ | refine E_ifF (by first | assumption | decide) ?_ | refine E_gdT (by first | assumption | decide) ?_ | refine E_gdF (by first | assumption | decide) ?_ | refine E_gdnT (by first | assumption | decide) ?_ | refine E_gdnF (by first | assumption | decide) ?_ | refine E_pickT (by first | assumption | decide) ?_ | refine E_pickF (by first | assumption | decide) ?_ | refine E_ixN (by omega) ?_ | refine E_ld' (by assumption) ?_ | refine E_addI (by omega) (by omega) ?_ | refine E_subI (by omega) (by omega) ?_ | refine E_mulI (by omega) (by omega) ?_))
    by_cases g2 : f = [97, 110, 110, 110]
    · have e : numsF f o = [o.gen, o.from_, o.size] := by unfold numsF; rw [if_neg g1, if_pos g2]
      rw [e] at hq
      (repeat (first | refine goS ?_ | refine E_box fun _ => ?_ | refine E_fa fun _ => ?_ | refine E_ptfad0 fun _ _ => ?_ | refine E_ptfad fun _ _ => ?_ | refine E_rsix (by assumption) fun _ _ => ?_ | refine E_ifT (by first | assumption | decide) ?_ | refine E_ifF (by first | assumption | decide) ?_ | refine E_gdT (by first | assumption | decide) ?_ | refine E_gdF (by first | assumption | decide) ?_ | refine E_gdnT (by first | assumption | decide) ?_ | refine E_gdnF (by first | assumption | decide) ?_ | refine E_pickT (by first | assumption | decide) ?_ | refine E_pickF (by first | assumption | decide) ?_ | refine E_ixN (by omega) ?_ | refine E_ld' (by assumption) ?_ | refine E_addI (by omega) (by omega) ?_ | refine E_subI (by omega) (by omega) ?_ | refine E_mulI (by omega) (by omega) ?_))
      refine E_bsl (l0 := [I 0, I 0, I 0]) [(0, 1), (1, 1), (2, 1)] u_ints elt_int (by simp) (by decide) rfl fun b3 => ?_
      refine E_slsC (enc := cI) [o.gen, o.from_, o.size] 3 rfl rfl ?_
      exact E_same (by repeat (first | exact Same.refl | (refine Same.cons (by repeat (first | exact Find.here | apply Find.there)) ?_) | (refine Same.drop ?_))) (hq _ ⟨rfl⟩)
    (repeat (first | refine goS ?_ | refine E_box fun _ => ?_ | refine E_fa fun _ => ?_ | refine E_ptfad0 fun _ _ => ?_ | refine E_ptfad fun _ _ => ?_ | refine E_rsix (by assumption) fun _ _ => ?_ | refine E_ifT (by first | assumption | decide) ?_ | refine E_ifF (by first | assumption | decide) ?_ | refine E_gdT (by first | assumption | decide) ?_ | refine E_gdF (by first | assumption | decide) ?_ | refine E_gdnT (by first | assumption | decide) ?_ | refine E_gdnF (by first | assumption | decide) ?_ | refine E_pickT (by first | assumption | decide) ?_ | refine E_pickF (by first | assumption | decide) ?_ | refine E_ixN (by omega) ?_ | refine E_ld' (by assumption) ?_ | refine E_addI (by omega) (by omega) ?_ | refine E_subI (by omega) (by omega) ?_ | refine E_mulI (by omega) (by omega) ?_))
    by_cases g3 : f = [110, 110, 110, 110]
    · have e : numsF f o = [o.last, o.young, o.step, o.count] := by unfold numsF; rw [if_neg g1, if_neg g2, if_pos g3]
      rw [e] at hq
      (repeat (first | refine goS ?_ | refine E_box fun _ => ?_ | refine E_fa fun _ => ?_ | refine E_ptfad0 fun _ _ => ?_ | refine E_ptfad fun _ _ => ?_ | refine E_rsix (by assumption) fun _ _ => ?_ | refine E_ifT (by first | assumption | decide) ?_ | refine E_ifF (by first | assumption | decide) ?_ | refine E_gdT (by first | assumption | decide) ?_ | refine E_gdF (by first | assumption | decide) ?_ | refine E_gdnT (by first | assumption | decide) ?_ | refine E_gdnF (by first | assumption | decide) ?_ | refine E_pickT (by first | assumption | decide) ?_ | refine E_pickF (by first | assumption | decide) ?_ | refine E_ixN (by omega) ?_ | refine E_ld' (by assumption) ?_ | refine E_addI (by omega) (by omega) ?_ | refine E_subI (by omega) (by omega) ?_ | refine E_mulI (by omega) (by omega) ?_))
      refine E_bsl (l0 := [I 0, I 0, I 0, I 0]) [(0, 1), (1, 1), (2, 1), (3, 1)] u_ints elt_int (by simp) (by decide) rfl fun b3 => ?_
      refine E_slsC (enc := cI) [o.last, o.young, o.step, o.count] 4 rfl rfl ?_
      exact E_same (by repeat (first | exact Same.refl | (refine Same.cons (by repeat (first | exact Find.here | apply Find.there)) ?_) | (refine Same.drop ?_))) (hq _ ⟨rfl⟩)
    · have e : numsF f o = [o.n] := by unfold numsF; rw [if_neg g1, if_neg g2, if_neg g3]
      rw [e] at hq
      (repeat (first | refine goS ?_ | refine E_box fun _ => ?_ | refine E_fa fun _ => ?_ | refine E_ptfad0 fun _ _ => ?_ | refine E_ptfad fun _ _ => ?_ | refine E_rsix (by assumption) fun _ _ => ?_ | refine E_ifT (by first | assumption | decide) ?_ | refine E_ifF (by first | assumption | decide) ?_ | refine E_gdT (by first | assumption | decide) ?_ | refine E_gdF (by first | assumption | decide) ?_ | refine E_gdnT (by first | assumption | decide) ?_ | refine E_gdnF (by first | assumption | decide) ?_ | refine E_pickT (by first | assumption | decide) ?_ | refine E_pickF (by first | assumption | decide) ?_ | refine E_ixN (by omega) ?_ | refine E_ld' (by assumption) ?_ | refine E_addI (by omega) (by omega) ?_ | refine E_subI (by omega) (by omega) ?_ | refine E_mulI (by omega) (by omega) ?_))
      refine E_slsC (enc := cI) [o.n] 1 rfl rfl ?_
      exact E_same (by repeat (first | exact Same.refl | (refine Same.cons (by repeat (first | exact Find.here | apply Find.there)) ?_) | (refine Same.drop ?_))) (hq _ ⟨rfl⟩)
  intro nv hcn
  refine E_fa fun _ => ?_
  refine E_loop (σ := Nat × List (List UInt8)) (fun z => z.1 ≤ f.length ∧ argL o = z.2 ++ pieces (f.drop z.1) ((numsF f o).drop ((f.take z.1).count 110)) o)
    (fun z => [ptr b1, str (verbL.getD k [] ++ z.2.flatMap (32 :: ·)), str f, nv, I ((f.take z.1).count 110), I z.1]) (fun _ => sls cI 3 1 nv (numsF f o) :: cel true b1 30 (opC o v u) :: H) (fun z => f.length - z.1) (0, []) (fun _ => rfl) (by simp) ⟨by omega, by simp [hpa]⟩ (fun W hW => hW) ?_
  rintro ⟨j, ws⟩ K0 ⟨hj, hws⟩ hk0
  simp only at hj hws
  have hlout : (verbL.getD k [] ++ ws.flatMap (32 :: ·)).length + ((pieces (f.drop j) ((numsF f o).drop ((f.take j).count 110)) o).flatMap (32 :: ·)).length ≤ 40000 := by
    rw [hline, hws, List.flatMap_append] at hll
    simp only [List.length_append] at hll ⊢; omega
  refine E_fa fun _ => ?_
  refine E_lenstr ?_
  refine E_lss ?_
  refine E_if (fun hc => ?_) (fun hc => ?_)
  rotate_left
  · have ej : j = f.length := by omega
    subst ej
    rw [List.drop_length] at hws
    have ewl : verbL.getD k [] ++ ws.flatMap (32 :: ·) = lineT o := by
      rw [hline, hws]; simp [pieces]
    rw [ewl]
    refine rparse (by omega) (fun p hp v3 u3 _ _ => ?_) fun hn => ?_
    · rw [parse_same] at hp
      (repeat (first | refine goS ?_ | refine E_box fun _ => ?_ | refine E_fa fun _ => ?_ | refine E_ptfad0 fun _ _ => ?_ | refine E_ptfad fun _ _ => ?_ | refine E_rsix (by assumption) fun _ _ => ?_ | refine E_ifT (by first | assumption | decide) ?_ | refine E_ifF (by first | assumption | decide) ?_ | refine E_gdT (by first | assumption | decide) ?_ | refine E_gdF (by first | assumption | decide) ?_ | refine E_gdnT (by first | assumption | decide) ?_ | refine E_gdnF (by first | assumption | decide) ?_ | refine E_pickT (by first | assumption | decide) ?_ | refine E_pickF (by first | assumption | decide) ?_ | refine E_ixN (by omega) ?_ | refine E_ld' (by assumption) ?_ | refine E_addI (by omega) (by omega) ?_ | refine E_subI (by omega) (by omega) ?_ | refine E_mulI (by omega) (by omega) ?_))
      refine E_stW rfl rfl ?_
      refine E_join1 [str (lineT o), .bool (decide (p ≠ o))] H (fun q hq => ?_) ?_
      · (repeat (first | refine goS ?_ | refine E_box fun _ => ?_ | refine E_fa fun _ => ?_ | refine E_ptfad0 fun _ _ => ?_ | refine E_ptfad fun _ _ => ?_ | refine E_rsix (by assumption) fun _ _ => ?_ | refine E_ifT (by first | assumption | decide) ?_ | refine E_ifF (by first | assumption | decide) ?_ | refine E_gdT (by first | assumption | decide) ?_ | refine E_gdF (by first | assumption | decide) ?_ | refine E_gdnT (by first | assumption | decide) ?_ | refine E_gdnF (by first | assumption | decide) ?_ | refine E_pickT (by first | assumption | decide) ?_ | refine E_pickF (by first | assumption | decide) ?_ | refine E_ixN (by omega) ?_ | refine E_ld' (by assumption) ?_ | refine E_addI (by omega) (by omega) ?_ | refine E_subI (by omega) (by omega) ?_ | refine E_mulI (by omega) (by omega) ?_))
        refine rsame (o := p) (p := o) (v1 := v3) (u1 := u3) (v2 := v) (u2 := u) (by have := (parse_fit hp).keep; omega) ?_
        (repeat (first | refine goS ?_ | refine E_box fun _ => ?_ | refine E_fa fun _ => ?_ | refine E_ptfad0 fun _ _ => ?_ | refine E_ptfad fun _ _ => ?_ | refine E_rsix (by assumption) fun _ _ => ?_ | refine E_ifT (by first | assumption | decide) ?_ | refine E_ifF (by first | assumption | decide) ?_ | refine E_gdT (by first | assumption | decide) ?_ | refine E_gdF (by first | assumption | decide) ?_ | refine E_gdnT (by first | assumption | decide) ?_ | refine E_gdnF (by first | assumption | decide) ?_ | refine E_pickT (by first | assumption | decide) ?_ | refine E_pickF (by first | assumption | decide) ?_ | refine E_ixN (by omega) ?_ | refine E_ld' (by assumption) ?_ | refine E_addI (by omega) (by omega) ?_ | refine E_subI (by omega) (by omega) ?_ | refine E_mulI (by omega) (by omega) ?_))
        exact E_same (by repeat (first | exact Same.refl | (refine Same.cons (by repeat (first | exact Find.here | apply Find.there)) ?_) | (refine Same.drop ?_))) hq
      refine E_fa fun _ => ?_
      refine E_if (fun hne => ?_) (fun he => ?_)
      · exact h2 (by unfold printP; rw [if_pos hd, if_neg (fun e => hne (by rw [hp] at e; exact Option.some.inj e))])
      · refine h1 _ (by unfold printP; rw [if_pos hd, if_pos (by rw [hp, Decidable.not_not.1 he])])
    · rw [parse_same] at hn
      (repeat (first | refine goS ?_ | refine E_box fun _ => ?_ | refine E_fa fun _ => ?_ | refine E_ptfad0 fun _ _ => ?_ | refine E_ptfad fun _ _ => ?_ | refine E_rsix (by assumption) fun _ _ => ?_ | refine E_ifT (by first | assumption | decide) ?_ | refine E_ifF (by first | assumption | decide) ?_ | refine E_gdT (by first | assumption | decide) ?_ | refine E_gdF (by first | assumption | decide) ?_ | refine E_gdnT (by first | assumption | decide) ?_ | refine E_gdnF (by first | assumption | decide) ?_ | refine E_pickT (by first | assumption | decide) ?_ | refine E_pickF (by first | assumption | decide) ?_ | refine E_ixN (by omega) ?_ | refine E_ld' (by assumption) ?_ | refine E_addI (by omega) (by omega) ?_ | refine E_subI (by omega) (by omega) ?_ | refine E_mulI (by omega) (by omega) ?_))
      refine E_stW rfl rfl ?_
      refine E_join0 ?_
      (repeat (first | refine goS ?_ | refine E_box fun _ => ?_ | refine E_fa fun _ => ?_ | refine E_ptfad0 fun _ _ => ?_ | refine E_ptfad fun _ _ => ?_ | refine E_rsix (by assumption) fun _ _ => ?_ | refine E_ifT (by first | assumption | decide) ?_ | refine E_ifF (by first | assumption | decide) ?_ | refine E_gdT (by first | assumption | decide) ?_ | refine E_gdF (by first | assumption | decide) ?_ | refine E_gdnT (by first | assumption | decide) ?_ | refine E_gdnF (by first | assumption | decide) ?_ | refine E_pickT (by first | assumption | decide) ?_ | refine E_pickF (by first | assumption | decide) ?_ | refine E_ixN (by omega) ?_ | refine E_ld' (by assumption) ?_ | refine E_addI (by omega) (by omega) ?_ | refine E_subI (by omega) (by omega) ?_ | refine E_mulI (by omega) (by omega) ?_))
      refine E_drops (by repeat (first | exact Same.refl | (refine Same.cons (by repeat (first | exact Find.here | apply Find.there)) ?_) | (refine Same.drop ?_))) (h2 (by unfold printP; rw [if_pos hd, if_neg (fun e => by rw [hn] at e; cases e)]))
  have hs : f[j]? = some f[j] := List.getElem?_eq_getElem (by omega)
  generalize f[j] = c at hs
  have hdr : f.drop j = c :: f.drop (j + 1) := by
    rw [List.drop_eq_getElem_cons (by omega : j < f.length)]
    congr 1
    rw [List.getElem?_eq_getElem (by omega)] at hs; exact Option.some.inj hs
  have hcnt : (f.take (j + 1)).count 110 = (f.take j).count 110 + [c].count 110 := by
    rw [List.take_add_one, hs, Option.toList_some, List.count_append]
  rw [hdr] at hws hlout
  have hcle : (f.take j).count 110 ≤ 4 := Nat.le_trans (List.count_le_length ..) (by rw [List.length_take]; omega)
  have hct : (f.take (j + 1)).count 110 ≤ f.count 110 := List.Sublist.count_le _ (List.take_sublist _ _)
  generalize hm : (f.take j).count 110 = m at hws hcnt hcle hlout hk0
  have c110 : ((c.toNat : Int) = 110) ↔ c = 110 := u8c (n := 110) (by decide)
  have c97 : ((c.toNat : Int) = 97) ↔ c = 97 := u8c (n := 97) (by decide)
  have c115 : ((c.toNat : Int) = 115) ↔ c = 115 := u8c (n := 115) (by decide)
  have c98 : ((c.toNat : Int) = 98) ↔ c = 98 := u8c (n := 98) (by decide)
  have c107 : ((c.toNat : Int) = 107) ↔ c = 107 := u8c (n := 107) (by decide)
  refine E_joinC (σ := Nat × List (List UInt8)) (fun z => z.1 = (f.take (j + 1)).count 110 ∧ argL o = z.2 ++ pieces (f.drop (j + 1)) ((numsF f o).drop z.1) o)
    (fun z => [ptr b1, str (verbL.getD k [] ++ z.2.flatMap (32 :: ·)), str f, nv, I z.1, I j]) (fun _ => sls cI 3 1 nv (numsF f o) :: cel true b1 30 (opC o v u) :: H) (fun q hq => ?_) ?_
  rotate_left
  · rintro ⟨m', ws'⟩ ⟨hm', hws'⟩
    simp only at hm' hws'
    refine E_fa fun _ => ?_
    refine E_addI (by omega) (by omega) ?_
    have hk' := hk0 (j + 1, ws') ⟨by simp only; omega, by simp only; rw [← hm']; exact hws'⟩ (by simp only; omega)
    simp only at hk'
    rw [← hm'] at hk'
    exact hk'
  have hadd : ∀ w : List UInt8, verbL.getD k [] ++ ws.flatMap (32 :: ·) ++ [32] ++ w = verbL.getD k [] ++ (ws ++ [w]).flatMap (32 :: ·) := fun w => by simp
  refine E_chrL hs ?_
  by_cases g1 : (c.toNat : Int) = 110
  · have hc1 := c110.1 g1
    subst hc1
    have e1 : [(110 : UInt8)].count 110 = 1 := rfl
    rw [e1] at hcnt
    have hml : m < (numsF f o).length := by omega
    have hnm : (numsF f o)[m]? = some (numsF f o)[m] := List.getElem?_eq_getElem hml
    have hpc : pieces (110 :: f.drop (j + 1)) ((numsF f o).drop m) o = numI (numsF f o)[m] :: pieces (f.drop (j + 1)) ((numsF f o).drop (m + 1)) o := by
      rw [List.drop_eq_getElem_cons hml]; rfl
    have hnl := hnf _ (List.getElem_mem hml)
    generalize (numsF f o)[m] = x at hnm hpc hnl
    rw [hpc] at hws hlout
    (repeat (first | refine goS ?_ | refine E_box fun _ => ?_ | refine E_fa fun _ => ?_ | refine E_ptfad0 fun _ _ => ?_ | refine E_ptfad fun _ _ => ?_ | refine E_rsix (by assumption) fun _ _ => ?_ | refine E_ifT (by first | assumption | decide) ?_ | refine E_ifF (by first | assumption | decide) ?_ | refine E_gdT (by first | assumption | decide) ?_ | refine E_gdF (by first | assumption | decide) ?_ | refine E_gdnT (by first | assumption | decide) ?_ | refine E_gdnF (by first | assumption | decide) ?_ | refine E_pickT (by first | assumption | decide) ?_ | refine E_pickF (by first | assumption | decide) ?_ | refine E_ixN (by omega) ?_ | refine E_ld' (by assumption) ?_ | refine E_addI (by omega) (by omega) ?_ | refine E_subI (by omega) (by omega) ?_ | refine E_mulI (by omega) (by omega) ?_))
    refine E_stradd (b := [32]) (by simp at hlout ⊢; omega) ?_
    refine E_rsix (v := nv) hnm fun _ _ => ?_
    refine E_ptld ?_
    refine rnum (by omega) ?_
    have := numI_len (n := x) (by omega)
    refine E_stradd (by simp at hlout ⊢; omega) ?_
    refine E_addI (by omega) (by omega) ?_
    rw [hadd]
    exact hq (m + 1, ws ++ [numI x]) ⟨by simp only; omega, by simp only; rw [hws]; simp⟩
  have n1 : c ≠ 110 := fun h => g1 (c110.2 h)
  have e0 : [c].count 110 = 0 := by simp [List.count_cons, n1]
  rw [e0, Nat.add_zero] at hcnt
  by_cases g2 : (c.toNat : Int) = 97
  · have hc1 := c97.1 g2
    have hpc : pieces (c :: f.drop (j + 1)) ((numsF f o).drop m) o = o.name :: pieces (f.drop (j + 1)) ((numsF f o).drop m) o := by rw [hc1]; rfl
    rw [hpc] at hws hlout
    (repeat (first | refine goS ?_ | refine E_box fun _ => ?_ | refine E_fa fun _ => ?_ | refine E_ptfad0 fun _ _ => ?_ | refine E_ptfad fun _ _ => ?_ | refine E_rsix (by assumption) fun _ _ => ?_ | refine E_ifT (by first | assumption | decide) ?_ | refine E_ifF (by first | assumption | decide) ?_ | refine E_gdT (by first | assumption | decide) ?_ | refine E_gdF (by first | assumption | decide) ?_ | refine E_gdnT (by first | assumption | decide) ?_ | refine E_gdnF (by first | assumption | decide) ?_ | refine E_pickT (by first | assumption | decide) ?_ | refine E_pickF (by first | assumption | decide) ?_ | refine E_ixN (by omega) ?_ | refine E_ld' (by assumption) ?_ | refine E_addI (by omega) (by omega) ?_ | refine E_subI (by omega) (by omega) ?_ | refine E_mulI (by omega) (by omega) ?_))
    refine E_stradd (b := [32]) (by simp at hlout ⊢; omega) ?_
    (repeat (first | refine goS ?_ | refine E_box fun _ => ?_ | refine E_fa fun _ => ?_ | refine E_ptfad0 fun _ _ => ?_ | refine E_ptfad fun _ _ => ?_ | refine E_rsix (by assumption) fun _ _ => ?_ | refine E_ifT (by first | assumption | decide) ?_ | refine E_ifF (by first | assumption | decide) ?_ | refine E_gdT (by first | assumption | decide) ?_ | refine E_gdF (by first | assumption | decide) ?_ | refine E_gdnT (by first | assumption | decide) ?_ | refine E_gdnF (by first | assumption | decide) ?_ | refine E_pickT (by first | assumption | decide) ?_ | refine E_pickF (by first | assumption | decide) ?_ | refine E_ixN (by omega) ?_ | refine E_ld' (by assumption) ?_ | refine E_addI (by omega) (by omega) ?_ | refine E_subI (by omega) (by omega) ?_ | refine E_mulI (by omega) (by omega) ?_))
    refine E_stradd (by simp at hlout ⊢; omega) ?_
    rw [hadd]
    exact hq (m, ws ++ [o.name]) ⟨by simp only; omega, by simp only; rw [hws]; simp⟩
  have n2 : c ≠ 97 := fun h => g2 (c97.2 h)
  by_cases g3 : (c.toNat : Int) = 115
  · have hc1 := c115.1 g3
    have hpc : pieces (c :: f.drop (j + 1)) ((numsF f o).drop m) o = o.shot :: pieces (f.drop (j + 1)) ((numsF f o).drop m) o := by rw [hc1]; rfl
    rw [hpc] at hws hlout
    (repeat (first | refine goS ?_ | refine E_box fun _ => ?_ | refine E_fa fun _ => ?_ | refine E_ptfad0 fun _ _ => ?_ | refine E_ptfad fun _ _ => ?_ | refine E_rsix (by assumption) fun _ _ => ?_ | refine E_ifT (by first | assumption | decide) ?_ | refine E_ifF (by first | assumption | decide) ?_ | refine E_gdT (by first | assumption | decide) ?_ | refine E_gdF (by first | assumption | decide) ?_ | refine E_gdnT (by first | assumption | decide) ?_ | refine E_gdnF (by first | assumption | decide) ?_ | refine E_pickT (by first | assumption | decide) ?_ | refine E_pickF (by first | assumption | decide) ?_ | refine E_ixN (by omega) ?_ | refine E_ld' (by assumption) ?_ | refine E_addI (by omega) (by omega) ?_ | refine E_subI (by omega) (by omega) ?_ | refine E_mulI (by omega) (by omega) ?_))
    refine E_stradd (b := [32]) (by simp at hlout ⊢; omega) ?_
    (repeat (first | refine goS ?_ | refine E_box fun _ => ?_ | refine E_fa fun _ => ?_ | refine E_ptfad0 fun _ _ => ?_ | refine E_ptfad fun _ _ => ?_ | refine E_rsix (by assumption) fun _ _ => ?_ | refine E_ifT (by first | assumption | decide) ?_ | refine E_ifF (by first | assumption | decide) ?_ | refine E_gdT (by first | assumption | decide) ?_ | refine E_gdF (by first | assumption | decide) ?_ | refine E_gdnT (by first | assumption | decide) ?_ | refine E_gdnF (by first | assumption | decide) ?_ | refine E_pickT (by first | assumption | decide) ?_ | refine E_pickF (by first | assumption | decide) ?_ | refine E_ixN (by omega) ?_ | refine E_ld' (by assumption) ?_ | refine E_addI (by omega) (by omega) ?_ | refine E_subI (by omega) (by omega) ?_ | refine E_mulI (by omega) (by omega) ?_))
    refine E_stradd (by simp at hlout ⊢; omega) ?_
    rw [hadd]
    exact hq (m, ws ++ [o.shot]) ⟨by simp only; omega, by simp only; rw [hws]; simp⟩
  have n3 : c ≠ 115 := fun h => g3 (c115.2 h)
  by_cases g4 : (c.toNat : Int) = 98
  · have hc1 := c98.1 g4
    have hpc : pieces (c :: f.drop (j + 1)) ((numsF f o).drop m) o = textT o.bytes :: pieces (f.drop (j + 1)) ((numsF f o).drop m) o := by rw [hc1]; rfl
    rw [hpc] at hws hlout
    (repeat (first | refine goS ?_ | refine E_box fun _ => ?_ | refine E_fa fun _ => ?_ | refine E_ptfad0 fun _ _ => ?_ | refine E_ptfad fun _ _ => ?_ | refine E_rsix (by assumption) fun _ _ => ?_ | refine E_ifT (by first | assumption | decide) ?_ | refine E_ifF (by first | assumption | decide) ?_ | refine E_gdT (by first | assumption | decide) ?_ | refine E_gdF (by first | assumption | decide) ?_ | refine E_gdnT (by first | assumption | decide) ?_ | refine E_gdnF (by first | assumption | decide) ?_ | refine E_pickT (by first | assumption | decide) ?_ | refine E_pickF (by first | assumption | decide) ?_ | refine E_ixN (by omega) ?_ | refine E_ld' (by assumption) ?_ | refine E_addI (by omega) (by omega) ?_ | refine E_subI (by omega) (by omega) ?_ | refine E_mulI (by omega) (by omega) ?_))
    refine E_stradd (b := [32]) (by simp at hlout ⊢; omega) ?_
    (repeat (first | refine goS ?_ | refine E_box fun _ => ?_ | refine E_fa fun _ => ?_ | refine E_ptfad0 fun _ _ => ?_ | refine E_ptfad fun _ _ => ?_ | refine E_rsix (by assumption) fun _ _ => ?_ | refine E_ifT (by first | assumption | decide) ?_ | refine E_ifF (by first | assumption | decide) ?_ | refine E_gdT (by first | assumption | decide) ?_ | refine E_gdF (by first | assumption | decide) ?_ | refine E_gdnT (by first | assumption | decide) ?_ | refine E_gdnF (by first | assumption | decide) ?_ | refine E_pickT (by first | assumption | decide) ?_ | refine E_pickF (by first | assumption | decide) ?_ | refine E_ixN (by omega) ?_ | refine E_ld' (by assumption) ?_ | refine E_addI (by omega) (by omega) ?_ | refine E_subI (by omega) (by omega) ?_ | refine E_mulI (by omega) (by omega) ?_))
    refine rtext (v := v) (by omega) ?_
    have := textT_len o.bytes
    refine E_stradd (by simp at hlout ⊢; omega) ?_
    rw [hadd]
    exact hq (m, ws ++ [textT o.bytes]) ⟨by simp only; omega, by simp only; rw [hws]; simp⟩
  have n4 : c ≠ 98 := fun h => g4 (c98.2 h)
  by_cases g5 : (c.toNat : Int) = 107
  rotate_left
  · have n5 : c ≠ 107 := fun h => g5 (c107.2 h)
    have hpc : pieces (c :: f.drop (j + 1)) ((numsF f o).drop m) o = pieces (f.drop (j + 1)) ((numsF f o).drop m) o := by
      show (if c = 110 then _ else _) = _
      rw [if_neg n1, if_neg n2, if_neg n3, if_neg n4, if_neg n5]
    rw [hpc] at hws hlout
    (repeat (first | refine goS ?_ | refine E_box fun _ => ?_ | refine E_fa fun _ => ?_ | refine E_ptfad0 fun _ _ => ?_ | refine E_ptfad fun _ _ => ?_ | refine E_rsix (by assumption) fun _ _ => ?_ | refine E_ifT (by first | assumption | decide) ?_ | refine E_ifF (by first | assumption | decide) ?_ | refine E_gdT (by first | assumption | decide) ?_ | refine E_gdF (by first | assumption | decide) ?_ | refine E_gdnT (by first | assumption | decide) ?_ | refine E_gdnF (by first | assumption | decide) ?_ | refine E_pickT (by first | assumption | decide) ?_ | refine E_pickF (by first | assumption | decide) ?_ | refine E_ixN (by omega) ?_ | refine E_ld' (by assumption) ?_ | refine E_addI (by omega) (by omega) ?_ | refine E_subI (by omega) (by omega) ?_ | refine E_mulI (by omega) (by omega) ?_))
    exact hq (m, ws) ⟨by simp only; omega, hws⟩
  have hc1 := c107.1 g5
  have hpc : pieces (c :: f.drop (j + 1)) ((numsF f o).drop m) o = keepT o.keep :: tornT o.torn :: numI o.at_ :: pieces (f.drop (j + 1)) ((numsF f o).drop m) o := by rw [hc1]; rfl
  rw [hpc] at hws hlout
  have hol : (verbL.getD k [] ++ ws.flatMap (32 :: ·)).length ≤ 40000 := by omega
  generalize hout : verbL.getD k [] ++ ws.flatMap (32 :: ·) = out at hadd hol
  (repeat (first | refine goS ?_ | refine E_box fun _ => ?_ | refine E_fa fun _ => ?_ | refine E_ptfad0 fun _ _ => ?_ | refine E_ptfad fun _ _ => ?_ | refine E_rsix (by assumption) fun _ _ => ?_ | refine E_ifT (by first | assumption | decide) ?_ | refine E_ifF (by first | assumption | decide) ?_ | refine E_gdT (by first | assumption | decide) ?_ | refine E_gdF (by first | assumption | decide) ?_ | refine E_gdnT (by first | assumption | decide) ?_ | refine E_gdnF (by first | assumption | decide) ?_ | refine E_pickT (by first | assumption | decide) ?_ | refine E_pickF (by first | assumption | decide) ?_ | refine E_ixN (by omega) ?_ | refine E_ld' (by assumption) ?_ | refine E_addI (by omega) (by omega) ?_ | refine E_subI (by omega) (by omega) ?_ | refine E_mulI (by omega) (by omega) ?_))
  refine E_stradd (b := [32, 107]) (by simp; omega) ?_
  refine E_loop (σ := Nat) (fun i => i ≤ o.keep.length) (fun i => [ptr b1, str (out ++ 32 :: keepT (o.keep.take i)), str f, nv, I m, I j, I i]) (fun _ => sls cI 3 1 nv (numsF f o) :: cel true b1 30 (opC o v u) :: H) (fun i => o.keep.length - i) 0 (fun _ => rfl) rfl (Nat.zero_le _) (fun W hW => hW) ?_
  intro i K1 hi hk1
  refine E_fa fun _ => ?_
  (repeat (first | refine goS ?_ | refine E_box fun _ => ?_ | refine E_fa fun _ => ?_ | refine E_ptfad0 fun _ _ => ?_ | refine E_ptfad fun _ _ => ?_ | refine E_rsix (by assumption) fun _ _ => ?_ | refine E_ifT (by first | assumption | decide) ?_ | refine E_ifF (by first | assumption | decide) ?_ | refine E_gdT (by first | assumption | decide) ?_ | refine E_gdF (by first | assumption | decide) ?_ | refine E_gdnT (by first | assumption | decide) ?_ | refine E_gdnF (by first | assumption | decide) ?_ | refine E_pickT (by first | assumption | decide) ?_ | refine E_pickF (by first | assumption | decide) ?_ | refine E_ixN (by omega) ?_ | refine E_ld' (by assumption) ?_ | refine E_addI (by omega) (by omega) ?_ | refine E_subI (by omega) (by omega) ?_ | refine E_mulI (by omega) (by omega) ?_))
  have hkl : (keepT (o.keep.take i)).length ≤ 3001 := by unfold keepT; simp; omega
  refine E_if (fun hci => ?_) (fun hci => ?_)
  · have hsi : o.keep[i]? = some o.keep[i] := List.getElem?_eq_getElem (by omega)
    generalize o.keep[i] = b at hsi
    have et : keepT (o.keep.take (i + 1)) = keepT (o.keep.take i) ++ [if b then 49 else 48] := by unfold keepT; rw [List.take_add_one, hsi]; simp
    have hk' := hk1 (i + 1) (by omega) (by omega)
    rw [et] at hk'
    refine E_join1 [ptr b1, str (out ++ 32 :: (keepT (o.keep.take i) ++ [if b then 49 else 48])), str f, nv, I m, I j, I i] (sls cI 3 1 nv (numsF f o) :: cel true b1 30 (opC o v u) :: H) (fun q5 hq5 => ?_) ?_
    · (repeat (first | refine goS ?_ | refine E_box fun _ => ?_ | refine E_fa fun _ => ?_ | refine E_ptfad0 fun _ _ => ?_ | refine E_ptfad fun _ _ => ?_ | refine E_rsix (by assumption) fun _ _ => ?_ | refine E_ifT (by first | assumption | decide) ?_ | refine E_ifF (by first | assumption | decide) ?_ | refine E_gdT (by first | assumption | decide) ?_ | refine E_gdF (by first | assumption | decide) ?_ | refine E_gdnT (by first | assumption | decide) ?_ | refine E_gdnF (by first | assumption | decide) ?_ | refine E_pickT (by first | assumption | decide) ?_ | refine E_pickF (by first | assumption | decide) ?_ | refine E_ixN (by omega) ?_ | refine E_ld' (by assumption) ?_ | refine E_addI (by omega) (by omega) ?_ | refine E_subI (by omega) (by omega) ?_ | refine E_mulI (by omega) (by omega) ?_))
      cases b with
      | true =>
        (repeat (first | refine goS ?_ | refine E_box fun _ => ?_ | refine E_fa fun _ => ?_ | refine E_ptfad0 fun _ _ => ?_ | refine E_ptfad fun _ _ => ?_ | refine E_rsix (by assumption) fun _ _ => ?_ | refine E_ifT (by first | assumption | decide) ?_ | refine E_ifF (by first | assumption | decide) ?_ | refine E_gdT (by first | assumption | decide) ?_ | refine E_gdF (by first | assumption | decide) ?_ | refine E_gdnT (by first | assumption | decide) ?_ | refine E_gdnF (by first | assumption | decide) ?_ | refine E_pickT (by first | assumption | decide) ?_ | refine E_pickF (by first | assumption | decide) ?_ | refine E_ixN (by omega) ?_ | refine E_ld' (by assumption) ?_ | refine E_addI (by omega) (by omega) ?_ | refine E_subI (by omega) (by omega) ?_ | refine E_mulI (by omega) (by omega) ?_))
        refine E_stradd (b := [49]) (by simp; omega) ?_
        rw [show out ++ 32 :: keepT (o.keep.take i) ++ [49] = out ++ 32 :: (keepT (o.keep.take i) ++ [if true then 49 else 48]) by simp]
        exact E_same (by repeat (first | exact Same.refl | (refine Same.cons (by repeat (first | exact Find.here | apply Find.there)) ?_) | (refine Same.drop ?_))) hq5
      | false =>
        (repeat (first | refine goS ?_ | refine E_box fun _ => ?_ | refine E_fa fun _ => ?_ | refine E_ptfad0 fun _ _ => ?_ | refine E_ptfad fun _ _ => ?_ | refine E_rsix (by assumption) fun _ _ => ?_ | refine E_ifT (by first | assumption | decide) ?_ | refine E_ifF (by first | assumption | decide) ?_ | refine E_gdT (by first | assumption | decide) ?_ | refine E_gdF (by first | assumption | decide) ?_ | refine E_gdnT (by first | assumption | decide) ?_ | refine E_gdnF (by first | assumption | decide) ?_ | refine E_pickT (by first | assumption | decide) ?_ | refine E_pickF (by first | assumption | decide) ?_ | refine E_ixN (by omega) ?_ | refine E_ld' (by assumption) ?_ | refine E_addI (by omega) (by omega) ?_ | refine E_subI (by omega) (by omega) ?_ | refine E_mulI (by omega) (by omega) ?_))
        refine E_stradd (b := [48]) (by simp; omega) ?_
        rw [show out ++ 32 :: keepT (o.keep.take i) ++ [48] = out ++ 32 :: (keepT (o.keep.take i) ++ [if false then 49 else 48]) by simp]
        exact E_same (by repeat (first | exact Same.refl | (refine Same.cons (by repeat (first | exact Find.here | apply Find.there)) ?_) | (refine Same.drop ?_))) hq5
    refine E_fa fun _ => ?_
    refine E_addI (by omega) (by omega) ?_
    exact hk'
  have ei : i = o.keep.length := by omega
  subst ei
  rw [List.take_length] at hkl ⊢
  have htl := tornT_len hfit.torn
  have hal := numI_len hfit.at_
  have hto := hfit.torn
  have hao := hfit.at_
  refine E_join1 [ptr b1, str (out ++ 32 :: keepT o.keep), str f, nv, I m, I j, str (tornT o.torn)] (sls cI 3 1 nv (numsF f o) :: cel true b1 30 (opC o v u) :: H) (fun q6 hq6 => ?_) ?_
  · (repeat (first | refine goS ?_ | refine E_box fun _ => ?_ | refine E_fa fun _ => ?_ | refine E_ptfad0 fun _ _ => ?_ | refine E_ptfad fun _ _ => ?_ | refine E_rsix (by assumption) fun _ _ => ?_ | refine E_ifT (by first | assumption | decide) ?_ | refine E_ifF (by first | assumption | decide) ?_ | refine E_gdT (by first | assumption | decide) ?_ | refine E_gdF (by first | assumption | decide) ?_ | refine E_gdnT (by first | assumption | decide) ?_ | refine E_gdnF (by first | assumption | decide) ?_ | refine E_pickT (by first | assumption | decide) ?_ | refine E_pickF (by first | assumption | decide) ?_ | refine E_ixN (by omega) ?_ | refine E_ld' (by assumption) ?_ | refine E_addI (by omega) (by omega) ?_ | refine E_subI (by omega) (by omega) ?_ | refine E_mulI (by omega) (by omega) ?_))
    by_cases ht : o.torn ≠ -1
    · have e : tornT o.torn = numI o.torn := by unfold tornT; rw [if_neg ht]
      rw [e] at hq6
      (repeat (first | refine goS ?_ | refine E_box fun _ => ?_ | refine E_fa fun _ => ?_ | refine E_ptfad0 fun _ _ => ?_ | refine E_ptfad fun _ _ => ?_ | refine E_rsix (by assumption) fun _ _ => ?_ | refine E_ifT (by first | assumption | decide) ?_ | refine E_ifF (by first | assumption | decide) ?_ | refine E_gdT (by first | assumption | decide) ?_ | refine E_gdF (by first | assumption | decide) ?_ | refine E_gdnT (by first | assumption | decide) ?_ | refine E_gdnF (by first | assumption | decide) ?_ | refine E_pickT (by first | assumption | decide) ?_ | refine E_pickF (by first | assumption | decide) ?_ | refine E_ixN (by omega) ?_ | refine E_ld' (by assumption) ?_ | refine E_addI (by omega) (by omega) ?_ | refine E_subI (by omega) (by omega) ?_ | refine E_mulI (by omega) (by omega) ?_))
      refine rnum hto ?_
      exact E_same (by repeat (first | exact Same.refl | (refine Same.cons (by repeat (first | exact Find.here | apply Find.there)) ?_) | (refine Same.drop ?_))) hq6
    · have e : tornT o.torn = [45] := by unfold tornT; rw [if_pos (Decidable.not_not.1 ht)]
      rw [e] at hq6
      (repeat (first | refine goS ?_ | refine E_box fun _ => ?_ | refine E_fa fun _ => ?_ | refine E_ptfad0 fun _ _ => ?_ | refine E_ptfad fun _ _ => ?_ | refine E_rsix (by assumption) fun _ _ => ?_ | refine E_ifT (by first | assumption | decide) ?_ | refine E_ifF (by first | assumption | decide) ?_ | refine E_gdT (by first | assumption | decide) ?_ | refine E_gdF (by first | assumption | decide) ?_ | refine E_gdnT (by first | assumption | decide) ?_ | refine E_gdnF (by first | assumption | decide) ?_ | refine E_pickT (by first | assumption | decide) ?_ | refine E_pickF (by first | assumption | decide) ?_ | refine E_ixN (by omega) ?_ | refine E_ld' (by assumption) ?_ | refine E_addI (by omega) (by omega) ?_ | refine E_subI (by omega) (by omega) ?_ | refine E_mulI (by omega) (by omega) ?_))
      exact E_same (by repeat (first | exact Same.refl | (refine Same.cons (by repeat (first | exact Find.here | apply Find.there)) ?_) | (refine Same.drop ?_))) hq6
  refine E_fa fun _ => ?_
  refine E_stradd (b := [32]) (by simp; omega) ?_
  refine E_stradd (by simp; omega) ?_
  refine E_stradd (b := [32]) (by simp; omega) ?_
  (repeat (first | refine goS ?_ | refine E_box fun _ => ?_ | refine E_fa fun _ => ?_ | refine E_ptfad0 fun _ _ => ?_ | refine E_ptfad fun _ _ => ?_ | refine E_rsix (by assumption) fun _ _ => ?_ | refine E_ifT (by first | assumption | decide) ?_ | refine E_ifF (by first | assumption | decide) ?_ | refine E_gdT (by first | assumption | decide) ?_ | refine E_gdF (by first | assumption | decide) ?_ | refine E_gdnT (by first | assumption | decide) ?_ | refine E_gdnF (by first | assumption | decide) ?_ | refine E_pickT (by first | assumption | decide) ?_ | refine E_pickF (by first | assumption | decide) ?_ | refine E_ixN (by omega) ?_ | refine E_ld' (by assumption) ?_ | refine E_addI (by omega) (by omega) ?_ | refine E_subI (by omega) (by omega) ?_ | refine E_mulI (by omega) (by omega) ?_))
  refine rnum hao ?_
  refine E_stradd (by simp; omega) ?_
  have hq' := hq (m, ws ++ [keepT o.keep, tornT o.torn, numI o.at_]) ⟨by simp only; omega, by simp only; rw [hws]; simp⟩
  simp only at hq'
  rw [List.flatMap_append, ← List.append_assoc, hout] at hq'
  rw [show out ++ 32 :: keepT o.keep ++ [32] ++ tornT o.torn ++ [32] ++ numI o.at_ = out ++ [keepT o.keep, tornT o.torn, numI o.at_].flatMap (32 :: ·) by simp]
  exact E_same (by repeat (first | exact Same.refl | (refine Same.cons (by repeat (first | exact Find.here | apply Find.there)) ?_) | (refine Same.drop ?_))) hq'
end Go.Proofs.YtogallbjmgoagaaDoor.Scr
