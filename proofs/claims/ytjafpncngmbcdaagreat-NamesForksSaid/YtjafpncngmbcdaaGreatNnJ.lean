/-
  Names: facts played on both books.
-/
import Derived.Test.YtjafpncngmbcdaaGreatNnI
set_option linter.unusedSimpArgs false
set_option linter.unusedVariables false
set_option linter.unusedSectionVars false
namespace Go.Proofs.YtjafpncngmbcdaaGreat.Nam
open Go Go.SL Go.Proofs Go.Proofs.YtjafpncngmbcdaaGreat.Sh
variable {B : World} {H : List Asrt} {K : Value → WT} {W : WT} {a b : Nat} {M : Bk} {f : Fa} {rv hv mv : Value}
abbrev FV := Fa × Cv × Cv × Cv
def faE (p : FV) : List Value := faL p.1 p.2.1.1 p.2.2.1.1 p.2.2.2.1
instance : Enc faE 14 := ⟨fun _ => rfl, fun p y hy => by
  simp [faE, faL] at hy
  rcases hy with rfl | rfl | rfl | rfl | rfl | rfl | rfl | rfl | rfl | rfl | rfl | rfl | rfl | rfl
  all_goals first | rfl | exact p.2.1.2 | exact p.2.2.1.2 | exact p.2.2.2.2⟩
instance {p : FV} : AtLen (faE p) 14 := ⟨rfl⟩
instance {p : FV} : AllC (faE p) := ⟨fun y hy => Enc.cell (enc := faE) p y hy⟩
instance {p : FV} : AtI (faE p) 0 (I p.1.k) := ⟨rfl⟩
instance {p : FV} : AtI (faE p) 4 (str p.1.name) := ⟨rfl⟩
instance {p : FV} : AtI (faE p) 5 (I p.1.gen) := ⟨rfl⟩
instance {p : FV} : AtI (faE p) 7 p.2.1.1 := ⟨rfl⟩
instance {p : FV} : AtI (faE p) 8 p.2.2.1.1 := ⟨rfl⟩
/-- A fact that is given. -/
structure FIn (B : World) (p : FV) : Prop where
  r : ∀ H, Rs B H p.2.1.1 rfC p.1.refs
  h : ∀ H, Rs B H p.2.2.1.1 hC p.1.held
  m : ∀ H, Rs B H p.2.2.2.1 mvC p.1.moves
  ok : FaOk p.1
  rb : p.1.refs.length * 56 ≤ 140737488355328
  hb : p.1.held.length * 24 ≤ 140737488355328
def bk0 : Bk := ⟨[], [], 0⟩
def runM (l : List Fa) : Bk := (l.take 100).foldl stepM bk0
theorem Inv.run {M : Bk} (h : Inv M) (l : List Fa) : Inv (l.foldl stepM M) := by
  induction l generalizing M with
  | nil => exact h
  | cons x l ih => exact ih (h.step x)
theorem inv_run (l : List Fa) : Inv (runM l) := inv0.run _
theorem E_xorA {x y : Int} (h : ∀ n : Int, E B H (K (I n))) : E B H (S.bin .xor (.int .i64 x) (.int .i64 y) K) := E_xor (h _)
/-- An element of a slice that was given: there it stays. -/
theorem E_bsix {α : Type} {enc : α → List Value} {sz : Nat} [hE : Enc enc sz] {v : Value} {l : List α} {i : Nat} {x : α} {k : IntKind} (hf : ∀ H', Rs B H' v enc l) (hx : l[i]? = some x)
    (h : ∀ p, (∀ H', PtA B H' p 0 (enc x)) → E B H (K p)) : E B H (S.ixS sz v (.int k (i : Int)) K) := fun w hw => by
  have hlt : i < l.length := (List.getElem?_eq_some_iff.1 hx).1
  have hle : i * sz + sz ≤ (l.flatMap enc).length := by rw [enc_length, ← Nat.succ_mul]; exact Nat.mul_le_mul_right _ hlt
  obtain ⟨r, hr⟩ := enc_at (enc := enc) hx
  rcases (hf H).pf hw with ⟨_, h1, _⟩ | ⟨a, cap, hv, hle2, _⟩
  · omega
  · subst hv
    refine ⟨by omega, by omega, ?_⟩
    have : ∀ H', PtA B H' (.pointer (some (a.add (((i : Nat) : Int).toNat * sz)))) 0 (enc x) := fun H' => by
      refine ⟨a.add (i * sz), by rw [Int.toNat_natCast, addAdd, Nat.add_zero], fun {w'} hw' j hj => ?_⟩
      rcases (hf H').pf hw' with ⟨h0, _, _⟩ | ⟨a', cap', hv', _, hc⟩
      · cases h0
      · cases hv'
        rw [hE.len] at hj
        rw [addAdd, hc (i * sz + j) (by omega)]
        have h2 : ((l.flatMap enc).drop (i * sz))[j]? = (enc x)[j]? := by rw [hr, List.getElem?_append_left (by rw [hE.len]; omega)]
        rw [← h2, List.getElem?_drop]
    exact h _ this w hw
attribute [local irreducible] S.pick S.ld S.ldN S.st S.box S.nc S.fad S.ixS S.ixA S.chr S.prt S.ext S.bin S.sh S.sbin S.beq S.neg1 S.com1 S.not1 S.cvt S.str1 S.lenS S.len S.cap S.lenM S.mx S.mn S.mkM S.cond S.gd S.fa S.dr S.rck S.join S.loop S.cvv S.eqv S.slc S.slcS S.b2s S.lk V U CF Gives E cel mpb osl ros dct dit itr lpo dfo
set_option maxRecDepth 8000
attribute [local irreducible] bk dbk
/-- A fact's refs, held made other. -/
theorem play {v0 : Value} {l : List FV} (hl : ∀ H, Rs B H v0 faE l) (hin : ∀ p ∈ l, FIn B p) (h : ∀ a b, E B (bk a (runM (l.map (·.1))) :: dbk b (runM (l.map (·.1))) :: H) (K (.tuple #[ptr a, ptr b, .bool true]))) : E B H (CF Tryz.prog 9 [v0] K) := by
  refine E_mono (W := s9 _ K) ?_ fun _ => c9
  unfold s9
  refine new fun a => ?_
  refine newD fun b => ?_
  refine E_peq u_pBook ?_
  refine E_ff ?_
  refine E_loop (n := 4) (σ := Nat) (fun i => i ≤ l.length ∧ i ≤ 100) (fun i => [v0, ptr a, ptr b, I i]) (fun i => bk a (((l.take i).map (·.1)).foldl stepM bk0) :: dbk b (((l.take i).map (·.1)).foldl stepM bk0) :: H) (fun i => l.length - i) 0 (fun _ => rfl) rfl ⟨Nat.zero_le _, Nat.zero_le _⟩ (fun W hW => by
    have hW2 : E B (bk a ⟨[], [], 0⟩ :: dbk b ⟨[], [], 0⟩ :: H) W := hW
    exact sm hW2) ?_
  rintro i K0 ⟨hi, hi1⟩ hk0
  have hw : Inv (((l.take i).map (·.1)).foldl stepM bk0) := inv0.run _
  refine E_fa fun _ => ?_
  refine E_join1 [v0, ptr a, ptr b, I i, .bool (decide ((i : Int) < l.length) && decide ((i : Int) < 100))] (bk a (((l.take i).map (·.1)).foldl stepM bk0) :: dbk b (((l.take i).map (·.1)).foldl stepM bk0) :: H) (fun q hq => ?_) ?_
  · refine E_rslen (hf := hl _) ?_
    (repeat first | refine gS ?_ | refine gY ?_ | refine gA fun _ => ?_ | refine gX fun _ _ => ?_ | refine gI ?_)
    exact sm hq
  refine E_fa fun _ => ?_
  refine E_ifb' (p := i < l.length ∧ i < 100) (by simp; omega) (fun hc => ?_) (fun hc => ?_)
  · have hx : l[i]? = some l[i] := List.getElem?_eq_getElem (by omega)
    have hfi := hin _ (List.mem_of_getElem? hx)
    generalize l[i] = p at hx hfi
    have hnx : ((l.take (i + 1)).map (·.1)).foldl stepM bk0 = stepM (((l.take i).map (·.1)).foldl stepM bk0) p.1 := by
      rw [List.take_add_one, hx, List.map_append, List.foldl_append]; rfl
    have hk1 := hk0 (i + 1) ⟨by omega, by omega⟩ (by omega)
    rw [hnx] at hk1
    generalize ((l.take i).map (·.1)).foldl stepM bk0 = M at hw hk1 ⊢
    obtain ⟨f, rv, hv, mv⟩ := p
    have ir : ∀ H, Rs B H rv.1 rfC f.refs := hfi.r
    have ih : ∀ H, Rs B H hv.1 hC f.held := hfi.h
    have im : ∀ H, Rs B H mv.1 mvC f.moves := hfi.m
    have ho : FaOk f := hfi.ok
    have hrb : f.refs.length * 56 ≤ 140737488355328 := hfi.rb
    have hhb : f.held.length * 24 ≤ 140737488355328 := hfi.hb
    refine E_bsix hl hx fun _ _ => ?_
    refine E_ptldA ?_
    refine E_box fun b8 => ?_
    refine E_stW (vs := [I f.k, I f.bin, I f.at_, I f.n, str f.name, I f.gen, I f.time, rv.1, hv.1, mv.1, I f.last, I f.young, I f.step, I f.count]) rfl rfl ?_
    refine E_bsl0 u_refs elt_ref fun b0 => ?_
    refine E_slsC (enc := rfC) [] 0 rfl rfl ?_
    refine E_bsix hl hx fun _ _ => ?_
    refine E_ptfad0 fun _ _ => ?_
    refine E_ptld (u := rv.1) ?_
    refine E_sapps (enc := rfC) (l := []) (m := f.refs) u_refs elt_ref (by simpa using hrb) (by simp; omega) fun r2 _ => ?_
    rw [List.nil_append]
    (repeat first | refine gS ?_ | refine gA fun _ => ?_ | refine gX fun _ _ => ?_ | refine gT ?_ | refine gF ?_ | refine gI ?_)
    refine E_bsl0 u_helds elt_held fun b1 => ?_
    refine E_slsC (enc := hC) [] 0 rfl rfl ?_
    refine E_bsix hl hx fun _ _ => ?_
    refine E_ptfad0 fun _ _ => ?_
    refine E_ptld (u := hv.1) ?_
    refine E_sapps (enc := hC) (l := []) (m := f.held) u_helds elt_held (by simpa using hhb) (by simp; omega) fun h2 _ => ?_
    rw [List.nil_append]
    (repeat first | refine gS ?_ | refine gA fun _ => ?_ | refine gX fun _ _ => ?_ | refine gT ?_ | refine gF ?_ | refine gI ?_)
    refine sm (G := bk a M :: dbk b M :: cel true b8 60 [I f.k, I f.bin, I f.at_, I f.n, str f.name, I f.gen, I f.time, r2, h2, mv.1, I f.last, I f.young, I f.step, I f.count] :: sls rfC 38 35 r2 f.refs :: sls hC 53 2 h2 f.held :: H) ?_
    show E B (bk a M :: dbk b M :: cel true b8 60 (faL f r2 h2 mv.1) :: sls rfC 38 35 r2 f.refs :: sls hC 53 2 h2 f.held :: H) _
    refine E_join1 [v0, ptr a, ptr b, I i, ptr b8, .bool false] (bk a (stepM M f) :: dbk b (stepM M f) :: cel true b8 60 (faL f r2 h2 mv.1) :: sls rfC 38 35 r2 f.refs :: sls hC 53 2 h2 f.held :: H) (fun q hq => ?_) ?_
    · refine E_dr ?_
      refine E_ldNA ?_
      refine E_bsix hl hx fun _ _ => ?_
      refine E_ptldA ?_
      refine check (f := f) ho hw ?_
      refine E_rck1 (E_ptldA (E_fact rfl)) (E_rck0 ?_)
      refine fd (a := dbk b M) (E_dbk fun fv sv L LS Pf Lv Lr Ps Lh hd => ?_)
      show E B _ (CF Tryz.prog 39 [ptr b, .agg (faL f rv.1 hv.1 mv.1).toArray] _)
      refine checkD (f := f) ho hd hw ?_
      refine E_dbkS hd rfl ?_
      refine E_neq ?_
      rw [decide_eq_false (by simp : ¬ checkB M f ≠ checkB M f)]
      refine E_gft ?_
      refine E_gft ?_
      refine E_ldNA ?_
      refine E_gft ?_
      refine E_gft ?_
      refine E_gft ?_
      refine E_gft ?_
      refine E_bsix hl hx fun _ _ => ?_
      refine E_gft ?_
      refine E_ptldA ?_
      refine E_gft ?_
      refine fd (a := bk a M) ?_
      refine apply (f := f) (hr3 := fun G => im _) ho hw ?_
      refine E_rck1 (E_gft (E_ptldA (E_fact rfl))) (E_rck0 ?_)
      refine E_gft ?_
      refine fd (a := dbk b M) ?_
      show E B _ (CF Tryz.prog 34 [ptr b, .agg (faL f rv.1 hv.1 mv.1).toArray] _)
      refine applyD (f := f) (hr3 := fun G => im _) ho hw ?_
      refine E_gft ?_
      refine E_neq ?_
      rw [decide_eq_false (by simp : ¬ checkB M f ≠ checkB M f)]
      (repeat first | refine gS ?_ | refine gA fun _ => ?_ | refine gX fun _ _ => ?_ | refine gT ?_ | refine gF ?_ | refine gI ?_)
      exact sm hq
    refine E_fa fun _ => ?_
    refine E_ff ?_
    refine E_loop (n := 6) (σ := Nat × List Rf) (fun s => s.1 ≤ f.refs.length ∧ s.2.length = f.refs.length) (fun s => [v0, ptr a, ptr b, I i, ptr b8, I s.1]) (fun s => bk a (stepM M f) :: dbk b (stepM M f) :: cel true b8 60 (faL f r2 h2 mv.1) :: sls rfC 38 35 r2 s.2 :: sls hC 53 2 h2 f.held :: H) (fun s => f.refs.length - s.1) (0, f.refs) (fun _ => rfl) rfl ⟨Nat.zero_le _, rfl⟩ (fun W hW => sm hW) ?_
    rintro ⟨j, rs⟩ K1 ⟨hj, hrl⟩ hk2
    simp only at hj hrl hk2 ⊢
    refine E_fa fun _ => ?_
    (repeat first | refine gS ?_ | refine gA fun _ => ?_)
    refine E_if (fun hc2 => ?_) (fun hc2 => ?_)
    · have hy : rs[j]? = some rs[j] := List.getElem?_eq_getElem (by omega)
      generalize rs[j] = x at hy
      (repeat first | refine gS ?_ | refine gA fun _ => ?_)
      refine E_rsix (v := r2) (l := rs) hy fun _ _ => ?_
      refine E_ptfad0 fun _ _ => ?_
      refine E_ptld (u := I x.bin) ?_
      refine E_xorA fun n => ?_
      refine fd (a := sls rfC 38 35 r2 rs) ?_
      refine E_sfld { x with bin := n } hy (by decide) (rfC_bin x n) ?_
      refine E_addI (by omega) (by omega) ?_
      exact sm (hk2 (j + 1, rs.set j { x with bin := n }) ⟨by simp only; omega, by simp [hrl]⟩ (by simp only; omega))
    · clear hk2 hc2
      refine E_loop (n := 6) (σ := Nat × List (List UInt8 × Int)) (fun s => s.1 ≤ f.held.length ∧ s.2.length = f.held.length) (fun s => [v0, ptr a, ptr b, I i, ptr b8, I s.1]) (fun s => bk a (stepM M f) :: dbk b (stepM M f) :: cel true b8 60 (faL f r2 h2 mv.1) :: sls hC 53 2 h2 s.2 :: H) (fun s => f.held.length - s.1) (0, f.held) (fun _ => rfl) rfl ⟨Nat.zero_le _, rfl⟩ (fun W hW => sm hW) ?_
      rintro ⟨j, hs⟩ K2 ⟨hj, hrl⟩ hk2
      simp only at hj hrl hk2 ⊢
      refine E_fa fun _ => ?_
      (repeat first | refine gS ?_ | refine gA fun _ => ?_)
      refine E_if (fun hc2 => ?_) (fun hc2 => ?_)
      · have hy : hs[j]? = some hs[j] := List.getElem?_eq_getElem (by omega)
        generalize hs[j] = x at hy
        (repeat first | refine gS ?_ | refine gA fun _ => ?_)
        refine E_rsix (v := h2) (l := hs) hy fun _ _ => ?_
        refine E_ptfad0 fun _ _ => ?_
        refine E_ptld (u := I x.2) ?_
        refine E_xorA fun n => ?_
        refine fd (a := sls hC 53 2 h2 hs) ?_
        refine E_sfld (x.1, n) hy (by decide) rfl ?_
        refine E_addI (by omega) (by omega) ?_
        exact sm (hk2 (j + 1, hs.set j (x.1, n)) ⟨by simp only; omega, by simp [hrl]⟩ (by simp only; omega))
      · refine E_addI (by omega) (by omega) ?_
        exact sm hk1
  · have hrun : runM (l.map (·.1)) = ((l.take i).map (·.1)).foldl stepM bk0 := by
      unfold runM
      rw [← List.map_take]
      have : l.take 100 = l.take i := by
        by_cases h1 : i = 100
        · rw [h1]
        · have h2 : i = l.length := by omega
          rw [h2, List.take_length, List.take_of_length_le (by omega)]
      rw [this]
    rw [hrun] at h
    refine alike hw ?_
    exact h a b
end Go.Proofs.YtjafpncngmbcdaaGreat.Nam
