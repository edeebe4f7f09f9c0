/-
  Script: the reference's Parse.
-/
import Derived.Test.YtogallbjmgoagaaDoorScrL
set_option linter.unusedSimpArgs false
set_option linter.unusedVariables false
set_option linter.unusedSectionVars false
namespace Go.Proofs.YtogallbjmgoagaaDoor.Scr
open Go Go.SL Go.Proofs Go.Proofs.YtogallbjmgoagaaDoor.Sh
variable {B : World} {H : List Asrt} {K : Value → WT} {W : WT}
theorem u_ints : Tryd.prog.underlying 55 = some (.slice 3) := by kernel_rfl
theorem elt_int : Elt Tryd.prog 3 1 8 [I 0] := elt_of (zv := I 0) (by kernel_rfl) rfl rfl
theorem verbW_iff {k : Nat} {u w : List UInt8} (hu : verbL[k]? = some u) : u = w ↔ verbW w = k + 1 := by
  have hk : k < 21 := (List.getElem?_eq_some_iff.1 hu).1
  have hall : ∀ k : Fin 21, verbW (verbL.getD k.val []) = k.val + 1 := by decide
  have hg : verbL.getD k [] = u := by rw [List.getD_eq_getElem?_getD, hu]; rfl
  have h1 := hall ⟨k, hk⟩
  simp only [hg] at h1
  constructor
  · rintro rfl; exact h1
  · intro h
    have hm : w ∈ verbL := Decidable.byContradiction fun hn => by unfold verbW at h; rw [if_neg hn] at h; omega
    unfold verbW at h
    rw [if_pos hm] at h
    have h2 : verbL.idxOf w < verbL.length := List.idxOf_lt_length_iff.2 hm
    have h3 : verbL[verbL.idxOf w]? = some w := by rw [List.getElem?_eq_getElem h2, List.getElem_idxOf h2]
    rw [show verbL.idxOf w = k by omega, hu] at h3
    exact Option.some.inj h3
def nI (ns : List Nat) : List Int := ns.map fun (n : Nat) => (n : Int)
theorem stepR_cnt {c : UInt8} {r r' : RSt} (h : stepR c r = some r') : r'.n.length = r.n.length + [c].count 110 := by
  unfold stepR at h
  by_cases h1 : c = 107
  · subst h1
    rw [if_pos rfl] at h
    cases hx : crashR r.l with
    | none => rw [hx] at h; cases h
    | some x => rw [hx] at h; cases h; rfl
  rw [if_neg h1] at h
  by_cases h2 : c = 98
  · subst h2
    rw [if_pos rfl] at h
    cases hx : bytesW (joinB r.l) with
    | none => rw [hx] at h; cases h
    | some x => rw [hx] at h; cases h; rfl
  rw [if_neg h2] at h
  cases hl : r.l with
  | nil => rw [hl] at h; cases h
  | cons w l =>
    rw [hl] at h
    simp only at h
    by_cases h3 : c = 110
    · subst h3
      rw [if_pos rfl] at h
      cases hx : numW w with
      | none => rw [hx] at h; cases h
      | some x => rw [hx] at h; cases h; simp
    · rw [if_neg h3] at h
      have e : [c].count 110 = 0 := by simp [List.count_cons, h3]
      rw [e]
      split at h
      · split at h <;> (cases h; rfl)
      · cases h
theorem stepR_nil {c : UInt8} {ns : List Nat} {o : OpV} (h1 : c ≠ 107) (h2 : c ≠ 98) : stepR c ⟨[], ns, o⟩ = none := by
  unfold stepR; rw [if_neg h1, if_neg h2]
theorem stepR_cons {c : UInt8} {x : List UInt8} {l : List (List UInt8)} {ns : List Nat} {o : OpV} (h1 : c ≠ 107) (h2 : c ≠ 98) : stepR c ⟨x :: l, ns, o⟩ =
    (if c = 110 then (match numW x with | some n => some ⟨l, ns ++ [n], o⟩ | none => none)
     else if nameOk x then (if c = 97 then some ⟨l, ns, { o with name := x }⟩ else some ⟨l, ns, { o with shot := x }⟩) else none) := by
  unfold stepR; rw [if_neg h1, if_neg h2]; rfl
/-- What a step leaves. -/
inductive Jn where
  | ok (lv nv : Value) (l : List (List UInt8)) (ns : List Nat) (o : OpV) (bv kv : Value)
  | bad (lv nv bv kv : Value) (o : OpV)
attribute [local irreducible] S.pick S.ld S.ldN S.st S.box S.nc S.fad S.ixS S.ixA S.chr S.prt S.ext S.bin S.sh S.sbin S.beq S.neg1 S.com1 S.not1 S.cvt S.str1 S.lenS S.len S.cap S.lenM S.mx S.mn S.mkM S.cond S.gd S.fa S.dr S.rck S.join S.loop S.cvv S.eqv S.slc S.slcS S.b2s S.lk V U CF Gives E cel mpb osl ros dct dit itr lpo dfo
attribute [local irreducible] sls
set_option maxRecDepth 8000
theorem rverbs [Amb] (h : ∀ v [CellI v], E B (sls cS 9 1 v ([] :: verbL) :: H) (K v)) : E B H (CF Tryd.prog 18 [] K) := by
  refine E_mono (W := s18 K) ?_ fun _ => c18
  unfold s18
  refine E_bsl (l0 := List.replicate 22 (str [])) (l := ([] :: verbL).flatMap cS) ((List.range 22).map fun i => (i, 1)) u_strs elt_string (by simp) (by decide) rfl (hf := ⟨by kernel_rfl⟩) fun b2 => ?_
  exact E_slsC (enc := cS) ([] :: verbL) 22 rfl rfl (h _)
theorem rforms [Amb] (h : ∀ v [CellI v], E B (sls cS 9 1 v formsL :: H) (K v)) : E B H (CF Tryd.prog 19 [] K) := by
  refine E_mono (W := s19 K) ?_ fun _ => c19
  unfold s19
  refine E_bsl (l0 := List.replicate 22 (str [])) (l := formsL.flatMap cS) ((List.range 22).map fun i => (i, 1)) u_strs elt_string (by simp) (by decide) rfl (hf := ⟨by kernel_rfl⟩) fun b2 => ?_
  exact E_slsC (enc := cS) formsL 22 rfl rfl (h _)
theorem words_len (s : List UInt8) : (wordsL s).length ≤ s.length + 1 ∧ ∀ w ∈ wordsL s, w.length ≤ s.length := by
  have key : ∀ (k : Nat) (s : List UInt8), s.length ≤ k → (wordsL s).length ≤ s.length + 1 ∧ ∀ w ∈ wordsL s, w.length ≤ s.length := by
    intro k
    induction k with
    | zero =>
      intro s hs
      have : s = [] := List.length_eq_zero_iff.1 (by omega)
      subst this
      exact ⟨by simp [wordsL], by simp [wordsL]⟩
    | succ k ih =>
      intro s hs
      rw [words_cut]
      obtain ⟨c1, c2⟩ := cut_len s
      unfold wl
      cases h : (cutW s).2.2 with
      | false => exact ⟨by simp, by simp; exact c1⟩
      | true =>
        have hl := cut_lt s h
        obtain ⟨i1, i2⟩ := ih (cutW s).2.1 (by omega)
        simp only [if_true, List.length_cons]
        refine ⟨by omega, fun w hw => ?_⟩
        rcases List.mem_cons.1 hw with rfl | hw
        · exact c1
        · have := i2 w hw; omega
  exact key _ s (Nat.le_refl _)
theorem joinB_tail : ∀ (w : List UInt8) (l : List (List UInt8)), (joinB l).length ≤ (joinB (w :: l)).length
  | w, [] => by simp [joinB]
  | w, u :: l => by show _ ≤ (w ++ 32 :: joinB (u :: l)).length; simp; omega
/-- All that a step needs of the words that are left. -/
structure Lft (B : World) (W : List (List UInt8)) (wv lv : Value) (l : List (List UInt8)) (m : Nat) : Prop where
  rs : ∀ H' [Rs B H' wv cS W], Rs B H' lv cS l
  each : ∀ w ∈ l, w.length ≤ m
  len : l.length ≤ m + 1
  join : (joinB l).length ≤ m
  cell : CellI lv
theorem setN_bytes (f : List UInt8) (ns : List Nat) (o : OpV) : (setN f ns o).bytes = o.bytes ∧ (setN f ns o).keep = o.keep := by
  unfold setN
  repeat' (first | exact ⟨rfl, rfl⟩ | split)
theorem rset [Amb] {nv bv kv wv : Value} {b2 b5 : Nat} {ns : List Nat} {o : OpV} {f : List UInt8} {wl : List (List UInt8)} {kk : Kn 2} [CellI bv] [CellI kv] (hcnt : ns.length = f.count 110)
    (hq : E B (sls cI 3 1 nv (nI ns) :: sls cB 5 1 bv o.bytes :: sls cL 4 1 kv o.keep :: cel true b5 30 (opC (setN f ns o) bv kv) :: sls cS 9 1 wv wl :: cel true b2 30 zOp :: H) (app 2 kk [ptr b2, ptr b5])) :
    E B (sls cI 3 1 nv (nI ns) :: sls cB 5 1 bv o.bytes :: sls cL 4 1 kv o.keep :: cel true b5 30 (opC o bv kv) :: sls cS 9 1 wv wl :: cel true b2 30 zOp :: H) (
      S.join 2 (fun K4 =>
        S.join 5 (fun K5 =>
          S.sbin .eql (str f) (.string ⟨#[110]⟩) fun v114 =>
          S.cond v114 (
            K5 (ptr b2) (ptr b5) nv (str f) v114) (
            S.sbin .eql (str f) (.string ⟨#[110, 98]⟩) fun v115 =>
            K5 (ptr b2) (ptr b5) nv (str f) v115))
        <| fun v2'9 v5'5 v9'2 v112 v113 => S.fa fun _ =>
        S.cond v113 (
          S.ixS 1 v9'2 (I 0) fun v117 =>
          S.ld v117 fun v118 =>
          S.fad v5'5 1 fun v119 =>
          S.st 1 v119 v118 fun _ =>
          K4 v2'9 v5'5) (
          S.sbin .eql v112 (.string ⟨#[97, 110]⟩) fun v121 =>
          S.cond v121 (
            S.ixS 1 v9'2 (I 0) fun v123 =>
            S.ld v123 fun v124 =>
            S.fad v5'5 4 fun v125 =>
            S.st 1 v125 v124 fun _ =>
            K4 v2'9 v5'5) (
            S.sbin .eql v112 (.string ⟨#[97, 110, 110, 110]⟩) fun v127 =>
            S.cond v127 (
              S.ixS 1 v9'2 (I 0) fun v129 =>
              S.ld v129 fun v130 =>
              S.fad v5'5 4 fun v131 =>
              S.st 1 v131 v130 fun _ =>
              S.ixS 1 v9'2 (I 1) fun v133 =>
              S.ld v133 fun v134 =>
              S.fad v5'5 5 fun v135 =>
              S.st 1 v135 v134 fun _ =>
              S.ixS 1 v9'2 (I 2) fun v137 =>
              S.ld v137 fun v138 =>
              S.fad v5'5 6 fun v139 =>
              S.st 1 v139 v138 fun _ =>
              K4 v2'9 v5'5) (
              S.sbin .eql v112 (.string ⟨#[110, 110, 110, 110]⟩) fun v141 =>
              S.cond v141 (
                S.dr <|
                S.ixS 1 v9'2 (I 0) fun v143 =>
                S.ld v143 fun v144 =>
                S.ixS 1 v9'2 (I 1) fun v146 =>
                S.ld v146 fun v147 =>
                S.ixS 1 v9'2 (I 2) fun v149 =>
                S.ld v149 fun v150 =>
                S.ixS 1 v9'2 (I 3) fun v152 =>
                S.ld v152 fun v153 =>
                V Tryd.prog (Instr.build 25 #[(0, v144), (1, v147), (2, v150), (3, v153)]) fun v154 =>
                S.fad v5'5 8 fun v155 =>
                S.st 4 v155 v154 fun _ =>
                K4 v2'9 v5'5) (
                K4 v2'9 v5'5))))) kk) := by
  refine E_join0 ?_
  refine E_joinC (σ := Unit) (fun _ => True) (fun _ => [ptr b2, ptr b5, nv, str f, .bool (decide (f = [110] ∨ f = [110, 98]))]) (fun _ => sls cI 3 1 nv (nI ns) :: sls cB 5 1 bv o.bytes :: sls cL 4 1 kv o.keep :: cel true b5 30 (opC o bv kv) :: sls cS 9 1 wv wl :: cel true b2 30 zOp :: H) (fun q2 hq2 => ?_) ?_
  · have hq2 := hq2 () trivial
    refine E_streq (b := [110]) ?_
    by_cases g : f = [110]
    · rw [decide_eq_true (.inl g)] at hq2
      rw [decide_eq_true g]
      refine E_tt ?_
      exact hq2
    · rw [decide_eq_false g]
      refine E_ff ?_
      refine E_streq (b := [110, 98]) ?_
      have e : decide (f = [110] ∨ f = [110, 98]) = decide (f = [110, 98]) := by rw [decide_eq_decide]; exact ⟨fun h => h.resolve_left g, .inr⟩
      rw [e] at hq2
      exact hq2
  intro _ _
  refine E_fa fun _ => ?_
  refine E_if (fun hf1 => ?_) (fun hf1 => ?_)
  · have hs1 : setN f ns o = { o with n := ns.getD 0 0 } := by unfold setN; rw [if_pos hf1]
    have hc1 : f.count 110 = 1 := by rcases hf1 with h | h <;> (rw [h]; rfl)
    rw [hc1] at hcnt
    match ns, hcnt with
    | [a], _ =>
      rw [hs1] at hq
      refine E_rsix (v := nv) (i := 0) rfl fun _ _ => ?_
      (repeat (first | refine goS ?_ | refine E_box fun _ => ?_ | refine E_fa fun _ => ?_ | refine E_ptfad0 fun _ _ => ?_ | refine E_ptfad fun _ _ => ?_ | refine E_rsix (by assumption) fun _ _ => ?_ | refine E_ifT (by first | assumption | decide) ?_ | refine E_ifF (by first | assumption | decide) ?_ | refine E_gdT (by first | assumption | decide) ?_ | refine E_gdF (by first | assumption | decide) ?_ | refine E_gdnT (by first | assumption | decide) ?_ | refine E_gdnF (by first | assumption | decide) ?_ | refine E_pickT (by first | assumption | decide) ?_ | refine E_pickF (by first | assumption | decide) ?_ | refine E_ixN (by omega) ?_ | refine E_ld' (by assumption) ?_ | refine E_addI (by omega) (by omega) ?_ | refine E_subI (by omega) (by omega) ?_ | refine E_mulI (by omega) (by omega) ?_))
      exact E_same (by repeat (first | exact Same.refl | (refine Same.cons (by repeat (first | exact Find.here | apply Find.there)) ?_) | (refine Same.drop ?_))) hq
  refine E_streq (b := [97, 110]) ?_
  by_cases hf2 : f = [97, 110]
  · have hs1 : setN f ns o = { o with gen := ns.getD 0 0 } := by unfold setN; rw [if_neg hf1, if_pos hf2]
    have hc1 : f.count 110 = 1 := by rw [hf2]; rfl
    rw [hc1] at hcnt
    (repeat (first | refine goS ?_ | refine E_box fun _ => ?_ | refine E_fa fun _ => ?_ | refine E_ptfad0 fun _ _ => ?_ | refine E_ptfad fun _ _ => ?_ | refine E_rsix (by assumption) fun _ _ => ?_ | refine E_ifT (by first | assumption | decide) ?_ | refine E_ifF (by first | assumption | decide) ?_ | refine E_gdT (by first | assumption | decide) ?_ | refine E_gdF (by first | assumption | decide) ?_ | refine E_gdnT (by first | assumption | decide) ?_ | refine E_gdnF (by first | assumption | decide) ?_ | refine E_pickT (by first | assumption | decide) ?_ | refine E_pickF (by first | assumption | decide) ?_ | refine E_ixN (by omega) ?_ | refine E_ld' (by assumption) ?_ | refine E_addI (by omega) (by omega) ?_ | refine E_subI (by omega) (by omega) ?_ | refine E_mulI (by omega) (by omega) ?_))
    match ns, hcnt with
    | [a], _ =>
      rw [hs1] at hq
      refine E_rsix (v := nv) (i := 0) rfl fun _ _ => ?_
      (repeat (first | refine goS ?_ | refine E_box fun _ => ?_ | refine E_fa fun _ => ?_ | refine E_ptfad0 fun _ _ => ?_ | refine E_ptfad fun _ _ => ?_ | refine E_rsix (by assumption) fun _ _ => ?_ | refine E_ifT (by first | assumption | decide) ?_ | refine E_ifF (by first | assumption | decide) ?_ | refine E_gdT (by first | assumption | decide) ?_ | refine E_gdF (by first | assumption | decide) ?_ | refine E_gdnT (by first | assumption | decide) ?_ | refine E_gdnF (by first | assumption | decide) ?_ | refine E_pickT (by first | assumption | decide) ?_ | refine E_pickF (by first | assumption | decide) ?_ | refine E_ixN (by omega) ?_ | refine E_ld' (by assumption) ?_ | refine E_addI (by omega) (by omega) ?_ | refine E_subI (by omega) (by omega) ?_ | refine E_mulI (by omega) (by omega) ?_))
      exact E_same (by repeat (first | exact Same.refl | (refine Same.cons (by repeat (first | exact Find.here | apply Find.there)) ?_) | (refine Same.drop ?_))) hq
  (repeat (first | refine goS ?_ | refine E_box fun _ => ?_ | refine E_fa fun _ => ?_ | refine E_ptfad0 fun _ _ => ?_ | refine E_ptfad fun _ _ => ?_ | refine E_rsix (by assumption) fun _ _ => ?_ | refine E_ifT (by first | assumption | decide) ?_ | refine E_ifF (by first | assumption | decide) ?_ | refine E_gdT (by first | assumption | decide) ?_ | refine E_gdF (by first | assumption | decide) ?_ | refine E_gdnT (by first | assumption | decide) ?_ | refine E_gdnF (by first | assumption | decide) ?_ | refine E_pickT (by first | assumption | decide) ?_ | refine E_pickF (by first | assumption | decide) ?_ | refine E_ixN (by omega) ?_ | refine E_ld' (by assumption) ?_ | refine E_addI (by omega) (by omega) ?_ | refine E_subI (by omega) (by omega) ?_ | refine E_mulI (by omega) (by omega) ?_))
  by_cases hf3 : f = [97, 110, 110, 110]
  · have hs1 : setN f ns o = { o with gen := ns.getD 0 0, from_ := ns.getD 1 0, size := ns.getD 2 0 } := by unfold setN; rw [if_neg hf1, if_neg hf2, if_pos hf3]
    have hc1 : f.count 110 = 3 := by rw [hf3]; rfl
    rw [hc1] at hcnt
    (repeat (first | refine goS ?_ | refine E_box fun _ => ?_ | refine E_fa fun _ => ?_ | refine E_ptfad0 fun _ _ => ?_ | refine E_ptfad fun _ _ => ?_ | refine E_rsix (by assumption) fun _ _ => ?_ | refine E_ifT (by first | assumption | decide) ?_ | refine E_ifF (by first | assumption | decide) ?_ | refine E_gdT (by first | assumption | decide) ?_ | refine E_gdF (by first | assumption | decide) ?_ | refine E_gdnT (by first | assumption | decide) ?_ | refine E_gdnF (by first | assumption | decide) ?_ | refine E_pickT (by first | assumption | decide) ?_ | refine E_pickF (by first | assumption | decide) ?_ | refine E_ixN (by omega) ?_ | refine E_ld' (by assumption) ?_ | refine E_addI (by omega) (by omega) ?_ | refine E_subI (by omega) (by omega) ?_ | refine E_mulI (by omega) (by omega) ?_))
    match ns, hcnt with
    | [a, b, c], _ =>
      rw [hs1] at hq
      refine E_rsix (v := nv) (i := 0) rfl fun _ _ => ?_
      (repeat (first | refine goS ?_ | refine E_box fun _ => ?_ | refine E_fa fun _ => ?_ | refine E_ptfad0 fun _ _ => ?_ | refine E_ptfad fun _ _ => ?_ | refine E_rsix (by assumption) fun _ _ => ?_ | refine E_ifT (by first | assumption | decide) ?_ | refine E_ifF (by first | assumption | decide) ?_ | refine E_gdT (by first | assumption | decide) ?_ | refine E_gdF (by first | assumption | decide) ?_ | refine E_gdnT (by first | assumption | decide) ?_ | refine E_gdnF (by first | assumption | decide) ?_ | refine E_pickT (by first | assumption | decide) ?_ | refine E_pickF (by first | assumption | decide) ?_ | refine E_ixN (by omega) ?_ | refine E_ld' (by assumption) ?_ | refine E_addI (by omega) (by omega) ?_ | refine E_subI (by omega) (by omega) ?_ | refine E_mulI (by omega) (by omega) ?_))
      refine E_rsix (v := nv) (i := 1) rfl fun _ _ => ?_
      (repeat (first | refine goS ?_ | refine E_box fun _ => ?_ | refine E_fa fun _ => ?_ | refine E_ptfad0 fun _ _ => ?_ | refine E_ptfad fun _ _ => ?_ | refine E_rsix (by assumption) fun _ _ => ?_ | refine E_ifT (by first | assumption | decide) ?_ | refine E_ifF (by first | assumption | decide) ?_ | refine E_gdT (by first | assumption | decide) ?_ | refine E_gdF (by first | assumption | decide) ?_ | refine E_gdnT (by first | assumption | decide) ?_ | refine E_gdnF (by first | assumption | decide) ?_ | refine E_pickT (by first | assumption | decide) ?_ | refine E_pickF (by first | assumption | decide) ?_ | refine E_ixN (by omega) ?_ | refine E_ld' (by assumption) ?_ | refine E_addI (by omega) (by omega) ?_ | refine E_subI (by omega) (by omega) ?_ | refine E_mulI (by omega) (by omega) ?_))
      refine E_rsix (v := nv) (i := 2) rfl fun _ _ => ?_
      (repeat (first | refine goS ?_ | refine E_box fun _ => ?_ | refine E_fa fun _ => ?_ | refine E_ptfad0 fun _ _ => ?_ | refine E_ptfad fun _ _ => ?_ | refine E_rsix (by assumption) fun _ _ => ?_ | refine E_ifT (by first | assumption | decide) ?_ | refine E_ifF (by first | assumption | decide) ?_ | refine E_gdT (by first | assumption | decide) ?_ | refine E_gdF (by first | assumption | decide) ?_ | refine E_gdnT (by first | assumption | decide) ?_ | refine E_gdnF (by first | assumption | decide) ?_ | refine E_pickT (by first | assumption | decide) ?_ | refine E_pickF (by first | assumption | decide) ?_ | refine E_ixN (by omega) ?_ | refine E_ld' (by assumption) ?_ | refine E_addI (by omega) (by omega) ?_ | refine E_subI (by omega) (by omega) ?_ | refine E_mulI (by omega) (by omega) ?_))
      exact E_same (by repeat (first | exact Same.refl | (refine Same.cons (by repeat (first | exact Find.here | apply Find.there)) ?_) | (refine Same.drop ?_))) hq
  (repeat (first | refine goS ?_ | refine E_box fun _ => ?_ | refine E_fa fun _ => ?_ | refine E_ptfad0 fun _ _ => ?_ | refine E_ptfad fun _ _ => ?_ | refine E_rsix (by assumption) fun _ _ => ?_ | refine E_ifT (by first | assumption | decide) ?_ | refine E_ifF (by first | assumption | decide) ?_ | refine E_gdT (by first | assumption | decide) ?_ | refine E_gdF (by first | assumption | decide) ?_ | refine E_gdnT (by first | assumption | decide) ?_ | refine E_gdnF (by first | assumption | decide) ?_ | refine E_pickT (by first | assumption | decide) ?_ | refine E_pickF (by first | assumption | decide) ?_ | refine E_ixN (by omega) ?_ | refine E_ld' (by assumption) ?_ | refine E_addI (by omega) (by omega) ?_ | refine E_subI (by omega) (by omega) ?_ | refine E_mulI (by omega) (by omega) ?_))
  by_cases hf4 : f = [110, 110, 110, 110]
  · have hs1 : setN f ns o = { o with last := ns.getD 0 0, young := ns.getD 1 0, step := ns.getD 2 0, count := ns.getD 3 0 } := by unfold setN; rw [if_neg hf1, if_neg hf2, if_neg hf3, if_pos hf4]
    have hc1 : f.count 110 = 4 := by rw [hf4]; rfl
    rw [hc1] at hcnt
    (repeat (first | refine goS ?_ | refine E_box fun _ => ?_ | refine E_fa fun _ => ?_ | refine E_ptfad0 fun _ _ => ?_ | refine E_ptfad fun _ _ => ?_ | refine E_rsix (by assumption) fun _ _ => ?_ | refine E_ifT (by first | assumption | decide) ?_ | refine E_ifF (by first | assumption | decide) ?_ | refine E_gdT (by first | assumption | decide) ?_ | refine E_gdF (by first | assumption | decide) ?_ | refine E_gdnT (by first | assumption | decide) ?_ | refine E_gdnF (by first | assumption | decide) ?_ | refine E_pickT (by first | assumption | decide) ?_ | refine E_pickF (by first | assumption | decide) ?_ | refine E_ixN (by omega) ?_ | refine E_ld' (by assumption) ?_ | refine E_addI (by omega) (by omega) ?_ | refine E_subI (by omega) (by omega) ?_ | refine E_mulI (by omega) (by omega) ?_))
    match ns, hcnt with
    | [a, b, c, d], _ =>
      rw [hs1] at hq
      refine E_rsix (v := nv) (i := 0) rfl fun _ _ => ?_
      (repeat (first | refine goS ?_ | refine E_box fun _ => ?_ | refine E_fa fun _ => ?_ | refine E_ptfad0 fun _ _ => ?_ | refine E_ptfad fun _ _ => ?_ | refine E_rsix (by assumption) fun _ _ => ?_ | refine E_ifT (by first | assumption | decide) ?_ | refine E_ifF (by first | assumption | decide) ?_ | refine E_gdT (by first | assumption | decide) ?_ | refine E_gdF (by first | assumption | decide) ?_ | refine E_gdnT (by first | assumption | decide) ?_ | refine E_gdnF (by first | assumption | decide) ?_ | refine E_pickT (by first | assumption | decide) ?_ | refine E_pickF (by first | assumption | decide) ?_ | refine E_ixN (by omega) ?_ | refine E_ld' (by assumption) ?_ | refine E_addI (by omega) (by omega) ?_ | refine E_subI (by omega) (by omega) ?_ | refine E_mulI (by omega) (by omega) ?_))
      refine E_rsix (v := nv) (i := 1) rfl fun _ _ => ?_
      (repeat (first | refine goS ?_ | refine E_box fun _ => ?_ | refine E_fa fun _ => ?_ | refine E_ptfad0 fun _ _ => ?_ | refine E_ptfad fun _ _ => ?_ | refine E_rsix (by assumption) fun _ _ => ?_ | refine E_ifT (by first | assumption | decide) ?_ | refine E_ifF (by first | assumption | decide) ?_ | refine E_gdT (by first | assumption | decide) ?_ | refine E_gdF (by first | assumption | decide) ?_ | refine E_gdnT (by first | assumption | decide) ?_ | refine E_gdnF (by first | assumption | decide) ?_ | refine E_pickT (by first | assumption | decide) ?_ | refine E_pickF (by first | assumption | decide) ?_ | refine E_ixN (by omega) ?_ | refine E_ld' (by assumption) ?_ | refine E_addI (by omega) (by omega) ?_ | refine E_subI (by omega) (by omega) ?_ | refine E_mulI (by omega) (by omega) ?_))
      refine E_rsix (v := nv) (i := 2) rfl fun _ _ => ?_
      (repeat (first | refine goS ?_ | refine E_box fun _ => ?_ | refine E_fa fun _ => ?_ | refine E_ptfad0 fun _ _ => ?_ | refine E_ptfad fun _ _ => ?_ | refine E_rsix (by assumption) fun _ _ => ?_ | refine E_ifT (by first | assumption | decide) ?_ | refine E_ifF (by first | assumption | decide) ?_ | refine E_gdT (by first | assumption | decide) ?_ | refine E_gdF (by first | assumption | decide) ?_ | refine E_gdnT (by first | assumption | decide) ?_ | refine E_gdnF (by first | assumption | decide) ?_ | refine E_pickT (by first | assumption | decide) ?_ | refine E_pickF (by first | assumption | decide) ?_ | refine E_ixN (by omega) ?_ | refine E_ld' (by assumption) ?_ | refine E_addI (by omega) (by omega) ?_ | refine E_subI (by omega) (by omega) ?_ | refine E_mulI (by omega) (by omega) ?_))
      refine E_rsix (v := nv) (i := 3) rfl fun _ _ => ?_
      (repeat (first | refine goS ?_ | refine E_box fun _ => ?_ | refine E_fa fun _ => ?_ | refine E_ptfad0 fun _ _ => ?_ | refine E_ptfad fun _ _ => ?_ | refine E_rsix (by assumption) fun _ _ => ?_ | refine E_ifT (by first | assumption | decide) ?_ | refine E_ifF (by first | assumption | decide) ?_ | refine E_gdT (by first | assumption | decide) ?_ | refine E_gdF (by first | assumption | decide) ?_ | refine E_gdnT (by first | assumption | decide) ?_ | refine E_gdnF (by first | assumption | decide) ?_ | refine E_pickT (by first | assumption | decide) ?_ | refine E_pickF (by first | assumption | decide) ?_ | refine E_ixN (by omega) ?_ | refine E_ld' (by assumption) ?_ | refine E_addI (by omega) (by omega) ?_ | refine E_subI (by omega) (by omega) ?_ | refine E_mulI (by omega) (by omega) ?_))
      refine E_build (l := [I a, I b, I c, I d]) str_keep ?_
      (repeat (first | refine goS ?_ | refine E_box fun _ => ?_ | refine E_fa fun _ => ?_ | refine E_ptfad0 fun _ _ => ?_ | refine E_ptfad fun _ _ => ?_ | refine E_rsix (by assumption) fun _ _ => ?_ | refine E_ifT (by first | assumption | decide) ?_ | refine E_ifF (by first | assumption | decide) ?_ | refine E_gdT (by first | assumption | decide) ?_ | refine E_gdF (by first | assumption | decide) ?_ | refine E_gdnT (by first | assumption | decide) ?_ | refine E_gdnF (by first | assumption | decide) ?_ | refine E_pickT (by first | assumption | decide) ?_ | refine E_pickF (by first | assumption | decide) ?_ | refine E_ixN (by omega) ?_ | refine E_ld' (by assumption) ?_ | refine E_addI (by omega) (by omega) ?_ | refine E_subI (by omega) (by omega) ?_ | refine E_mulI (by omega) (by omega) ?_))
      exact E_same (by repeat (first | exact Same.refl | (refine Same.cons (by repeat (first | exact Find.here | apply Find.there)) ?_) | (refine Same.drop ?_))) hq
  · have hs1 : setN f ns o = o := by unfold setN; rw [if_neg hf1, if_neg hf2, if_neg hf3, if_neg hf4]
    rw [hs1] at hq
    (repeat (first | refine goS ?_ | refine E_box fun _ => ?_ | refine E_fa fun _ => ?_ | refine E_ptfad0 fun _ _ => ?_ | refine E_ptfad fun _ _ => ?_ | refine E_rsix (by assumption) fun _ _ => ?_ | refine E_ifT (by first | assumption | decide) ?_ | refine E_ifF (by first | assumption | decide) ?_ | refine E_gdT (by first | assumption | decide) ?_ | refine E_gdF (by first | assumption | decide) ?_ | refine E_gdnT (by first | assumption | decide) ?_ | refine E_gdnF (by first | assumption | decide) ?_ | refine E_pickT (by first | assumption | decide) ?_ | refine E_pickF (by first | assumption | decide) ?_ | refine E_ixN (by omega) ?_ | refine E_ld' (by assumption) ?_ | refine E_addI (by omega) (by omega) ?_ | refine E_subI (by omega) (by omega) ?_ | refine E_mulI (by omega) (by omega) ?_))
    exact hq
theorem rparse [Amb] {s : List UInt8} (hm : s.length ≤ 1000000)
    (h1 : ∀ o, parseR s = some o → ∀ v u [CellI v] [CellI u], E B (sls cB 5 1 v o.bytes :: sls cL 4 1 u o.keep :: H) (K (.tuple #[.agg (opC o v u).toArray, I 0]))) (h2 : parseR s = none → E B H (K (.tuple #[.agg zOp.toArray, I 4]))) :
    E B H (CF Tryd.prog 8 [str s] K) := by
  refine E_mono (W := s8 _ K) ?_ fun _ => c8
  unfold s8
  refine E_box (vs := zOp) fun b2 => ?_
  refine rwords hm fun wv _ => ?_
  refine E_build (l := zOp) str_op ?_
  refine E_box (vs := zOp) fun b5 => ?_
  refine E_stW rfl rfl ?_
  refine rverbs fun vv _ => ?_
  obtain ⟨wl1, wl2⟩ := words_len s
  have hjs := join_words s.length s (Nat.le_refl _)
  obtain ⟨w, l, hw⟩ : ∃ w l, wordsL s = w :: l := by
    cases h : wordsL s with
    | nil => exact absurd h (wordsL_ne s)
    | cons w l => exact ⟨w, l, rfl⟩
  have hpr : parseR s = if verbW w = 0 then none else match goR (formsL.getD (verbW w) []) ⟨l, [], { op0 with d := verbW w }⟩ with
    | some r => if r.l = [] then some (setN (formsL.getD (verbW w) []) r.n r.o) else none
    | none => none := by unfold parseR; rw [hw]; rfl
  rw [hw] at wl1 wl2 hjs
  rw [hw]
  have hvle := verbW_le w
  have fail : parseR s = none → ∀ (G : List Asrt), Same H G → E B G (K (.tuple #[.agg zOp.toArray, I 4])) := fun hn G hG => E_same hG (h2 hn)
  refine E_loop (σ := Nat × Int) (fun z => 1 ≤ z.1 ∧ z.1 ≤ 22 ∧ z.2 = if verbW w < z.1 then (verbW w : Int) else 0) (fun z => [ptr b2, wv, ptr b5, vv, I z.1])
    (fun z => sls cS 9 1 vv ([] :: verbL) :: cel true b5 30 (opC { op0 with d := z.2 } (.slice none 0 0) (.slice none 0 0)) :: sls cS 9 1 wv (w :: l) :: cel true b2 30 zOp :: H)
    (fun z => 22 - z.1) (1, 0) (fun _ => rfl) rfl ⟨by decide, by decide, by simp only; split <;> omega⟩ (fun W hW => E_same (by repeat (first | exact Same.refl | (refine Same.cons (by repeat (first | exact Find.here | apply Find.there)) ?_) | (refine Same.drop ?_))) hW) ?_
  rintro ⟨i, d⟩ K0 ⟨hi1, hi2, hd⟩ hk
  simp only at hi1 hi2 hd
  refine E_fa fun _ => ?_
  refine E_rslen (v := vv) ?_
  refine E_lss ?_
  have hvl : (([] :: verbL : List (List UInt8)).length : Int) = 22 := rfl
  rw [hvl]
  refine E_if (fun hc => ?_) (fun hc => ?_)
  · obtain ⟨k, rfl⟩ : ∃ k, i = k + 1 := ⟨i - 1, by omega⟩
    obtain ⟨u, hu⟩ := verbL_get (show k < 21 by omega)
    have hu2 : ([] :: verbL)[k + 1]? = some u := by simpa using hu
    have hiff := verbW_iff (w := w) hu
    have hk' := hk (k + 1 + 1, if verbW w < k + 1 + 1 then (verbW w : Int) else 0) ⟨by simp only; omega, by simp only; omega, rfl⟩ (by simp only; omega)
    simp only at hk'
    refine E_join1 [ptr b2, wv, ptr b5, vv, I ((k + 1 : Nat) : Int)] (sls cS 9 1 vv ([] :: verbL) :: cel true b5 30 (opC { op0 with d := if verbW w < k + 1 + 1 then (verbW w : Int) else 0 } (.slice none 0 0) (.slice none 0 0)) :: sls cS 9 1 wv (w :: l) :: cel true b2 30 zOp :: H) (fun q hq => ?_) ?_
    · refine E_dr ?_
      refine E_rsix (v := vv) hu2 fun _ _ => ?_
      refine E_ptld ?_
      refine E_rsix (v := wv) (i := 0) rfl fun _ _ => ?_
      refine E_ptld ?_
      refine E_streq ?_
      refine E_if (fun he => ?_) (fun he => ?_)
      · have hv := hiff.1 he
        rw [if_pos (by omega), hv] at hq
        (repeat (first | refine goS ?_ | refine E_box fun _ => ?_ | refine E_fa fun _ => ?_ | refine E_ptfad0 fun _ _ => ?_ | refine E_ptfad fun _ _ => ?_ | refine E_rsix (by assumption) fun _ _ => ?_ | refine E_ifT (by first | assumption | decide) ?_ | refine E_ifF (by first | assumption | decide) ?_ | refine E_gdT (by first | assumption | decide) ?_ | refine E_gdF (by first | assumption | decide) ?_ | refine E_gdnT (by first | assumption | decide) ?_ | refine E_gdnF (by first | assumption | decide) ?_ | refine E_pickT (by first | assumption | decide) ?_ | refine E_pickF (by first | assumption | decide) ?_ | refine E_ixN (by omega) ?_ | refine E_ld' (by assumption) ?_ | refine E_addI (by omega) (by omega) ?_ | refine E_subI (by omega) (by omega) ?_ | refine E_mulI (by omega) (by omega) ?_))
        exact E_same (by repeat (first | exact Same.refl | (refine Same.cons (by repeat (first | exact Find.here | apply Find.there)) ?_) | (refine Same.drop ?_))) hq
      · have hv : verbW w ≠ k + 1 := fun h => he (hiff.2 h)
        have e : (if verbW w < k + 1 + 1 then (verbW w : Int) else 0) = d := by
          rw [hd]
          by_cases h : verbW w < k + 1
          · rw [if_pos h, if_pos (by omega)]
          · rw [if_neg h, if_neg (by omega)]
        rw [e] at hq
        exact hq
    refine E_fa fun _ => ?_
    refine E_addI (by omega) (by omega) ?_
    exact hk'
  have hd' : d = verbW w := by rw [hd, if_pos (by omega)]
  clear hk hd
  subst hd'
  (repeat (first | refine goS ?_ | refine E_box fun _ => ?_ | refine E_fa fun _ => ?_ | refine E_ptfad0 fun _ _ => ?_ | refine E_ptfad fun _ _ => ?_ | refine E_rsix (by assumption) fun _ _ => ?_ | refine E_ifT (by first | assumption | decide) ?_ | refine E_ifF (by first | assumption | decide) ?_ | refine E_gdT (by first | assumption | decide) ?_ | refine E_gdF (by first | assumption | decide) ?_ | refine E_gdnT (by first | assumption | decide) ?_ | refine E_gdnF (by first | assumption | decide) ?_ | refine E_pickT (by first | assumption | decide) ?_ | refine E_pickF (by first | assumption | decide) ?_ | refine E_ixN (by omega) ?_ | refine E_ld' (by assumption) ?_ | refine E_addI (by omega) (by omega) ?_ | refine E_subI (by omega) (by omega) ?_ | refine E_mulI (by omega) (by omega) ?_))
  by_cases h0 : ((verbW w : Int) = 0)
  · (repeat (first | refine goS ?_ | refine E_box fun _ => ?_ | refine E_fa fun _ => ?_ | refine E_ptfad0 fun _ _ => ?_ | refine E_ptfad fun _ _ => ?_ | refine E_rsix (by assumption) fun _ _ => ?_ | refine E_ifT (by first | assumption | decide) ?_ | refine E_ifF (by first | assumption | decide) ?_ | refine E_gdT (by first | assumption | decide) ?_ | refine E_gdF (by first | assumption | decide) ?_ | refine E_gdnT (by first | assumption | decide) ?_ | refine E_gdnF (by first | assumption | decide) ?_ | refine E_pickT (by first | assumption | decide) ?_ | refine E_pickF (by first | assumption | decide) ?_ | refine E_ixN (by omega) ?_ | refine E_ld' (by assumption) ?_ | refine E_addI (by omega) (by omega) ?_ | refine E_subI (by omega) (by omega) ?_ | refine E_mulI (by omega) (by omega) ?_))
    refine E_build (l := zOp) str_op ?_
    refine E_stW rfl rfl ?_
    (repeat (first | refine goS ?_ | refine E_box fun _ => ?_ | refine E_fa fun _ => ?_ | refine E_ptfad0 fun _ _ => ?_ | refine E_ptfad fun _ _ => ?_ | refine E_rsix (by assumption) fun _ _ => ?_ | refine E_ifT (by first | assumption | decide) ?_ | refine E_ifF (by first | assumption | decide) ?_ | refine E_gdT (by first | assumption | decide) ?_ | refine E_gdF (by first | assumption | decide) ?_ | refine E_gdnT (by first | assumption | decide) ?_ | refine E_gdnF (by first | assumption | decide) ?_ | refine E_pickT (by first | assumption | decide) ?_ | refine E_pickF (by first | assumption | decide) ?_ | refine E_ixN (by omega) ?_ | refine E_ld' (by assumption) ?_ | refine E_addI (by omega) (by omega) ?_ | refine E_subI (by omega) (by omega) ?_ | refine E_mulI (by omega) (by omega) ?_))
    exact fail (by rw [hpr, if_pos (by omega)]) _ (by repeat (first | exact Same.refl | (refine Same.cons (by repeat (first | exact Find.here | apply Find.there)) ?_) | (refine Same.drop ?_)))
  have hv0 : verbW w ≠ 0 := by omega
  rw [if_neg hv0] at hpr
  (repeat (first | refine goS ?_ | refine E_box fun _ => ?_ | refine E_fa fun _ => ?_ | refine E_ptfad0 fun _ _ => ?_ | refine E_ptfad fun _ _ => ?_ | refine E_rsix (by assumption) fun _ _ => ?_ | refine E_ifT (by first | assumption | decide) ?_ | refine E_ifF (by first | assumption | decide) ?_ | refine E_gdT (by first | assumption | decide) ?_ | refine E_gdF (by first | assumption | decide) ?_ | refine E_gdnT (by first | assumption | decide) ?_ | refine E_gdnF (by first | assumption | decide) ?_ | refine E_pickT (by first | assumption | decide) ?_ | refine E_pickF (by first | assumption | decide) ?_ | refine E_ixN (by omega) ?_ | refine E_ld' (by assumption) ?_ | refine E_addI (by omega) (by omega) ?_ | refine E_subI (by omega) (by omega) ?_ | refine E_mulI (by omega) (by omega) ?_))
  refine rforms fun fv _ => ?_
  (repeat (refine E_rck1 (by first | exact E_ld (E_fact rfl) | exact E_ld' (by assumption) (E_fact rfl) | exact E_b2sR (E_fact rfl) | exact E_gdnF (by assumption) (E_ld (E_fact rfl)) | exact E_gdT (by assumption) (E_ld (E_fact rfl)) | exact E_gtf (E_ld (E_fact rfl)) | exact E_gft (E_ld (E_fact rfl)) | exact E_ldNA (E_fact rfl) | exact E_ptld (E_fact rfl) | exact E_gtf (E_ldNA (E_fact rfl))) ?_)); (first | (refine E_rck0 ?_) | skip)
  have hfl : formsL.length = 22 := rfl
  have hf : formsL[verbW w]? = some (formsL.getD (verbW w) []) := by
    rw [List.getD_eq_getElem?_getD, List.getElem?_eq_getElem (by omega)]; rfl
  have hfmem : formsL.getD (verbW w) [] ∈ formsL := List.mem_of_getElem? hf
  refine E_rsix (v := fv) hf fun _ _ => ?_
  refine E_ptld ?_
  generalize formsL.getD (verbW w) [] = f at hf hpr hfmem
  have hflen : f.length ≤ 4 := by
    have : ∀ f ∈ formsL, f.length ≤ 4 := by decide
    exact this f hfmem
  refine E_slcS2 (v := wv) (l := w :: l) (i := 1) (j := (w :: l).length) (by simp [S.bound]) (by simp [S.bound]) (by simp) (by omega) fun lv0 hlr _ => ?_
  have el : ((w :: l).drop 1).take ((w :: l).length - 1) = l := by simp
  rw [el] at hlr
  refine E_sbsl0 cI u_ints elt_int fun nv0 _ => ?_
  have hl0 : Lft B (w :: l) wv lv0 l s.length := ⟨hlr, fun x hx => wl2 x (List.mem_cons_of_mem _ hx), by simp at wl1; omega, by have := joinB_tail w l; rw [hjs] at this; exact this, inferInstance⟩
  refine sls_nil (T := 5) cB 1 ?_
  refine sls_nil (T := 4) cL 1 ?_
  refine E_loop (σ := Nat × (Value × Value × Value × Value) × RSt) (fun z => z.1 ≤ f.length ∧ Lft B (w :: l) wv z.2.1.1 z.2.2.l s.length ∧ CellI z.2.1.2.1 ∧ CellI z.2.1.2.2.1 ∧ CellI z.2.1.2.2.2 ∧
      goR (f.drop z.1) z.2.2 = goR f ⟨l, [], { op0 with d := (verbW w : Int) }⟩ ∧ z.2.2.n.length = (f.take z.1).count 110)
    (fun z => [ptr b2, z.2.1.1, ptr b5, str f, z.2.1.2.1, I z.1])
    (fun z => sls cI 3 1 z.2.1.2.1 (nI z.2.2.n) :: sls cB 5 1 z.2.1.2.2.1 z.2.2.o.bytes :: sls cL 4 1 z.2.1.2.2.2 z.2.2.o.keep :: cel true b5 30 (opC z.2.2.o z.2.1.2.2.1 z.2.1.2.2.2) :: sls cS 9 1 wv (w :: l) :: cel true b2 30 zOp :: H)
    (fun z => f.length - z.1) (0, (lv0, nv0, .slice none 0 0, .slice none 0 0), ⟨l, [], { op0 with d := (verbW w : Int) }⟩) (fun _ => rfl) rfl ⟨by omega, hl0, inferInstance, ⟨rfl⟩, ⟨rfl⟩, rfl, rfl⟩ (fun W hW => E_same (by repeat (first | exact Same.refl | (refine Same.cons (by repeat (first | exact Find.here | apply Find.there)) ?_) | (refine Same.drop ?_))) hW) ?_
  rintro ⟨j, ⟨lv, nv, bv, kv⟩, ⟨rl, ns, o⟩⟩ K0 ⟨hj, hL, hcn, hcb, hck, hgo, hcnt⟩ hk
  simp only at hj hL hcn hcb hck hgo hcnt
  obtain ⟨hrs, heach, hlen, hjoin, hcl⟩ := hL
  have hrs0 : ∀ (A1 A2 A3 A4 : Asrt) (R : List Asrt), Rs B (A1 :: A2 :: A3 :: A4 :: sls cS 9 1 wv (w :: l) :: R) lv cS rl := fun _ _ _ _ _ => hrs _
  have hnl4 : ns.length ≤ 4 := by
    have := List.count_le_length (a := (110 : UInt8)) (l := f.take j)
    rw [List.length_take] at this; omega
  refine E_fa fun _ => ?_
  refine E_lenstr ?_
  refine E_lss ?_
  refine E_if (fun hc => ?_) (fun hc => ?_)
  · have hs : f[j]? = some f[j] := List.getElem?_eq_getElem (by omega)
    generalize f[j] = c at hs
    have hdr : f.drop j = c :: f.drop (j + 1) := by
      rw [List.drop_eq_getElem_cons (by omega : j < f.length)]
      congr 1
      rw [List.getElem?_eq_getElem (by omega)] at hs; exact Option.some.inj hs
    have hgo' : (match stepR c ⟨rl, ns, o⟩ with | some r => goR (f.drop (j + 1)) r | none => none) = goR f ⟨l, [], { op0 with d := (verbW w : Int) }⟩ := by
      rw [← hgo, hdr]; rfl
    have bad : stepR c ⟨rl, ns, o⟩ = none → parseR s = none := fun hn => by
      rw [hn] at hgo'
      rw [hpr, ← hgo']
    have c107 : ((c.toNat : Int) = 107) ↔ c = 107 := u8c (n := 107) (by decide)
    have c98 : ((c.toNat : Int) = 98) ↔ c = 98 := u8c (n := 98) (by decide)
    have c110 : ((c.toNat : Int) = 110) ↔ c = 110 := u8c (n := 110) (by decide)
    have c97 : ((c.toNat : Int) = 97) ↔ c = 97 := u8c (n := 97) (by decide)
    refine E_joinC (σ := Jn) (fun z => match z with
        | .ok lv' nv' l' ns' o' bv' kv' => stepR c ⟨rl, ns, o⟩ = some ⟨l', ns', o'⟩ ∧ Lft B (w :: l) wv lv' l' s.length ∧ CellI nv' ∧ CellI bv' ∧ CellI kv'
        | .bad .. => stepR c ⟨rl, ns, o⟩ = none)
      (fun z => match z with
        | .ok lv' nv' l' ns' o' bv' kv' => [ptr b2, lv', ptr b5, str f, nv', I j, .bool true]
        | .bad lv' nv' bv' kv' o' => [ptr b2, lv', ptr b5, str f, nv', I j, .bool false])
      (fun z => match z with
        | .ok lv' nv' l' ns' o' bv' kv' => sls cI 3 1 nv' (nI ns') :: sls cB 5 1 bv' o'.bytes :: sls cL 4 1 kv' o'.keep :: cel true b5 30 (opC o' bv' kv') :: sls cS 9 1 wv (w :: l) :: cel true b2 30 zOp :: H
        | .bad lv' nv' bv' kv' o' => cel true b5 30 (opC o' bv' kv') :: cel true b2 30 zOp :: H) (fun q hq => ?_) ?_
    · have hok : ∀ lv' nv' l' ns' o' bv' kv', stepR c ⟨rl, ns, o⟩ = some ⟨l', ns', o'⟩ → Lft B (w :: l) wv lv' l' s.length → CellI nv' → CellI bv' → CellI kv' →
          E B (sls cI 3 1 nv' (nI ns') :: sls cB 5 1 bv' o'.bytes :: sls cL 4 1 kv' o'.keep :: cel true b5 30 (opC o' bv' kv') :: sls cS 9 1 wv (w :: l) :: cel true b2 30 zOp :: H) (app 7 q [ptr b2, lv', ptr b5, str f, nv', I j, .bool true]) :=
        fun lv' nv' l' ns' o' bv' kv' h1 h2 h3 h4 h5 => hq (.ok lv' nv' l' ns' o' bv' kv') ⟨h1, h2, h3, h4, h5⟩
      have hbad : ∀ lv' nv' bv' kv' o', stepR c ⟨rl, ns, o⟩ = none → E B (cel true b5 30 (opC o' bv' kv') :: cel true b2 30 zOp :: H) (app 7 q [ptr b2, lv', ptr b5, str f, nv', I j, .bool false]) :=
        fun lv' nv' bv' kv' o' h => hq (.bad lv' nv' bv' kv' o') h
      refine E_chrL hs ?_
      have lnil : Lft B (w :: l) wv (.slice none 0 0) [] s.length := ⟨fun _ _ => ⟨fun _ => .inl ⟨rfl, rfl, rfl⟩⟩, by simp, by simp, by simp [joinB], ⟨rfl⟩⟩
      by_cases g1 : (c.toNat : Int) = 107
      · have hc1 := c107.1 g1
        have est : stepR c ⟨rl, ns, o⟩ = (match crashR rl with | some x => some ⟨[], ns, { o with keep := x.1, torn := x.2.1, at_ := x.2.2 }⟩ | none => none) := by rw [hc1]; rfl
        (repeat (first | refine goS ?_ | refine E_box fun _ => ?_ | refine E_fa fun _ => ?_ | refine E_ptfad0 fun _ _ => ?_ | refine E_ptfad fun _ _ => ?_ | refine E_rsix (by assumption) fun _ _ => ?_ | refine E_ifT (by first | assumption | decide) ?_ | refine E_ifF (by first | assumption | decide) ?_ | refine E_gdT (by first | assumption | decide) ?_ | refine E_gdF (by first | assumption | decide) ?_ | refine E_gdnT (by first | assumption | decide) ?_ | refine E_gdnF (by first | assumption | decide) ?_ | refine E_pickT (by first | assumption | decide) ?_ | refine E_pickF (by first | assumption | decide) ?_ | refine E_ixN (by omega) ?_ | refine E_ld' (by assumption) ?_ | refine E_addI (by omega) (by omega) ?_ | refine E_subI (by omega) (by omega) ?_ | refine E_mulI (by omega) (by omega) ?_))
        have hr := hrs (sls cI 3 1 nv (nI ns) :: sls cB 5 1 bv o.bytes :: sls cL 4 1 kv o.keep :: cel true b5 30 (opC o bv kv) :: sls cS 9 1 wv (w :: l) :: cel true b2 30 zOp :: H)
        refine rcrash (v := lv) (l := rl) (fun x hx => by have := heach x hx; omega) (by omega) (fun x hx u _ => ?_) fun hn u _ t n => ?_
        · (repeat (first | refine goS ?_ | refine E_box fun _ => ?_ | refine E_fa fun _ => ?_ | refine E_ptfad0 fun _ _ => ?_ | refine E_ptfad fun _ _ => ?_ | refine E_rsix (by assumption) fun _ _ => ?_ | refine E_ifT (by first | assumption | decide) ?_ | refine E_ifF (by first | assumption | decide) ?_ | refine E_gdT (by first | assumption | decide) ?_ | refine E_gdF (by first | assumption | decide) ?_ | refine E_gdnT (by first | assumption | decide) ?_ | refine E_gdnF (by first | assumption | decide) ?_ | refine E_pickT (by first | assumption | decide) ?_ | refine E_pickF (by first | assumption | decide) ?_ | refine E_ixN (by omega) ?_ | refine E_ld' (by assumption) ?_ | refine E_addI (by omega) (by omega) ?_ | refine E_subI (by omega) (by omega) ?_ | refine E_mulI (by omega) (by omega) ?_))
          refine E_use (fun g => cel true b5 30 g) ?_
          exact E_same (by repeat (first | exact Same.refl | (refine Same.cons (by repeat (first | exact Find.here | apply Find.there)) ?_) | (refine Same.drop ?_))) (hok (.slice none 0 0) nv [] ns { o with keep := x.1, torn := x.2.1, at_ := x.2.2 } bv u (by rw [est, hx]) lnil inferInstance inferInstance inferInstance)
        · (repeat (first | refine goS ?_ | refine E_box fun _ => ?_ | refine E_fa fun _ => ?_ | refine E_ptfad0 fun _ _ => ?_ | refine E_ptfad fun _ _ => ?_ | refine E_rsix (by assumption) fun _ _ => ?_ | refine E_ifT (by first | assumption | decide) ?_ | refine E_ifF (by first | assumption | decide) ?_ | refine E_gdT (by first | assumption | decide) ?_ | refine E_gdF (by first | assumption | decide) ?_ | refine E_gdnT (by first | assumption | decide) ?_ | refine E_gdnF (by first | assumption | decide) ?_ | refine E_pickT (by first | assumption | decide) ?_ | refine E_pickF (by first | assumption | decide) ?_ | refine E_ixN (by omega) ?_ | refine E_ld' (by assumption) ?_ | refine E_addI (by omega) (by omega) ?_ | refine E_subI (by omega) (by omega) ?_ | refine E_mulI (by omega) (by omega) ?_))
          exact E_same (by repeat (first | exact Same.refl | (refine Same.cons (by repeat (first | exact Find.here | apply Find.there)) ?_) | (refine Same.drop ?_))) (hbad (.slice none 0 0) nv bv u { o with torn := t, at_ := n } (by rw [est, hn]))
      have hn1 : c ≠ 107 := fun h => g1 (c107.2 h)
      by_cases g2 : (c.toNat : Int) = 98
      · have hc1 := c98.1 g2
        have est : stepR c ⟨rl, ns, o⟩ = (match bytesW (joinB rl) with | some b => some ⟨[], ns, { o with bytes := b }⟩ | none => none) := by rw [hc1]; rfl
        (repeat (first | refine goS ?_ | refine E_box fun _ => ?_ | refine E_fa fun _ => ?_ | refine E_ptfad0 fun _ _ => ?_ | refine E_ptfad fun _ _ => ?_ | refine E_rsix (by assumption) fun _ _ => ?_ | refine E_ifT (by first | assumption | decide) ?_ | refine E_ifF (by first | assumption | decide) ?_ | refine E_gdT (by first | assumption | decide) ?_ | refine E_gdF (by first | assumption | decide) ?_ | refine E_gdnT (by first | assumption | decide) ?_ | refine E_gdnF (by first | assumption | decide) ?_ | refine E_pickT (by first | assumption | decide) ?_ | refine E_pickF (by first | assumption | decide) ?_ | refine E_ixN (by omega) ?_ | refine E_ld' (by assumption) ?_ | refine E_addI (by omega) (by omega) ?_ | refine E_subI (by omega) (by omega) ?_ | refine E_mulI (by omega) (by omega) ?_))
        have hr := hrs (sls cI 3 1 nv (nI ns) :: sls cB 5 1 bv o.bytes :: sls cL 4 1 kv o.keep :: cel true b5 30 (opC o bv kv) :: sls cS 9 1 wv (w :: l) :: cel true b2 30 zOp :: H)
        refine rbytes (v := lv) (l := rl) (by omega) (by omega) (fun x hx u _ => ?_) fun hn => ?_
        · (repeat (first | refine goS ?_ | refine E_box fun _ => ?_ | refine E_fa fun _ => ?_ | refine E_ptfad0 fun _ _ => ?_ | refine E_ptfad fun _ _ => ?_ | refine E_rsix (by assumption) fun _ _ => ?_ | refine E_ifT (by first | assumption | decide) ?_ | refine E_ifF (by first | assumption | decide) ?_ | refine E_gdT (by first | assumption | decide) ?_ | refine E_gdF (by first | assumption | decide) ?_ | refine E_gdnT (by first | assumption | decide) ?_ | refine E_gdnF (by first | assumption | decide) ?_ | refine E_pickT (by first | assumption | decide) ?_ | refine E_pickF (by first | assumption | decide) ?_ | refine E_ixN (by omega) ?_ | refine E_ld' (by assumption) ?_ | refine E_addI (by omega) (by omega) ?_ | refine E_subI (by omega) (by omega) ?_ | refine E_mulI (by omega) (by omega) ?_))
          exact E_same (by repeat (first | exact Same.refl | (refine Same.cons (by repeat (first | exact Find.here | apply Find.there)) ?_) | (refine Same.drop ?_))) (hok (.slice none 0 0) nv [] ns { o with bytes := x } u kv (by rw [est, hx]) lnil inferInstance inferInstance inferInstance)
        · (repeat (first | refine goS ?_ | refine E_box fun _ => ?_ | refine E_fa fun _ => ?_ | refine E_ptfad0 fun _ _ => ?_ | refine E_ptfad fun _ _ => ?_ | refine E_rsix (by assumption) fun _ _ => ?_ | refine E_ifT (by first | assumption | decide) ?_ | refine E_ifF (by first | assumption | decide) ?_ | refine E_gdT (by first | assumption | decide) ?_ | refine E_gdF (by first | assumption | decide) ?_ | refine E_gdnT (by first | assumption | decide) ?_ | refine E_gdnF (by first | assumption | decide) ?_ | refine E_pickT (by first | assumption | decide) ?_ | refine E_pickF (by first | assumption | decide) ?_ | refine E_ixN (by omega) ?_ | refine E_ld' (by assumption) ?_ | refine E_addI (by omega) (by omega) ?_ | refine E_subI (by omega) (by omega) ?_ | refine E_mulI (by omega) (by omega) ?_))
          exact E_same (by repeat (first | exact Same.refl | (refine Same.cons (by repeat (first | exact Find.here | apply Find.there)) ?_) | (refine Same.drop ?_))) (hbad (.slice none 0 0) nv (.slice none 0 0) kv o (by rw [est, hn]))
      have hn2 : c ≠ 98 := fun h => g2 (c98.2 h)
      (repeat (first | refine goS ?_ | refine E_box fun _ => ?_ | refine E_fa fun _ => ?_ | refine E_ptfad0 fun _ _ => ?_ | refine E_ptfad fun _ _ => ?_ | refine E_rsix (by assumption) fun _ _ => ?_ | refine E_ifT (by first | assumption | decide) ?_ | refine E_ifF (by first | assumption | decide) ?_ | refine E_gdT (by first | assumption | decide) ?_ | refine E_gdF (by first | assumption | decide) ?_ | refine E_gdnT (by first | assumption | decide) ?_ | refine E_gdnF (by first | assumption | decide) ?_ | refine E_pickT (by first | assumption | decide) ?_ | refine E_pickF (by first | assumption | decide) ?_ | refine E_ixN (by omega) ?_ | refine E_ld' (by assumption) ?_ | refine E_addI (by omega) (by omega) ?_ | refine E_subI (by omega) (by omega) ?_ | refine E_mulI (by omega) (by omega) ?_))
      have hr := hrs (sls cI 3 1 nv (nI ns) :: sls cB 5 1 bv o.bytes :: sls cL 4 1 kv o.keep :: cel true b5 30 (opC o bv kv) :: sls cS 9 1 wv (w :: l) :: cel true b2 30 zOp :: H)
      cases rl with
      | nil =>
        (repeat (first | refine goS ?_ | refine E_box fun _ => ?_ | refine E_fa fun _ => ?_ | refine E_ptfad0 fun _ _ => ?_ | refine E_ptfad fun _ _ => ?_ | refine E_rsix (by assumption) fun _ _ => ?_ | refine E_ifT (by first | assumption | decide) ?_ | refine E_ifF (by first | assumption | decide) ?_ | refine E_gdT (by first | assumption | decide) ?_ | refine E_gdF (by first | assumption | decide) ?_ | refine E_gdnT (by first | assumption | decide) ?_ | refine E_gdnF (by first | assumption | decide) ?_ | refine E_pickT (by first | assumption | decide) ?_ | refine E_pickF (by first | assumption | decide) ?_ | refine E_ixN (by omega) ?_ | refine E_ld' (by assumption) ?_ | refine E_addI (by omega) (by omega) ?_ | refine E_subI (by omega) (by omega) ?_ | refine E_mulI (by omega) (by omega) ?_))
        refine E_build (l := zOp) str_op ?_
        refine E_use (fun g => cel true b2 30 g) ?_
        refine E_stW rfl rfl ?_
        (repeat (first | refine goS ?_ | refine E_box fun _ => ?_ | refine E_fa fun _ => ?_ | refine E_ptfad0 fun _ _ => ?_ | refine E_ptfad fun _ _ => ?_ | refine E_rsix (by assumption) fun _ _ => ?_ | refine E_ifT (by first | assumption | decide) ?_ | refine E_ifF (by first | assumption | decide) ?_ | refine E_gdT (by first | assumption | decide) ?_ | refine E_gdF (by first | assumption | decide) ?_ | refine E_gdnT (by first | assumption | decide) ?_ | refine E_gdnF (by first | assumption | decide) ?_ | refine E_pickT (by first | assumption | decide) ?_ | refine E_pickF (by first | assumption | decide) ?_ | refine E_ixN (by omega) ?_ | refine E_ld' (by assumption) ?_ | refine E_addI (by omega) (by omega) ?_ | refine E_subI (by omega) (by omega) ?_ | refine E_mulI (by omega) (by omega) ?_))
        exact fail (bad (stepR_nil hn1 hn2)) _ (by repeat (first | exact Same.refl | (refine Same.cons (by repeat (first | exact Find.here | apply Find.there)) ?_) | (refine Same.drop ?_)))
      | cons x rl =>
        have g0 : ¬ (((x :: rl).length : Int) = 0) := by simp; omega
        have hxl := heach x (by simp)
        have est := stepR_cons (x := x) (l := rl) (ns := ns) (o := o) hn1 hn2
        (repeat (first | refine goS ?_ | refine E_box fun _ => ?_ | refine E_fa fun _ => ?_ | refine E_ptfad0 fun _ _ => ?_ | refine E_ptfad fun _ _ => ?_ | refine E_rsix (by assumption) fun _ _ => ?_ | refine E_ifT (by first | assumption | decide) ?_ | refine E_ifF (by first | assumption | decide) ?_ | refine E_gdT (by first | assumption | decide) ?_ | refine E_gdF (by first | assumption | decide) ?_ | refine E_gdnT (by first | assumption | decide) ?_ | refine E_gdnF (by first | assumption | decide) ?_ | refine E_pickT (by first | assumption | decide) ?_ | refine E_pickF (by first | assumption | decide) ?_ | refine E_ixN (by omega) ?_ | refine E_ld' (by assumption) ?_ | refine E_addI (by omega) (by omega) ?_ | refine E_subI (by omega) (by omega) ?_ | refine E_mulI (by omega) (by omega) ?_))
        refine E_rsix (v := lv) (i := 0) rfl fun _ _ => ?_
        refine E_ptld ?_
        refine E_slcS2 (v := lv) (l := x :: rl) (i := 1) (j := (x :: rl).length) (by simp [S.bound]) (by simp [S.bound]) (by simp) (by omega) fun lv1 hlr1 _ => ?_
        have el1 : ((x :: rl).drop 1).take ((x :: rl).length - 1) = rl := by simp
        rw [el1] at hlr1
        have hL1 : Lft B (w :: l) wv lv1 rl s.length := ⟨fun H' hH => by have := hrs H'; exact hlr1 H', fun y hy => heach y (List.mem_cons_of_mem _ hy), by simp at hlen; omega, by have := joinB_tail x rl; omega, inferInstance⟩
        refine E_chrL hs ?_
        by_cases g3 : (c.toNat : Int) = 110
        · have hc1 := c110.1 g3
          simp only [if_pos hc1] at est
          (repeat (first | refine goS ?_ | refine E_box fun _ => ?_ | refine E_fa fun _ => ?_ | refine E_ptfad0 fun _ _ => ?_ | refine E_ptfad fun _ _ => ?_ | refine E_rsix (by assumption) fun _ _ => ?_ | refine E_ifT (by first | assumption | decide) ?_ | refine E_ifF (by first | assumption | decide) ?_ | refine E_gdT (by first | assumption | decide) ?_ | refine E_gdF (by first | assumption | decide) ?_ | refine E_gdnT (by first | assumption | decide) ?_ | refine E_gdnF (by first | assumption | decide) ?_ | refine E_pickT (by first | assumption | decide) ?_ | refine E_pickF (by first | assumption | decide) ?_ | refine E_ixN (by omega) ?_ | refine E_ld' (by assumption) ?_ | refine E_addI (by omega) (by omega) ?_ | refine E_subI (by omega) (by omega) ?_ | refine E_mulI (by omega) (by omega) ?_))
          refine rnumber (by omega) (fun n hn _ => ?_) fun hn m => ?_
          · (repeat (first | refine goS ?_ | refine E_box fun _ => ?_ | refine E_fa fun _ => ?_ | refine E_ptfad0 fun _ _ => ?_ | refine E_ptfad fun _ _ => ?_ | refine E_rsix (by assumption) fun _ _ => ?_ | refine E_ifT (by first | assumption | decide) ?_ | refine E_ifF (by first | assumption | decide) ?_ | refine E_gdT (by first | assumption | decide) ?_ | refine E_gdF (by first | assumption | decide) ?_ | refine E_gdnT (by first | assumption | decide) ?_ | refine E_gdnF (by first | assumption | decide) ?_ | refine E_pickT (by first | assumption | decide) ?_ | refine E_pickF (by first | assumption | decide) ?_ | refine E_ixN (by omega) ?_ | refine E_ld' (by assumption) ?_ | refine E_addI (by omega) (by omega) ?_ | refine E_subI (by omega) (by omega) ?_ | refine E_mulI (by omega) (by omega) ?_))
            refine E_use (sls cI 3 1 nv) (E_sapp1 (n : Int) u_ints elt_int rfl (by decide) (by unfold nI; simp; omega) (by unfold nI; simp; omega) fun nv' _ => ?_)
            have hk' := hok lv1 nv' rl (ns ++ [n]) o bv kv (by rw [est, hn]) hL1 inferInstance inferInstance inferInstance
            have en : nI (ns ++ [n]) = nI ns ++ [(n : Int)] := by unfold nI; simp
            rw [en] at hk'
            exact E_same (by repeat (first | exact Same.refl | (refine Same.cons (by repeat (first | exact Find.here | apply Find.there)) ?_) | (refine Same.drop ?_))) hk'
          · (repeat (first | refine goS ?_ | refine E_box fun _ => ?_ | refine E_fa fun _ => ?_ | refine E_ptfad0 fun _ _ => ?_ | refine E_ptfad fun _ _ => ?_ | refine E_rsix (by assumption) fun _ _ => ?_ | refine E_ifT (by first | assumption | decide) ?_ | refine E_ifF (by first | assumption | decide) ?_ | refine E_gdT (by first | assumption | decide) ?_ | refine E_gdF (by first | assumption | decide) ?_ | refine E_gdnT (by first | assumption | decide) ?_ | refine E_gdnF (by first | assumption | decide) ?_ | refine E_pickT (by first | assumption | decide) ?_ | refine E_pickF (by first | assumption | decide) ?_ | refine E_ixN (by omega) ?_ | refine E_ld' (by assumption) ?_ | refine E_addI (by omega) (by omega) ?_ | refine E_subI (by omega) (by omega) ?_ | refine E_mulI (by omega) (by omega) ?_))
            refine E_use (sls cI 3 1 nv) (E_sapp1 m u_ints elt_int rfl (by decide) (by unfold nI; simp; omega) (by unfold nI; simp; omega) fun nv' _ => ?_)
            exact E_same (by repeat (first | exact Same.refl | (refine Same.cons (by repeat (first | exact Find.here | apply Find.there)) ?_) | (refine Same.drop ?_))) (hbad lv1 nv' bv kv o (by rw [est, hn]))
        have hn3 : c ≠ 110 := fun h => g3 (c110.2 h)
        simp only [if_neg hn3] at est
        (repeat (first | refine goS ?_ | refine E_box fun _ => ?_ | refine E_fa fun _ => ?_ | refine E_ptfad0 fun _ _ => ?_ | refine E_ptfad fun _ _ => ?_ | refine E_rsix (by assumption) fun _ _ => ?_ | refine E_ifT (by first | assumption | decide) ?_ | refine E_ifF (by first | assumption | decide) ?_ | refine E_gdT (by first | assumption | decide) ?_ | refine E_gdF (by first | assumption | decide) ?_ | refine E_gdnT (by first | assumption | decide) ?_ | refine E_gdnF (by first | assumption | decide) ?_ | refine E_pickT (by first | assumption | decide) ?_ | refine E_pickF (by first | assumption | decide) ?_ | refine E_ixN (by omega) ?_ | refine E_ld' (by assumption) ?_ | refine E_addI (by omega) (by omega) ?_ | refine E_subI (by omega) (by omega) ?_ | refine E_mulI (by omega) (by omega) ?_))
        refine rname (by omega) ?_
        refine E_chrL hs ?_
        by_cases g4 : (c.toNat : Int) = 97
        · have hc1 := c97.1 g4
          simp only [if_pos hc1] at est
          (repeat (first | refine goS ?_ | refine E_box fun _ => ?_ | refine E_fa fun _ => ?_ | refine E_ptfad0 fun _ _ => ?_ | refine E_ptfad fun _ _ => ?_ | refine E_rsix (by assumption) fun _ _ => ?_ | refine E_ifT (by first | assumption | decide) ?_ | refine E_ifF (by first | assumption | decide) ?_ | refine E_gdT (by first | assumption | decide) ?_ | refine E_gdF (by first | assumption | decide) ?_ | refine E_gdnT (by first | assumption | decide) ?_ | refine E_gdnF (by first | assumption | decide) ?_ | refine E_pickT (by first | assumption | decide) ?_ | refine E_pickF (by first | assumption | decide) ?_ | refine E_ixN (by omega) ?_ | refine E_ld' (by assumption) ?_ | refine E_addI (by omega) (by omega) ?_ | refine E_subI (by omega) (by omega) ?_ | refine E_mulI (by omega) (by omega) ?_))
          cases hnm : nameOk x with
          | true =>
            rw [hnm] at est
            exact E_same (by repeat (first | exact Same.refl | (refine Same.cons (by repeat (first | exact Find.here | apply Find.there)) ?_) | (refine Same.drop ?_))) (hok lv1 nv rl ns { o with name := x } bv kv est hL1 inferInstance inferInstance inferInstance)
          | false =>
            rw [hnm] at est
            exact E_same (by repeat (first | exact Same.refl | (refine Same.cons (by repeat (first | exact Find.here | apply Find.there)) ?_) | (refine Same.drop ?_))) (hbad lv1 nv bv kv { o with name := x } est)
        · have hn4 : c ≠ 97 := fun h => g4 (c97.2 h)
          simp only [if_neg hn4] at est
          (repeat (first | refine goS ?_ | refine E_box fun _ => ?_ | refine E_fa fun _ => ?_ | refine E_ptfad0 fun _ _ => ?_ | refine E_ptfad fun _ _ => ?_ | refine E_rsix (by assumption) fun _ _ => ?_ | refine E_ifT (by first | assumption | decide) ?_ | refine E_ifF (by first | assumption | decide) ?_ | refine E_gdT (by first | assumption | decide) ?_ | refine E_gdF (by first | assumption | decide) ?_ | refine E_gdnT (by first | assumption | decide) ?_ | refine E_gdnF (by first | assumption | decide) ?_ | refine E_pickT (by first | assumption | decide) ?_ | refine E_pickF (by first | assumption | decide) ?_ | refine E_ixN (by omega) ?_ | refine E_ld' (by assumption) ?_ | refine E_addI (by omega) (by omega) ?_ | refine E_subI (by omega) (by omega) ?_ | refine E_mulI (by omega) (by omega) ?_))
          cases hnm : nameOk x with
          | true =>
            rw [hnm] at est
            exact E_same (by repeat (first | exact Same.refl | (refine Same.cons (by repeat (first | exact Find.here | apply Find.there)) ?_) | (refine Same.drop ?_))) (hok lv1 nv rl ns { o with shot := x } bv kv est hL1 inferInstance inferInstance inferInstance)
          | false =>
            rw [hnm] at est
            exact E_same (by repeat (first | exact Same.refl | (refine Same.cons (by repeat (first | exact Find.here | apply Find.there)) ?_) | (refine Same.drop ?_))) (hbad lv1 nv bv kv { o with shot := x } est)
    rintro (⟨lv', nv', l', ns', o', bv', kv'⟩ | ⟨lv', nv', bv', kv', o'⟩) hz
    · obtain ⟨z1, z2, z3, z4, z5⟩ := hz
      simp only
      refine E_fa fun _ => ?_
      (repeat (first | refine goS ?_ | refine E_box fun _ => ?_ | refine E_fa fun _ => ?_ | refine E_ptfad0 fun _ _ => ?_ | refine E_ptfad fun _ _ => ?_ | refine E_rsix (by assumption) fun _ _ => ?_ | refine E_ifT (by first | assumption | decide) ?_ | refine E_ifF (by first | assumption | decide) ?_ | refine E_gdT (by first | assumption | decide) ?_ | refine E_gdF (by first | assumption | decide) ?_ | refine E_gdnT (by first | assumption | decide) ?_ | refine E_gdnF (by first | assumption | decide) ?_ | refine E_pickT (by first | assumption | decide) ?_ | refine E_pickF (by first | assumption | decide) ?_ | refine E_ixN (by omega) ?_ | refine E_ld' (by assumption) ?_ | refine E_addI (by omega) (by omega) ?_ | refine E_subI (by omega) (by omega) ?_ | refine E_mulI (by omega) (by omega) ?_))
      have hk' := hk (j + 1, (lv', nv', bv', kv'), ⟨l', ns', o'⟩) ⟨by simp only; omega, z2, z3, z4, z5, by simp only; rw [← hgo', z1], by
        simp only
        have := stepR_cnt z1
        simp only at this
        rw [this, hcnt, List.take_add_one, hs, Option.toList_some, List.count_append]⟩ (by simp only; omega)
      exact hk'
    · simp only at hz ⊢
      refine E_fa fun _ => ?_
      (repeat (first | refine goS ?_ | refine E_box fun _ => ?_ | refine E_fa fun _ => ?_ | refine E_ptfad0 fun _ _ => ?_ | refine E_ptfad fun _ _ => ?_ | refine E_rsix (by assumption) fun _ _ => ?_ | refine E_ifT (by first | assumption | decide) ?_ | refine E_ifF (by first | assumption | decide) ?_ | refine E_gdT (by first | assumption | decide) ?_ | refine E_gdF (by first | assumption | decide) ?_ | refine E_gdnT (by first | assumption | decide) ?_ | refine E_gdnF (by first | assumption | decide) ?_ | refine E_pickT (by first | assumption | decide) ?_ | refine E_pickF (by first | assumption | decide) ?_ | refine E_ixN (by omega) ?_ | refine E_ld' (by assumption) ?_ | refine E_addI (by omega) (by omega) ?_ | refine E_subI (by omega) (by omega) ?_ | refine E_mulI (by omega) (by omega) ?_))
      refine E_build (l := zOp) str_op ?_
      refine E_use (fun g => cel true b2 30 g) ?_
      refine E_stW rfl rfl ?_
      (repeat (first | refine goS ?_ | refine E_box fun _ => ?_ | refine E_fa fun _ => ?_ | refine E_ptfad0 fun _ _ => ?_ | refine E_ptfad fun _ _ => ?_ | refine E_rsix (by assumption) fun _ _ => ?_ | refine E_ifT (by first | assumption | decide) ?_ | refine E_ifF (by first | assumption | decide) ?_ | refine E_gdT (by first | assumption | decide) ?_ | refine E_gdF (by first | assumption | decide) ?_ | refine E_gdnT (by first | assumption | decide) ?_ | refine E_gdnF (by first | assumption | decide) ?_ | refine E_pickT (by first | assumption | decide) ?_ | refine E_pickF (by first | assumption | decide) ?_ | refine E_ixN (by omega) ?_ | refine E_ld' (by assumption) ?_ | refine E_addI (by omega) (by omega) ?_ | refine E_subI (by omega) (by omega) ?_ | refine E_mulI (by omega) (by omega) ?_))
      exact fail (bad hz) _ (by repeat (first | exact Same.refl | (refine Same.cons (by repeat (first | exact Find.here | apply Find.there)) ?_) | (refine Same.drop ?_)))
  have ej : j = f.length := by omega
  subst ej
  rw [List.take_length] at hcnt
  rw [List.drop_length] at hgo
  rw [← hgo] at hpr
  have hr := hrs (sls cI 3 1 nv (nI ns) :: sls cB 5 1 bv o.bytes :: sls cL 4 1 kv o.keep :: cel true b5 30 (opC o bv kv) :: sls cS 9 1 wv (w :: l) :: cel true b2 30 zOp :: H)
  refine E_rslen (v := lv) ?_
  cases rl with
  | cons x rl =>
    have g0 : (((x :: rl).length : Int) > 0) := by simp
    (repeat (first | refine goS ?_ | refine E_box fun _ => ?_ | refine E_fa fun _ => ?_ | refine E_ptfad0 fun _ _ => ?_ | refine E_ptfad fun _ _ => ?_ | refine E_rsix (by assumption) fun _ _ => ?_ | refine E_ifT (by first | assumption | decide) ?_ | refine E_ifF (by first | assumption | decide) ?_ | refine E_gdT (by first | assumption | decide) ?_ | refine E_gdF (by first | assumption | decide) ?_ | refine E_gdnT (by first | assumption | decide) ?_ | refine E_gdnF (by first | assumption | decide) ?_ | refine E_pickT (by first | assumption | decide) ?_ | refine E_pickF (by first | assumption | decide) ?_ | refine E_ixN (by omega) ?_ | refine E_ld' (by assumption) ?_ | refine E_addI (by omega) (by omega) ?_ | refine E_subI (by omega) (by omega) ?_ | refine E_mulI (by omega) (by omega) ?_))
    refine E_build (l := zOp) str_op ?_
    refine E_use (fun g => cel true b2 30 g) ?_
    refine E_stW rfl rfl ?_
    (repeat (first | refine goS ?_ | refine E_box fun _ => ?_ | refine E_fa fun _ => ?_ | refine E_ptfad0 fun _ _ => ?_ | refine E_ptfad fun _ _ => ?_ | refine E_rsix (by assumption) fun _ _ => ?_ | refine E_ifT (by first | assumption | decide) ?_ | refine E_ifF (by first | assumption | decide) ?_ | refine E_gdT (by first | assumption | decide) ?_ | refine E_gdF (by first | assumption | decide) ?_ | refine E_gdnT (by first | assumption | decide) ?_ | refine E_gdnF (by first | assumption | decide) ?_ | refine E_pickT (by first | assumption | decide) ?_ | refine E_pickF (by first | assumption | decide) ?_ | refine E_ixN (by omega) ?_ | refine E_ld' (by assumption) ?_ | refine E_addI (by omega) (by omega) ?_ | refine E_subI (by omega) (by omega) ?_ | refine E_mulI (by omega) (by omega) ?_))
    exact fail (by rw [hpr]; rfl) _ (by repeat (first | exact Same.refl | (refine Same.cons (by repeat (first | exact Find.here | apply Find.there)) ?_) | (refine Same.drop ?_)))
  | nil =>
    (repeat (first | refine goS ?_ | refine E_box fun _ => ?_ | refine E_fa fun _ => ?_ | refine E_ptfad0 fun _ _ => ?_ | refine E_ptfad fun _ _ => ?_ | refine E_rsix (by assumption) fun _ _ => ?_ | refine E_ifT (by first | assumption | decide) ?_ | refine E_ifF (by first | assumption | decide) ?_ | refine E_gdT (by first | assumption | decide) ?_ | refine E_gdF (by first | assumption | decide) ?_ | refine E_gdnT (by first | assumption | decide) ?_ | refine E_gdnF (by first | assumption | decide) ?_ | refine E_pickT (by first | assumption | decide) ?_ | refine E_pickF (by first | assumption | decide) ?_ | refine E_ixN (by omega) ?_ | refine E_ld' (by assumption) ?_ | refine E_addI (by omega) (by omega) ?_ | refine E_subI (by omega) (by omega) ?_ | refine E_mulI (by omega) (by omega) ?_))
    have hpr' : parseR s = some (setN f ns o) := by rw [hpr]; rfl
    refine rset (wl := w :: l) hcnt ?_
    obtain ⟨hb', hk'⟩ := setN_bytes f ns o
    refine E_fa fun _ => ?_
    (repeat (first | refine goS ?_ | refine E_box fun _ => ?_ | refine E_fa fun _ => ?_ | refine E_ptfad0 fun _ _ => ?_ | refine E_ptfad fun _ _ => ?_ | refine E_rsix (by assumption) fun _ _ => ?_ | refine E_ifT (by first | assumption | decide) ?_ | refine E_ifF (by first | assumption | decide) ?_ | refine E_gdT (by first | assumption | decide) ?_ | refine E_gdF (by first | assumption | decide) ?_ | refine E_gdnT (by first | assumption | decide) ?_ | refine E_gdnF (by first | assumption | decide) ?_ | refine E_pickT (by first | assumption | decide) ?_ | refine E_pickF (by first | assumption | decide) ?_ | refine E_ixN (by omega) ?_ | refine E_ld' (by assumption) ?_ | refine E_addI (by omega) (by omega) ?_ | refine E_subI (by omega) (by omega) ?_ | refine E_mulI (by omega) (by omega) ?_))
    refine E_use (fun g => cel true b2 30 g) ?_
    refine E_stW rfl rfl ?_
    (repeat (first | refine goS ?_ | refine E_box fun _ => ?_ | refine E_fa fun _ => ?_ | refine E_ptfad0 fun _ _ => ?_ | refine E_ptfad fun _ _ => ?_ | refine E_rsix (by assumption) fun _ _ => ?_ | refine E_ifT (by first | assumption | decide) ?_ | refine E_ifF (by first | assumption | decide) ?_ | refine E_gdT (by first | assumption | decide) ?_ | refine E_gdF (by first | assumption | decide) ?_ | refine E_gdnT (by first | assumption | decide) ?_ | refine E_gdnF (by first | assumption | decide) ?_ | refine E_pickT (by first | assumption | decide) ?_ | refine E_pickF (by first | assumption | decide) ?_ | refine E_ixN (by omega) ?_ | refine E_ld' (by assumption) ?_ | refine E_addI (by omega) (by omega) ?_ | refine E_subI (by omega) (by omega) ?_ | refine E_mulI (by omega) (by omega) ?_))
    have h1' := h1 _ hpr' bv kv
    rw [hb', hk'] at h1'
    exact E_same (by repeat (first | exact Same.refl | (refine Same.cons (by repeat (first | exact Find.here | apply Find.there)) ?_) | (refine Same.drop ?_))) h1'
end Go.Proofs.YtogallbjmgoagaaDoor.Scr
