/-
  Script: a line's operation.
-/
import Derived.Test.YtogallbjmgoagaaDoorScrE
import Derived.Lib.SmallJoins
set_option linter.unusedSimpArgs false
set_option linter.unusedVariables false
set_option linter.unusedSectionVars false
namespace Go.Proofs.YtogallbjmgoagaaDoor.Scr
open Go Go.SL Go.Proofs Go.Proofs.YtogallbjmgoagaaDoor.Sh
variable {B : World} {H : List Asrt} {K : Value → WT} {W : WT}
theorem u_strs : Tryd.prog.underlying 52 = some (.slice 9) := by kernel_rfl
theorem elt_string : Elt Tryd.prog 9 1 16 [str []] := elt_of (zv := str []) (by kernel_rfl) rfl rfl
theorem str_op : Str Tryd.prog 30 [(0, 1), (1, 1), (2, 1), (3, 1), (4, 1), (5, 1), (6, 1), (7, 1), (8, 4), (12, 3)] [I 0, I 0, str [], str [], I 0, I 0, I 0, .slice none 0 0, I 0, I 0, I 0, I 0, .slice none 0 0, I 0, I 0] :=
  str_of (zv := .agg #[I 0, I 0, str [], str [], I 0, I 0, I 0, .slice none 0 0, I 0, I 0, I 0, I 0, .slice none 0 0, I 0, I 0]) (by kernel_rfl) (by kernel_rfl) rfl
theorem str_keep : Str Tryd.prog 25 [(0, 1), (1, 1), (2, 1), (3, 1)] [I 0, I 0, I 0, I 0] := str_of (zv := .agg #[I 0, I 0, I 0, I 0]) (by kernel_rfl) (by kernel_rfl) rfl
/-- The table of white space stands in the start world. -/
class TabB (B : World) : Prop where
  pf : Lib.TabIs Tryd.prog B "strings.asciiSpace" .u8 Lib.asciiSpaceTab
theorem tab_sat {w : World} [hB : TabB B] (h : sat B H w) : Lib.TabIs Tryd.prog w "strings.asciiSpace" .u8 Lib.asciiSpaceTab := by
  obtain ⟨g, hg⟩ : ∃ g, Tryd.prog.globalNamed "strings.asciiSpace" = some g := by
    cases hn : Tryd.prog.globalNamed "strings.asciiSpace" with
    | some g => exact ⟨g, rfl⟩
    | none =>
      have := hB.pf
      unfold Lib.TabIs World.var? at this
      rw [hn] at this; cases this
  exact Go.Joins.tab_stays hg hB.pf h.1 (Nat.le_refl _)
abbrev verbsS : List UInt8 := [98, 101, 103, 105, 110, 32, 119, 114, 105, 116, 101, 32, 99, 111, 109, 109, 105, 116, 32, 97, 98, 111, 114, 116, 32, 114, 101, 97, 100, 32, 114, 97, 110, 103, 101, 32, 115, 104, 111, 119, 110, 32, 115, 116, 97, 116, 32, 108, 105, 115, 116, 32, 100, 101, 108, 101, 116, 101, 32, 115, 110, 97, 112, 32, 117, 110, 115, 110, 97, 112, 32, 116, 105, 99, 107, 32, 101, 120, 112, 105, 114, 101, 32, 99, 108, 101, 97, 110, 32, 115, 99, 114, 117, 98, 32, 114, 101, 98, 117, 105, 108, 100, 32, 116, 114, 105, 112, 32, 102, 97, 108, 108, 32, 109, 111, 117, 110, 116, 32, 114, 111, 116]
theorem fields_verbs : Lib.fields verbsS = verbL := by decide +kernel
theorem verbs_ascii : ∀ (j : Nat) b, verbsS[j]? = some b → b.toNat < 128 := fun j b h => by
  have : ∀ b ∈ verbsS, b.toNat < 128 := by decide +kernel
  exact this b (List.mem_of_getElem? h)
abbrev opC (o : OpV) (v u : Value) : List Value := [I o.d, I o.n, str o.name, str o.shot, I o.gen, I o.from_, I o.size, v, I o.last, I o.young, I o.step, I o.count, u, I o.torn, I o.at_]
attribute [local irreducible] S.pick S.ld S.ldN S.st S.box S.nc S.fad S.ixS S.ixA S.chr S.prt S.ext S.bin S.sh S.sbin S.beq S.neg1 S.com1 S.not1 S.cvt S.str1 S.lenS S.len S.cap S.lenM S.mx S.mn S.mkM S.cond S.gd S.fa S.dr S.rck S.join S.loop S.cvv S.eqv S.slc S.slcS S.b2s S.lk V U CF Gives E cel mpb osl ros dct dit itr lpo dfo
attribute [local irreducible] sls
set_option maxRecDepth 8000
theorem verbs [Amb] [TabB B] (h : ∀ v [CellI v], E B (sls cS 9 1 v verbL :: H) (K v)) : E B H (CF Tryd.prog 25 [] K) := by
  refine E_mono (W := s25 K) ?_ fun _ => c25
  unfold s25
  have hc : ∀ w, sat B H w → Calls Tryd.prog 43 #[str verbsS] w fun e w' => e = .returned (.slice (some ⟨w.heap.size, 0, none⟩) 21 21) ∧ w' = w.alloc (.cells (verbL.flatMap cS).toArray 9) := fun w hw => by
    have := Tryd.strings_Fields_laid ⟨verbsS.toArray⟩ w (by rw [strSize]; decide) (by simpa using verbs_ascii) (tab_sat hw)
    simp only at this
    rw [fields_verbs] at this
    exact this
  refine E_callNew (n := 21) (c := 21) (T := 9) (xs := verbL.flatMap cS) (args := [str verbsS]) hc fun b => ?_
  exact E_slsC (enc := cS) verbL 21 rfl rfl (h _)
theorem verbL_get {k : Nat} (hk : k < 21) : ∃ u, verbL[k]? = some u := ⟨_, List.getElem?_eq_getElem (show k < verbL.length from hk)⟩
theorem verbW_at {w u : List UInt8} {k : Nat} (hu : verbL[k]? = some u) (he : u = w) (hno : ∀ j, j < k → verbL[j]? ≠ some w) : verbW w = k + 1 := by
  subst he
  unfold verbW
  rw [if_pos (List.mem_of_getElem? hu)]
  congr 1
  have hk : k < verbL.length := (List.getElem?_eq_some_iff.1 hu).1
  have h1 : verbL.idxOf u < verbL.length := List.idxOf_lt_length_iff.2 (List.mem_of_getElem? hu)
  have h2 : verbL[verbL.idxOf u]? = some u := by rw [List.getElem?_eq_getElem h1, List.getElem_idxOf h1]
  rcases Nat.lt_trichotomy (verbL.idxOf u) k with h | h | h
  · exact absurd h2 (hno _ h)
  · exact h
  · exfalso
    have h3 := List.not_of_lt_findIdx (p := (· == u)) (xs := verbL) (i := k) h
    have h4 : verbL[k] = u := (List.getElem?_eq_some_iff.1 hu).2
    rw [h4] at h3
    simp at h3
theorem verb [Amb] [TabB B] {w : List UInt8} (h : E B H (K (I (verbW w)))) : E B H (CF Tryd.prog 32 [str w] K) := by
  refine E_mono (W := s32 _ K) ?_ fun _ => c32
  unfold s32
  refine E_loop (σ := Nat) (fun k => k ≤ 21 ∧ ∀ j, j < k → verbL[j]? ≠ some w) (fun k => [str w, I ((k + 1 : Nat) : Int)]) (fun _ => H) (fun k => 21 - k) 0 (fun _ => rfl) rfl ⟨by omega, by omega⟩ (fun W hW => hW) ?_
  rintro k K0 ⟨hi, hno⟩ hk
  refine E_fa fun _ => ?_
  refine E_leq ?_
  refine E_if (fun hc => ?_) (fun hc => ?_)
  · refine verbs fun v _ => ?_
    refine E_subI (by omega) (by omega) ?_
    rw [show (((k + 1 : Nat) : Int) - 1) = (k : Int) by omega]
    obtain ⟨u, hu⟩ := verbL_get (show k < 21 by omega)
    refine E_rsix (v := v) hu fun _ _ => ?_
    refine E_ptld ?_
    refine E_streq ?_
    refine E_if (fun he => ?_) (fun he => ?_)
    · rw [verbW_at hu he hno] at h
      exact E_drop h
    · refine E_addI (by omega) (by omega) ?_
      refine E_drop (hk (k + 1) ⟨by omega, fun j hj => ?_⟩ (by omega))
      rcases Nat.lt_or_ge j k with h' | h'
      · exact hno j h'
      · have : j = k := by omega
        subst this
        rw [hu]; exact fun e => he (Option.some.inj e)
  · have : verbW w = 0 := by
      unfold verbW
      rw [if_neg (fun hm => by
        obtain ⟨j, hj, e⟩ := List.getElem_of_mem hm
        exact hno j (by have : verbL.length = 21 := rfl; omega) (by rw [List.getElem?_eq_getElem hj, e]))]
    rw [this] at h
    exact h
theorem op [A : Amb] [TabB B] {r : Nat} {st : St} (hm : st.1.length ≤ 1000000)
    (h1 : ∀ o, opP st = some o → ∀ v u [CellI v] [CellI u], E B (sls cB 5 1 v o.bytes :: sls cL 4 1 u o.keep :: H) (K (.agg (opC o v u).toArray))) (h2 : opP st = none → E B H (A.pn fault)) :
    E B (rdg r st :: H) (CF Tryd.prog 16 [ptr r] K) := by
  refine E_mono (W := s16 _ K) ?_ fun _ => c16
  unfold s16
  refine E_box (vs := [I 0, I 0, str [], str [], I 0, I 0, I 0, .slice none 0 0, I 0, I 0, I 0, I 0, .slice none 0 0, I 0, I 0]) fun b2 => ?_
  refine E_find (a := rdg r st) (by repeat (first | exact Find.here | apply Find.there)) ?_
  refine wordS hm (fun w s1 hw _ hl => ?_) fun hn => E_drop (h2 (by simp [opP, hn]))
  refine verb ?_
  have hop : opP st = (argsP (verbW w) s1).bind fun x => if x.2.2 then none else some x.1 := by simp [opP, hw]
  have bad : argsP (verbW w) s1 = none → E B H (A.pn fault) := fun h => h2 (by rw [hop, h]; rfl)
  have hle := verbW_le w
  generalize verbW w = d at hop bad hle
  refine E_build (l := [I d, I 0, str [], str [], I 0, I 0, I 0, .slice none 0 0, I 0, I 0, I 0, I 0, .slice none 0 0, I 0, I 0]) str_op ?_
  refine E_box (vs := [I 0, I 0, str [], str [], I 0, I 0, I 0, .slice none 0 0, I 0, I 0, I 0, I 0, .slice none 0 0, I 0, I 0]) fun b3 => ?_
  refine E_stW rfl rfl ?_
  refine E_joinC (σ := OpV × St × Value × Value) (fun z => argsP d s1 = some (z.1, z.2.1) ∧ CellI z.2.2.1 ∧ CellI z.2.2.2 ∧ z.2.1.1.length ≤ 1000000) (fun _ => [ptr r, ptr b2, ptr b3])
    (fun z => sls cB 5 1 z.2.2.1 z.1.bytes :: sls cL 4 1 z.2.2.2 z.1.keep :: cel true b3 30 (opC z.1 z.2.2.1 z.2.2.2) :: cel true b2 30 [I 0, I 0, str [], str [], I 0, I 0, I 0, .slice none 0 0, I 0, I 0, I 0, I 0, .slice none 0 0, I 0, I 0] :: rdg r z.2.1 :: H) (fun q hq => ?_) ?_
  · have key : ∀ d, d ≤ 21 → d = 0 ∨ d = 1 ∨ d = 2 ∨ d = 3 ∨ d = 4 ∨ d = 5 ∨ d = 6 ∨ d = 7 ∨ d = 8 ∨ d = 9 ∨ d = 10 ∨ d = 11 ∨ d = 12 ∨ d = 13 ∨ d = 14 ∨ d = 15 ∨ d = 16 ∨ d = 17 ∨ d = 18 ∨ d = 19 ∨ d = 20 ∨ d = 21 := by omega
    rcases key d hle with rfl | rfl | rfl | rfl | rfl | rfl | rfl | rfl | rfl | rfl | rfl | rfl | rfl | rfl | rfl | rfl | rfl | rfl | rfl | rfl | rfl | rfl
    · -- 0
      (repeat (first | (refine E_join0 ?_) | (first | refine goS ?_ | refine E_box fun _ => ?_ | refine E_fa fun _ => ?_ | refine E_ptfad0 fun _ _ => ?_ | refine E_ptfad fun _ _ => ?_ | refine E_rsix (by assumption) fun _ _ => ?_ | refine E_ifT (by first | assumption | decide) ?_ | refine E_ifF (by first | assumption | decide) ?_ | refine E_gdT (by first | assumption | decide) ?_ | refine E_gdF (by first | assumption | decide) ?_ | refine E_gdnT (by first | assumption | decide) ?_ | refine E_gdnF (by first | assumption | decide) ?_ | refine E_pickT (by first | assumption | decide) ?_ | refine E_pickF (by first | assumption | decide) ?_ | refine E_ixN (by omega) ?_ | refine E_ld' (by assumption) ?_ | refine E_addI (by omega) (by omega) ?_ | refine E_subI (by omega) (by omega) ?_ | refine E_mulI (by omega) (by omega) ?_)))
      exact must (fun h => by cases h) fun _ => E_drop (E_drop (E_drop (bad rfl)))
    · -- 1
      have ea : argsP 1 s1 = ((nameP s1).map fun p0 => ({ op0 with d := (1 : Nat), name := p0.1 }, p0.2)) := rfl
      rw [ea] at bad
      (repeat (first | (refine E_join0 ?_) | (first | refine goS ?_ | refine E_box fun _ => ?_ | refine E_fa fun _ => ?_ | refine E_ptfad0 fun _ _ => ?_ | refine E_ptfad fun _ _ => ?_ | refine E_rsix (by assumption) fun _ _ => ?_ | refine E_ifT (by first | assumption | decide) ?_ | refine E_ifF (by first | assumption | decide) ?_ | refine E_gdT (by first | assumption | decide) ?_ | refine E_gdF (by first | assumption | decide) ?_ | refine E_gdnT (by first | assumption | decide) ?_ | refine E_gdnF (by first | assumption | decide) ?_ | refine E_pickT (by first | assumption | decide) ?_ | refine E_pickF (by first | assumption | decide) ?_ | refine E_ixN (by omega) ?_ | refine E_ld' (by assumption) ?_ | refine E_addI (by omega) (by omega) ?_ | refine E_subI (by omega) (by omega) ?_ | refine E_mulI (by omega) (by omega) ?_)))
      refine E_find (a := rdg r s1) (by repeat (first | exact Find.here | apply Find.there)) ?_
      refine nameS hl (fun x0 s2 h0 _ hl0 => ?_) fun hn => E_drop (E_drop (bad (by simp [hn])))
      (repeat (first | (refine E_join0 ?_) | (first | refine goS ?_ | refine E_box fun _ => ?_ | refine E_fa fun _ => ?_ | refine E_ptfad0 fun _ _ => ?_ | refine E_ptfad fun _ _ => ?_ | refine E_rsix (by assumption) fun _ _ => ?_ | refine E_ifT (by first | assumption | decide) ?_ | refine E_ifF (by first | assumption | decide) ?_ | refine E_gdT (by first | assumption | decide) ?_ | refine E_gdF (by first | assumption | decide) ?_ | refine E_gdnT (by first | assumption | decide) ?_ | refine E_gdnF (by first | assumption | decide) ?_ | refine E_pickT (by first | assumption | decide) ?_ | refine E_pickF (by first | assumption | decide) ?_ | refine E_ixN (by omega) ?_ | refine E_ld' (by assumption) ?_ | refine E_addI (by omega) (by omega) ?_ | refine E_subI (by omega) (by omega) ?_ | refine E_mulI (by omega) (by omega) ?_)))
      refine sls_nil (T := 5) cB 1 ?_
      refine sls_nil (T := 4) cL 1 ?_
      exact E_same (by repeat (first | exact Same.refl | (refine Same.cons (by repeat (first | exact Find.here | apply Find.there)) ?_) | (refine Same.drop ?_))) (hq ({ op0 with d := (1 : Nat), name := x0 }, s2, (.slice none 0 0), (.slice none 0 0)) ⟨by rw [ea]; simp [h0], inferInstance, inferInstance, hl0⟩)
    · -- 2
      have ea : argsP 2 s1 = ((numP s1).bind fun p0 => (bytesP p0.2).map fun p1 => ({ op0 with d := (2 : Nat), n := p0.1, bytes := p1.1 }, p1.2)) := rfl
      rw [ea] at bad
      (repeat (first | (refine E_join0 ?_) | (first | refine goS ?_ | refine E_box fun _ => ?_ | refine E_fa fun _ => ?_ | refine E_ptfad0 fun _ _ => ?_ | refine E_ptfad fun _ _ => ?_ | refine E_rsix (by assumption) fun _ _ => ?_ | refine E_ifT (by first | assumption | decide) ?_ | refine E_ifF (by first | assumption | decide) ?_ | refine E_gdT (by first | assumption | decide) ?_ | refine E_gdF (by first | assumption | decide) ?_ | refine E_gdnT (by first | assumption | decide) ?_ | refine E_gdnF (by first | assumption | decide) ?_ | refine E_pickT (by first | assumption | decide) ?_ | refine E_pickF (by first | assumption | decide) ?_ | refine E_ixN (by omega) ?_ | refine E_ld' (by assumption) ?_ | refine E_addI (by omega) (by omega) ?_ | refine E_subI (by omega) (by omega) ?_ | refine E_mulI (by omega) (by omega) ?_)))
      refine E_find (a := rdg r s1) (by repeat (first | exact Find.here | apply Find.there)) ?_
      refine numS hl (fun x0 s2 h0 _ hl0 => ?_) fun hn => E_drop (E_drop (bad (by simp [hn])))
      (repeat (first | (refine E_join0 ?_) | (first | refine goS ?_ | refine E_box fun _ => ?_ | refine E_fa fun _ => ?_ | refine E_ptfad0 fun _ _ => ?_ | refine E_ptfad fun _ _ => ?_ | refine E_rsix (by assumption) fun _ _ => ?_ | refine E_ifT (by first | assumption | decide) ?_ | refine E_ifF (by first | assumption | decide) ?_ | refine E_gdT (by first | assumption | decide) ?_ | refine E_gdF (by first | assumption | decide) ?_ | refine E_gdnT (by first | assumption | decide) ?_ | refine E_gdnF (by first | assumption | decide) ?_ | refine E_pickT (by first | assumption | decide) ?_ | refine E_pickF (by first | assumption | decide) ?_ | refine E_ixN (by omega) ?_ | refine E_ld' (by assumption) ?_ | refine E_addI (by omega) (by omega) ?_ | refine E_subI (by omega) (by omega) ?_ | refine E_mulI (by omega) (by omega) ?_)))
      refine E_find (a := rdg r s2) (by repeat (first | exact Find.here | apply Find.there)) ?_
      refine bytesS hl0 (fun x1 s3 h1 hl1 v _ => ?_) fun hn => E_drop (E_drop (bad (by simp [h0, hn])))
      (repeat (first | (refine E_join0 ?_) | (first | refine goS ?_ | refine E_box fun _ => ?_ | refine E_fa fun _ => ?_ | refine E_ptfad0 fun _ _ => ?_ | refine E_ptfad fun _ _ => ?_ | refine E_rsix (by assumption) fun _ _ => ?_ | refine E_ifT (by first | assumption | decide) ?_ | refine E_ifF (by first | assumption | decide) ?_ | refine E_gdT (by first | assumption | decide) ?_ | refine E_gdF (by first | assumption | decide) ?_ | refine E_gdnT (by first | assumption | decide) ?_ | refine E_gdnF (by first | assumption | decide) ?_ | refine E_pickT (by first | assumption | decide) ?_ | refine E_pickF (by first | assumption | decide) ?_ | refine E_ixN (by omega) ?_ | refine E_ld' (by assumption) ?_ | refine E_addI (by omega) (by omega) ?_ | refine E_subI (by omega) (by omega) ?_ | refine E_mulI (by omega) (by omega) ?_)))
      refine sls_nil (T := 4) cL 1 ?_
      exact E_same (by repeat (first | exact Same.refl | (refine Same.cons (by repeat (first | exact Find.here | apply Find.there)) ?_) | (refine Same.drop ?_))) (hq ({ op0 with d := (2 : Nat), n := x0, bytes := x1 }, s3, v, (.slice none 0 0)) ⟨by rw [ea]; simp [h0, h1], inferInstance, inferInstance, hl1⟩)
    · -- 3
      have ea : argsP 3 s1 = ((numP s1).map fun p0 => ({ op0 with d := (3 : Nat), n := p0.1 }, p0.2)) := rfl
      rw [ea] at bad
      (repeat (first | (refine E_join0 ?_) | (first | refine goS ?_ | refine E_box fun _ => ?_ | refine E_fa fun _ => ?_ | refine E_ptfad0 fun _ _ => ?_ | refine E_ptfad fun _ _ => ?_ | refine E_rsix (by assumption) fun _ _ => ?_ | refine E_ifT (by first | assumption | decide) ?_ | refine E_ifF (by first | assumption | decide) ?_ | refine E_gdT (by first | assumption | decide) ?_ | refine E_gdF (by first | assumption | decide) ?_ | refine E_gdnT (by first | assumption | decide) ?_ | refine E_gdnF (by first | assumption | decide) ?_ | refine E_pickT (by first | assumption | decide) ?_ | refine E_pickF (by first | assumption | decide) ?_ | refine E_ixN (by omega) ?_ | refine E_ld' (by assumption) ?_ | refine E_addI (by omega) (by omega) ?_ | refine E_subI (by omega) (by omega) ?_ | refine E_mulI (by omega) (by omega) ?_)))
      refine E_find (a := rdg r s1) (by repeat (first | exact Find.here | apply Find.there)) ?_
      refine numS hl (fun x0 s2 h0 _ hl0 => ?_) fun hn => E_drop (E_drop (bad (by simp [hn])))
      (repeat (first | (refine E_join0 ?_) | (first | refine goS ?_ | refine E_box fun _ => ?_ | refine E_fa fun _ => ?_ | refine E_ptfad0 fun _ _ => ?_ | refine E_ptfad fun _ _ => ?_ | refine E_rsix (by assumption) fun _ _ => ?_ | refine E_ifT (by first | assumption | decide) ?_ | refine E_ifF (by first | assumption | decide) ?_ | refine E_gdT (by first | assumption | decide) ?_ | refine E_gdF (by first | assumption | decide) ?_ | refine E_gdnT (by first | assumption | decide) ?_ | refine E_gdnF (by first | assumption | decide) ?_ | refine E_pickT (by first | assumption | decide) ?_ | refine E_pickF (by first | assumption | decide) ?_ | refine E_ixN (by omega) ?_ | refine E_ld' (by assumption) ?_ | refine E_addI (by omega) (by omega) ?_ | refine E_subI (by omega) (by omega) ?_ | refine E_mulI (by omega) (by omega) ?_)))
      refine sls_nil (T := 5) cB 1 ?_
      refine sls_nil (T := 4) cL 1 ?_
      exact E_same (by repeat (first | exact Same.refl | (refine Same.cons (by repeat (first | exact Find.here | apply Find.there)) ?_) | (refine Same.drop ?_))) (hq ({ op0 with d := (3 : Nat), n := x0 }, s2, (.slice none 0 0), (.slice none 0 0)) ⟨by rw [ea]; simp [h0], inferInstance, inferInstance, hl0⟩)
    · -- 4
      have ea : argsP 4 s1 = ((numP s1).map fun p0 => ({ op0 with d := (4 : Nat), n := p0.1 }, p0.2)) := rfl
      rw [ea] at bad
      (repeat (first | (refine E_join0 ?_) | (first | refine goS ?_ | refine E_box fun _ => ?_ | refine E_fa fun _ => ?_ | refine E_ptfad0 fun _ _ => ?_ | refine E_ptfad fun _ _ => ?_ | refine E_rsix (by assumption) fun _ _ => ?_ | refine E_ifT (by first | assumption | decide) ?_ | refine E_ifF (by first | assumption | decide) ?_ | refine E_gdT (by first | assumption | decide) ?_ | refine E_gdF (by first | assumption | decide) ?_ | refine E_gdnT (by first | assumption | decide) ?_ | refine E_gdnF (by first | assumption | decide) ?_ | refine E_pickT (by first | assumption | decide) ?_ | refine E_pickF (by first | assumption | decide) ?_ | refine E_ixN (by omega) ?_ | refine E_ld' (by assumption) ?_ | refine E_addI (by omega) (by omega) ?_ | refine E_subI (by omega) (by omega) ?_ | refine E_mulI (by omega) (by omega) ?_)))
      refine E_find (a := rdg r s1) (by repeat (first | exact Find.here | apply Find.there)) ?_
      refine numS hl (fun x0 s2 h0 _ hl0 => ?_) fun hn => E_drop (E_drop (bad (by simp [hn])))
      (repeat (first | (refine E_join0 ?_) | (first | refine goS ?_ | refine E_box fun _ => ?_ | refine E_fa fun _ => ?_ | refine E_ptfad0 fun _ _ => ?_ | refine E_ptfad fun _ _ => ?_ | refine E_rsix (by assumption) fun _ _ => ?_ | refine E_ifT (by first | assumption | decide) ?_ | refine E_ifF (by first | assumption | decide) ?_ | refine E_gdT (by first | assumption | decide) ?_ | refine E_gdF (by first | assumption | decide) ?_ | refine E_gdnT (by first | assumption | decide) ?_ | refine E_gdnF (by first | assumption | decide) ?_ | refine E_pickT (by first | assumption | decide) ?_ | refine E_pickF (by first | assumption | decide) ?_ | refine E_ixN (by omega) ?_ | refine E_ld' (by assumption) ?_ | refine E_addI (by omega) (by omega) ?_ | refine E_subI (by omega) (by omega) ?_ | refine E_mulI (by omega) (by omega) ?_)))
      refine sls_nil (T := 5) cB 1 ?_
      refine sls_nil (T := 4) cL 1 ?_
      exact E_same (by repeat (first | exact Same.refl | (refine Same.cons (by repeat (first | exact Find.here | apply Find.there)) ?_) | (refine Same.drop ?_))) (hq ({ op0 with d := (4 : Nat), n := x0 }, s2, (.slice none 0 0), (.slice none 0 0)) ⟨by rw [ea]; simp [h0], inferInstance, inferInstance, hl0⟩)
    · -- 5
      have ea : argsP 5 s1 = ((nameP s1).bind fun p0 => (numP p0.2).map fun p1 => ({ op0 with d := (5 : Nat), name := p0.1, gen := p1.1 }, p1.2)) := rfl
      rw [ea] at bad
      (repeat (first | (refine E_join0 ?_) | (first | refine goS ?_ | refine E_box fun _ => ?_ | refine E_fa fun _ => ?_ | refine E_ptfad0 fun _ _ => ?_ | refine E_ptfad fun _ _ => ?_ | refine E_rsix (by assumption) fun _ _ => ?_ | refine E_ifT (by first | assumption | decide) ?_ | refine E_ifF (by first | assumption | decide) ?_ | refine E_gdT (by first | assumption | decide) ?_ | refine E_gdF (by first | assumption | decide) ?_ | refine E_gdnT (by first | assumption | decide) ?_ | refine E_gdnF (by first | assumption | decide) ?_ | refine E_pickT (by first | assumption | decide) ?_ | refine E_pickF (by first | assumption | decide) ?_ | refine E_ixN (by omega) ?_ | refine E_ld' (by assumption) ?_ | refine E_addI (by omega) (by omega) ?_ | refine E_subI (by omega) (by omega) ?_ | refine E_mulI (by omega) (by omega) ?_)))
      refine E_find (a := rdg r s1) (by repeat (first | exact Find.here | apply Find.there)) ?_
      refine nameS hl (fun x0 s2 h0 _ hl0 => ?_) fun hn => E_drop (E_drop (bad (by simp [hn])))
      (repeat (first | (refine E_join0 ?_) | (first | refine goS ?_ | refine E_box fun _ => ?_ | refine E_fa fun _ => ?_ | refine E_ptfad0 fun _ _ => ?_ | refine E_ptfad fun _ _ => ?_ | refine E_rsix (by assumption) fun _ _ => ?_ | refine E_ifT (by first | assumption | decide) ?_ | refine E_ifF (by first | assumption | decide) ?_ | refine E_gdT (by first | assumption | decide) ?_ | refine E_gdF (by first | assumption | decide) ?_ | refine E_gdnT (by first | assumption | decide) ?_ | refine E_gdnF (by first | assumption | decide) ?_ | refine E_pickT (by first | assumption | decide) ?_ | refine E_pickF (by first | assumption | decide) ?_ | refine E_ixN (by omega) ?_ | refine E_ld' (by assumption) ?_ | refine E_addI (by omega) (by omega) ?_ | refine E_subI (by omega) (by omega) ?_ | refine E_mulI (by omega) (by omega) ?_)))
      refine E_find (a := rdg r s2) (by repeat (first | exact Find.here | apply Find.there)) ?_
      refine numS hl0 (fun x1 s3 h1 _ hl1 => ?_) fun hn => E_drop (E_drop (bad (by simp [h0, hn])))
      (repeat (first | (refine E_join0 ?_) | (first | refine goS ?_ | refine E_box fun _ => ?_ | refine E_fa fun _ => ?_ | refine E_ptfad0 fun _ _ => ?_ | refine E_ptfad fun _ _ => ?_ | refine E_rsix (by assumption) fun _ _ => ?_ | refine E_ifT (by first | assumption | decide) ?_ | refine E_ifF (by first | assumption | decide) ?_ | refine E_gdT (by first | assumption | decide) ?_ | refine E_gdF (by first | assumption | decide) ?_ | refine E_gdnT (by first | assumption | decide) ?_ | refine E_gdnF (by first | assumption | decide) ?_ | refine E_pickT (by first | assumption | decide) ?_ | refine E_pickF (by first | assumption | decide) ?_ | refine E_ixN (by omega) ?_ | refine E_ld' (by assumption) ?_ | refine E_addI (by omega) (by omega) ?_ | refine E_subI (by omega) (by omega) ?_ | refine E_mulI (by omega) (by omega) ?_)))
      refine sls_nil (T := 5) cB 1 ?_
      refine sls_nil (T := 4) cL 1 ?_
      exact E_same (by repeat (first | exact Same.refl | (refine Same.cons (by repeat (first | exact Find.here | apply Find.there)) ?_) | (refine Same.drop ?_))) (hq ({ op0 with d := (5 : Nat), name := x0, gen := x1 }, s3, (.slice none 0 0), (.slice none 0 0)) ⟨by rw [ea]; simp [h0, h1], inferInstance, inferInstance, hl1⟩)
    · -- 6
      have ea : argsP 6 s1 = ((nameP s1).bind fun p0 => (numP p0.2).bind fun p1 => (numP p1.2).bind fun p2 => (numP p2.2).map fun p3 => ({ op0 with d := (6 : Nat), name := p0.1, gen := p1.1, from_ := p2.1, size := p3.1 }, p3.2)) := rfl
      rw [ea] at bad
      (repeat (first | (refine E_join0 ?_) | (first | refine goS ?_ | refine E_box fun _ => ?_ | refine E_fa fun _ => ?_ | refine E_ptfad0 fun _ _ => ?_ | refine E_ptfad fun _ _ => ?_ | refine E_rsix (by assumption) fun _ _ => ?_ | refine E_ifT (by first | assumption | decide) ?_ | refine E_ifF (by first | assumption | decide) ?_ | refine E_gdT (by first | assumption | decide) ?_ | refine E_gdF (by first | assumption | decide) ?_ | refine E_gdnT (by first | assumption | decide) ?_ | refine E_gdnF (by first | assumption | decide) ?_ | refine E_pickT (by first | assumption | decide) ?_ | refine E_pickF (by first | assumption | decide) ?_ | refine E_ixN (by omega) ?_ | refine E_ld' (by assumption) ?_ | refine E_addI (by omega) (by omega) ?_ | refine E_subI (by omega) (by omega) ?_ | refine E_mulI (by omega) (by omega) ?_)))
      refine E_find (a := rdg r s1) (by repeat (first | exact Find.here | apply Find.there)) ?_
      refine nameS hl (fun x0 s2 h0 _ hl0 => ?_) fun hn => E_drop (E_drop (bad (by simp [hn])))
      (repeat (first | (refine E_join0 ?_) | (first | refine goS ?_ | refine E_box fun _ => ?_ | refine E_fa fun _ => ?_ | refine E_ptfad0 fun _ _ => ?_ | refine E_ptfad fun _ _ => ?_ | refine E_rsix (by assumption) fun _ _ => ?_ | refine E_ifT (by first | assumption | decide) ?_ | refine E_ifF (by first | assumption | decide) ?_ | refine E_gdT (by first | assumption | decide) ?_ | refine E_gdF (by first | assumption | decide) ?_ | refine E_gdnT (by first | assumption | decide) ?_ | refine E_gdnF (by first | assumption | decide) ?_ | refine E_pickT (by first | assumption | decide) ?_ | refine E_pickF (by first | assumption | decide) ?_ | refine E_ixN (by omega) ?_ | refine E_ld' (by assumption) ?_ | refine E_addI (by omega) (by omega) ?_ | refine E_subI (by omega) (by omega) ?_ | refine E_mulI (by omega) (by omega) ?_)))
      refine E_find (a := rdg r s2) (by repeat (first | exact Find.here | apply Find.there)) ?_
      refine numS hl0 (fun x1 s3 h1 _ hl1 => ?_) fun hn => E_drop (E_drop (bad (by simp [h0, hn])))
      (repeat (first | (refine E_join0 ?_) | (first | refine goS ?_ | refine E_box fun _ => ?_ | refine E_fa fun _ => ?_ | refine E_ptfad0 fun _ _ => ?_ | refine E_ptfad fun _ _ => ?_ | refine E_rsix (by assumption) fun _ _ => ?_ | refine E_ifT (by first | assumption | decide) ?_ | refine E_ifF (by first | assumption | decide) ?_ | refine E_gdT (by first | assumption | decide) ?_ | refine E_gdF (by first | assumption | decide) ?_ | refine E_gdnT (by first | assumption | decide) ?_ | refine E_gdnF (by first | assumption | decide) ?_ | refine E_pickT (by first | assumption | decide) ?_ | refine E_pickF (by first | assumption | decide) ?_ | refine E_ixN (by omega) ?_ | refine E_ld' (by assumption) ?_ | refine E_addI (by omega) (by omega) ?_ | refine E_subI (by omega) (by omega) ?_ | refine E_mulI (by omega) (by omega) ?_)))
      refine E_find (a := rdg r s3) (by repeat (first | exact Find.here | apply Find.there)) ?_
      refine numS hl1 (fun x2 s4 h2 _ hl2 => ?_) fun hn => E_drop (E_drop (bad (by simp [h0, h1, hn])))
      (repeat (first | (refine E_join0 ?_) | (first | refine goS ?_ | refine E_box fun _ => ?_ | refine E_fa fun _ => ?_ | refine E_ptfad0 fun _ _ => ?_ | refine E_ptfad fun _ _ => ?_ | refine E_rsix (by assumption) fun _ _ => ?_ | refine E_ifT (by first | assumption | decide) ?_ | refine E_ifF (by first | assumption | decide) ?_ | refine E_gdT (by first | assumption | decide) ?_ | refine E_gdF (by first | assumption | decide) ?_ | refine E_gdnT (by first | assumption | decide) ?_ | refine E_gdnF (by first | assumption | decide) ?_ | refine E_pickT (by first | assumption | decide) ?_ | refine E_pickF (by first | assumption | decide) ?_ | refine E_ixN (by omega) ?_ | refine E_ld' (by assumption) ?_ | refine E_addI (by omega) (by omega) ?_ | refine E_subI (by omega) (by omega) ?_ | refine E_mulI (by omega) (by omega) ?_)))
      refine E_find (a := rdg r s4) (by repeat (first | exact Find.here | apply Find.there)) ?_
      refine numS hl2 (fun x3 s5 h3 _ hl3 => ?_) fun hn => E_drop (E_drop (bad (by simp [h0, h1, h2, hn])))
      (repeat (first | (refine E_join0 ?_) | (first | refine goS ?_ | refine E_box fun _ => ?_ | refine E_fa fun _ => ?_ | refine E_ptfad0 fun _ _ => ?_ | refine E_ptfad fun _ _ => ?_ | refine E_rsix (by assumption) fun _ _ => ?_ | refine E_ifT (by first | assumption | decide) ?_ | refine E_ifF (by first | assumption | decide) ?_ | refine E_gdT (by first | assumption | decide) ?_ | refine E_gdF (by first | assumption | decide) ?_ | refine E_gdnT (by first | assumption | decide) ?_ | refine E_gdnF (by first | assumption | decide) ?_ | refine E_pickT (by first | assumption | decide) ?_ | refine E_pickF (by first | assumption | decide) ?_ | refine E_ixN (by omega) ?_ | refine E_ld' (by assumption) ?_ | refine E_addI (by omega) (by omega) ?_ | refine E_subI (by omega) (by omega) ?_ | refine E_mulI (by omega) (by omega) ?_)))
      refine sls_nil (T := 5) cB 1 ?_
      refine sls_nil (T := 4) cL 1 ?_
      exact E_same (by repeat (first | exact Same.refl | (refine Same.cons (by repeat (first | exact Find.here | apply Find.there)) ?_) | (refine Same.drop ?_))) (hq ({ op0 with d := (6 : Nat), name := x0, gen := x1, from_ := x2, size := x3 }, s5, (.slice none 0 0), (.slice none 0 0)) ⟨by rw [ea]; simp [h0, h1, h2, h3], inferInstance, inferInstance, hl3⟩)
    · -- 7
      have ea : argsP 7 s1 = ((nameP s1).bind fun p0 => (nameP p0.2).map fun p1 => ({ op0 with d := (7 : Nat), shot := p0.1, name := p1.1 }, p1.2)) := rfl
      rw [ea] at bad
      (repeat (first | (refine E_join0 ?_) | (first | refine goS ?_ | refine E_box fun _ => ?_ | refine E_fa fun _ => ?_ | refine E_ptfad0 fun _ _ => ?_ | refine E_ptfad fun _ _ => ?_ | refine E_rsix (by assumption) fun _ _ => ?_ | refine E_ifT (by first | assumption | decide) ?_ | refine E_ifF (by first | assumption | decide) ?_ | refine E_gdT (by first | assumption | decide) ?_ | refine E_gdF (by first | assumption | decide) ?_ | refine E_gdnT (by first | assumption | decide) ?_ | refine E_gdnF (by first | assumption | decide) ?_ | refine E_pickT (by first | assumption | decide) ?_ | refine E_pickF (by first | assumption | decide) ?_ | refine E_ixN (by omega) ?_ | refine E_ld' (by assumption) ?_ | refine E_addI (by omega) (by omega) ?_ | refine E_subI (by omega) (by omega) ?_ | refine E_mulI (by omega) (by omega) ?_)))
      refine E_find (a := rdg r s1) (by repeat (first | exact Find.here | apply Find.there)) ?_
      refine nameS hl (fun x0 s2 h0 _ hl0 => ?_) fun hn => E_drop (E_drop (bad (by simp [hn])))
      (repeat (first | (refine E_join0 ?_) | (first | refine goS ?_ | refine E_box fun _ => ?_ | refine E_fa fun _ => ?_ | refine E_ptfad0 fun _ _ => ?_ | refine E_ptfad fun _ _ => ?_ | refine E_rsix (by assumption) fun _ _ => ?_ | refine E_ifT (by first | assumption | decide) ?_ | refine E_ifF (by first | assumption | decide) ?_ | refine E_gdT (by first | assumption | decide) ?_ | refine E_gdF (by first | assumption | decide) ?_ | refine E_gdnT (by first | assumption | decide) ?_ | refine E_gdnF (by first | assumption | decide) ?_ | refine E_pickT (by first | assumption | decide) ?_ | refine E_pickF (by first | assumption | decide) ?_ | refine E_ixN (by omega) ?_ | refine E_ld' (by assumption) ?_ | refine E_addI (by omega) (by omega) ?_ | refine E_subI (by omega) (by omega) ?_ | refine E_mulI (by omega) (by omega) ?_)))
      refine E_find (a := rdg r s2) (by repeat (first | exact Find.here | apply Find.there)) ?_
      refine nameS hl0 (fun x1 s3 h1 _ hl1 => ?_) fun hn => E_drop (E_drop (bad (by simp [h0, hn])))
      (repeat (first | (refine E_join0 ?_) | (first | refine goS ?_ | refine E_box fun _ => ?_ | refine E_fa fun _ => ?_ | refine E_ptfad0 fun _ _ => ?_ | refine E_ptfad fun _ _ => ?_ | refine E_rsix (by assumption) fun _ _ => ?_ | refine E_ifT (by first | assumption | decide) ?_ | refine E_ifF (by first | assumption | decide) ?_ | refine E_gdT (by first | assumption | decide) ?_ | refine E_gdF (by first | assumption | decide) ?_ | refine E_gdnT (by first | assumption | decide) ?_ | refine E_gdnF (by first | assumption | decide) ?_ | refine E_pickT (by first | assumption | decide) ?_ | refine E_pickF (by first | assumption | decide) ?_ | refine E_ixN (by omega) ?_ | refine E_ld' (by assumption) ?_ | refine E_addI (by omega) (by omega) ?_ | refine E_subI (by omega) (by omega) ?_ | refine E_mulI (by omega) (by omega) ?_)))
      refine sls_nil (T := 5) cB 1 ?_
      refine sls_nil (T := 4) cL 1 ?_
      exact E_same (by repeat (first | exact Same.refl | (refine Same.cons (by repeat (first | exact Find.here | apply Find.there)) ?_) | (refine Same.drop ?_))) (hq ({ op0 with d := (7 : Nat), shot := x0, name := x1 }, s3, (.slice none 0 0), (.slice none 0 0)) ⟨by rw [ea]; simp [h0, h1], inferInstance, inferInstance, hl1⟩)
    · -- 8
      have ea : argsP 8 s1 = ((nameP s1).bind fun p0 => (numP p0.2).map fun p1 => ({ op0 with d := (8 : Nat), name := p0.1, gen := p1.1 }, p1.2)) := rfl
      rw [ea] at bad
      (repeat (first | (refine E_join0 ?_) | (first | refine goS ?_ | refine E_box fun _ => ?_ | refine E_fa fun _ => ?_ | refine E_ptfad0 fun _ _ => ?_ | refine E_ptfad fun _ _ => ?_ | refine E_rsix (by assumption) fun _ _ => ?_ | refine E_ifT (by first | assumption | decide) ?_ | refine E_ifF (by first | assumption | decide) ?_ | refine E_gdT (by first | assumption | decide) ?_ | refine E_gdF (by first | assumption | decide) ?_ | refine E_gdnT (by first | assumption | decide) ?_ | refine E_gdnF (by first | assumption | decide) ?_ | refine E_pickT (by first | assumption | decide) ?_ | refine E_pickF (by first | assumption | decide) ?_ | refine E_ixN (by omega) ?_ | refine E_ld' (by assumption) ?_ | refine E_addI (by omega) (by omega) ?_ | refine E_subI (by omega) (by omega) ?_ | refine E_mulI (by omega) (by omega) ?_)))
      refine E_find (a := rdg r s1) (by repeat (first | exact Find.here | apply Find.there)) ?_
      refine nameS hl (fun x0 s2 h0 _ hl0 => ?_) fun hn => E_drop (E_drop (bad (by simp [hn])))
      (repeat (first | (refine E_join0 ?_) | (first | refine goS ?_ | refine E_box fun _ => ?_ | refine E_fa fun _ => ?_ | refine E_ptfad0 fun _ _ => ?_ | refine E_ptfad fun _ _ => ?_ | refine E_rsix (by assumption) fun _ _ => ?_ | refine E_ifT (by first | assumption | decide) ?_ | refine E_ifF (by first | assumption | decide) ?_ | refine E_gdT (by first | assumption | decide) ?_ | refine E_gdF (by first | assumption | decide) ?_ | refine E_gdnT (by first | assumption | decide) ?_ | refine E_gdnF (by first | assumption | decide) ?_ | refine E_pickT (by first | assumption | decide) ?_ | refine E_pickF (by first | assumption | decide) ?_ | refine E_ixN (by omega) ?_ | refine E_ld' (by assumption) ?_ | refine E_addI (by omega) (by omega) ?_ | refine E_subI (by omega) (by omega) ?_ | refine E_mulI (by omega) (by omega) ?_)))
      refine E_find (a := rdg r s2) (by repeat (first | exact Find.here | apply Find.there)) ?_
      refine numS hl0 (fun x1 s3 h1 _ hl1 => ?_) fun hn => E_drop (E_drop (bad (by simp [h0, hn])))
      (repeat (first | (refine E_join0 ?_) | (first | refine goS ?_ | refine E_box fun _ => ?_ | refine E_fa fun _ => ?_ | refine E_ptfad0 fun _ _ => ?_ | refine E_ptfad fun _ _ => ?_ | refine E_rsix (by assumption) fun _ _ => ?_ | refine E_ifT (by first | assumption | decide) ?_ | refine E_ifF (by first | assumption | decide) ?_ | refine E_gdT (by first | assumption | decide) ?_ | refine E_gdF (by first | assumption | decide) ?_ | refine E_gdnT (by first | assumption | decide) ?_ | refine E_gdnF (by first | assumption | decide) ?_ | refine E_pickT (by first | assumption | decide) ?_ | refine E_pickF (by first | assumption | decide) ?_ | refine E_ixN (by omega) ?_ | refine E_ld' (by assumption) ?_ | refine E_addI (by omega) (by omega) ?_ | refine E_subI (by omega) (by omega) ?_ | refine E_mulI (by omega) (by omega) ?_)))
      refine sls_nil (T := 5) cB 1 ?_
      refine sls_nil (T := 4) cL 1 ?_
      exact E_same (by repeat (first | exact Same.refl | (refine Same.cons (by repeat (first | exact Find.here | apply Find.there)) ?_) | (refine Same.drop ?_))) (hq ({ op0 with d := (8 : Nat), name := x0, gen := x1 }, s3, (.slice none 0 0), (.slice none 0 0)) ⟨by rw [ea]; simp [h0, h1], inferInstance, inferInstance, hl1⟩)
    · -- 9
      have ea : argsP 9 s1 = (some ({ op0 with d := (9 : Nat) }, s1)) := rfl
      rw [ea] at bad
      (repeat (first | (refine E_join0 ?_) | (first | refine goS ?_ | refine E_box fun _ => ?_ | refine E_fa fun _ => ?_ | refine E_ptfad0 fun _ _ => ?_ | refine E_ptfad fun _ _ => ?_ | refine E_rsix (by assumption) fun _ _ => ?_ | refine E_ifT (by first | assumption | decide) ?_ | refine E_ifF (by first | assumption | decide) ?_ | refine E_gdT (by first | assumption | decide) ?_ | refine E_gdF (by first | assumption | decide) ?_ | refine E_gdnT (by first | assumption | decide) ?_ | refine E_gdnF (by first | assumption | decide) ?_ | refine E_pickT (by first | assumption | decide) ?_ | refine E_pickF (by first | assumption | decide) ?_ | refine E_ixN (by omega) ?_ | refine E_ld' (by assumption) ?_ | refine E_addI (by omega) (by omega) ?_ | refine E_subI (by omega) (by omega) ?_ | refine E_mulI (by omega) (by omega) ?_)))
      refine sls_nil (T := 5) cB 1 ?_
      refine sls_nil (T := 4) cL 1 ?_
      exact E_same (by repeat (first | exact Same.refl | (refine Same.cons (by repeat (first | exact Find.here | apply Find.there)) ?_) | (refine Same.drop ?_))) (hq ({ op0 with d := (9 : Nat) }, s1, (.slice none 0 0), (.slice none 0 0)) ⟨by rw [ea], inferInstance, inferInstance, hl⟩)
    · -- 10
      have ea : argsP 10 s1 = ((nameP s1).bind fun p0 => (numP p0.2).map fun p1 => ({ op0 with d := (10 : Nat), name := p0.1, gen := p1.1 }, p1.2)) := rfl
      rw [ea] at bad
      (repeat (first | (refine E_join0 ?_) | (first | refine goS ?_ | refine E_box fun _ => ?_ | refine E_fa fun _ => ?_ | refine E_ptfad0 fun _ _ => ?_ | refine E_ptfad fun _ _ => ?_ | refine E_rsix (by assumption) fun _ _ => ?_ | refine E_ifT (by first | assumption | decide) ?_ | refine E_ifF (by first | assumption | decide) ?_ | refine E_gdT (by first | assumption | decide) ?_ | refine E_gdF (by first | assumption | decide) ?_ | refine E_gdnT (by first | assumption | decide) ?_ | refine E_gdnF (by first | assumption | decide) ?_ | refine E_pickT (by first | assumption | decide) ?_ | refine E_pickF (by first | assumption | decide) ?_ | refine E_ixN (by omega) ?_ | refine E_ld' (by assumption) ?_ | refine E_addI (by omega) (by omega) ?_ | refine E_subI (by omega) (by omega) ?_ | refine E_mulI (by omega) (by omega) ?_)))
      refine E_find (a := rdg r s1) (by repeat (first | exact Find.here | apply Find.there)) ?_
      refine nameS hl (fun x0 s2 h0 _ hl0 => ?_) fun hn => E_drop (E_drop (bad (by simp [hn])))
      (repeat (first | (refine E_join0 ?_) | (first | refine goS ?_ | refine E_box fun _ => ?_ | refine E_fa fun _ => ?_ | refine E_ptfad0 fun _ _ => ?_ | refine E_ptfad fun _ _ => ?_ | refine E_rsix (by assumption) fun _ _ => ?_ | refine E_ifT (by first | assumption | decide) ?_ | refine E_ifF (by first | assumption | decide) ?_ | refine E_gdT (by first | assumption | decide) ?_ | refine E_gdF (by first | assumption | decide) ?_ | refine E_gdnT (by first | assumption | decide) ?_ | refine E_gdnF (by first | assumption | decide) ?_ | refine E_pickT (by first | assumption | decide) ?_ | refine E_pickF (by first | assumption | decide) ?_ | refine E_ixN (by omega) ?_ | refine E_ld' (by assumption) ?_ | refine E_addI (by omega) (by omega) ?_ | refine E_subI (by omega) (by omega) ?_ | refine E_mulI (by omega) (by omega) ?_)))
      refine E_find (a := rdg r s2) (by repeat (first | exact Find.here | apply Find.there)) ?_
      refine numS hl0 (fun x1 s3 h1 _ hl1 => ?_) fun hn => E_drop (E_drop (bad (by simp [h0, hn])))
      (repeat (first | (refine E_join0 ?_) | (first | refine goS ?_ | refine E_box fun _ => ?_ | refine E_fa fun _ => ?_ | refine E_ptfad0 fun _ _ => ?_ | refine E_ptfad fun _ _ => ?_ | refine E_rsix (by assumption) fun _ _ => ?_ | refine E_ifT (by first | assumption | decide) ?_ | refine E_ifF (by first | assumption | decide) ?_ | refine E_gdT (by first | assumption | decide) ?_ | refine E_gdF (by first | assumption | decide) ?_ | refine E_gdnT (by first | assumption | decide) ?_ | refine E_gdnF (by first | assumption | decide) ?_ | refine E_pickT (by first | assumption | decide) ?_ | refine E_pickF (by first | assumption | decide) ?_ | refine E_ixN (by omega) ?_ | refine E_ld' (by assumption) ?_ | refine E_addI (by omega) (by omega) ?_ | refine E_subI (by omega) (by omega) ?_ | refine E_mulI (by omega) (by omega) ?_)))
      refine sls_nil (T := 5) cB 1 ?_
      refine sls_nil (T := 4) cL 1 ?_
      exact E_same (by repeat (first | exact Same.refl | (refine Same.cons (by repeat (first | exact Find.here | apply Find.there)) ?_) | (refine Same.drop ?_))) (hq ({ op0 with d := (10 : Nat), name := x0, gen := x1 }, s3, (.slice none 0 0), (.slice none 0 0)) ⟨by rw [ea]; simp [h0, h1], inferInstance, inferInstance, hl1⟩)
    · -- 11
      have ea : argsP 11 s1 = ((nameP s1).map fun p0 => ({ op0 with d := (11 : Nat), shot := p0.1 }, p0.2)) := rfl
      rw [ea] at bad
      (repeat (first | (refine E_join0 ?_) | (first | refine goS ?_ | refine E_box fun _ => ?_ | refine E_fa fun _ => ?_ | refine E_ptfad0 fun _ _ => ?_ | refine E_ptfad fun _ _ => ?_ | refine E_rsix (by assumption) fun _ _ => ?_ | refine E_ifT (by first | assumption | decide) ?_ | refine E_ifF (by first | assumption | decide) ?_ | refine E_gdT (by first | assumption | decide) ?_ | refine E_gdF (by first | assumption | decide) ?_ | refine E_gdnT (by first | assumption | decide) ?_ | refine E_gdnF (by first | assumption | decide) ?_ | refine E_pickT (by first | assumption | decide) ?_ | refine E_pickF (by first | assumption | decide) ?_ | refine E_ixN (by omega) ?_ | refine E_ld' (by assumption) ?_ | refine E_addI (by omega) (by omega) ?_ | refine E_subI (by omega) (by omega) ?_ | refine E_mulI (by omega) (by omega) ?_)))
      refine E_find (a := rdg r s1) (by repeat (first | exact Find.here | apply Find.there)) ?_
      refine nameS hl (fun x0 s2 h0 _ hl0 => ?_) fun hn => E_drop (E_drop (bad (by simp [hn])))
      (repeat (first | (refine E_join0 ?_) | (first | refine goS ?_ | refine E_box fun _ => ?_ | refine E_fa fun _ => ?_ | refine E_ptfad0 fun _ _ => ?_ | refine E_ptfad fun _ _ => ?_ | refine E_rsix (by assumption) fun _ _ => ?_ | refine E_ifT (by first | assumption | decide) ?_ | refine E_ifF (by first | assumption | decide) ?_ | refine E_gdT (by first | assumption | decide) ?_ | refine E_gdF (by first | assumption | decide) ?_ | refine E_gdnT (by first | assumption | decide) ?_ | refine E_gdnF (by first | assumption | decide) ?_ | refine E_pickT (by first | assumption | decide) ?_ | refine E_pickF (by first | assumption | decide) ?_ | refine E_ixN (by omega) ?_ | refine E_ld' (by assumption) ?_ | refine E_addI (by omega) (by omega) ?_ | refine E_subI (by omega) (by omega) ?_ | refine E_mulI (by omega) (by omega) ?_)))
      refine sls_nil (T := 5) cB 1 ?_
      refine sls_nil (T := 4) cL 1 ?_
      exact E_same (by repeat (first | exact Same.refl | (refine Same.cons (by repeat (first | exact Find.here | apply Find.there)) ?_) | (refine Same.drop ?_))) (hq ({ op0 with d := (11 : Nat), shot := x0 }, s2, (.slice none 0 0), (.slice none 0 0)) ⟨by rw [ea]; simp [h0], inferInstance, inferInstance, hl0⟩)
    · -- 12
      have ea : argsP 12 s1 = ((nameP s1).map fun p0 => ({ op0 with d := (12 : Nat), shot := p0.1 }, p0.2)) := rfl
      rw [ea] at bad
      (repeat (first | (refine E_join0 ?_) | (first | refine goS ?_ | refine E_box fun _ => ?_ | refine E_fa fun _ => ?_ | refine E_ptfad0 fun _ _ => ?_ | refine E_ptfad fun _ _ => ?_ | refine E_rsix (by assumption) fun _ _ => ?_ | refine E_ifT (by first | assumption | decide) ?_ | refine E_ifF (by first | assumption | decide) ?_ | refine E_gdT (by first | assumption | decide) ?_ | refine E_gdF (by first | assumption | decide) ?_ | refine E_gdnT (by first | assumption | decide) ?_ | refine E_gdnF (by first | assumption | decide) ?_ | refine E_pickT (by first | assumption | decide) ?_ | refine E_pickF (by first | assumption | decide) ?_ | refine E_ixN (by omega) ?_ | refine E_ld' (by assumption) ?_ | refine E_addI (by omega) (by omega) ?_ | refine E_subI (by omega) (by omega) ?_ | refine E_mulI (by omega) (by omega) ?_)))
      refine E_find (a := rdg r s1) (by repeat (first | exact Find.here | apply Find.there)) ?_
      refine nameS hl (fun x0 s2 h0 _ hl0 => ?_) fun hn => E_drop (E_drop (bad (by simp [hn])))
      (repeat (first | (refine E_join0 ?_) | (first | refine goS ?_ | refine E_box fun _ => ?_ | refine E_fa fun _ => ?_ | refine E_ptfad0 fun _ _ => ?_ | refine E_ptfad fun _ _ => ?_ | refine E_rsix (by assumption) fun _ _ => ?_ | refine E_ifT (by first | assumption | decide) ?_ | refine E_ifF (by first | assumption | decide) ?_ | refine E_gdT (by first | assumption | decide) ?_ | refine E_gdF (by first | assumption | decide) ?_ | refine E_gdnT (by first | assumption | decide) ?_ | refine E_gdnF (by first | assumption | decide) ?_ | refine E_pickT (by first | assumption | decide) ?_ | refine E_pickF (by first | assumption | decide) ?_ | refine E_ixN (by omega) ?_ | refine E_ld' (by assumption) ?_ | refine E_addI (by omega) (by omega) ?_ | refine E_subI (by omega) (by omega) ?_ | refine E_mulI (by omega) (by omega) ?_)))
      refine sls_nil (T := 5) cB 1 ?_
      refine sls_nil (T := 4) cL 1 ?_
      exact E_same (by repeat (first | exact Same.refl | (refine Same.cons (by repeat (first | exact Find.here | apply Find.there)) ?_) | (refine Same.drop ?_))) (hq ({ op0 with d := (12 : Nat), shot := x0 }, s2, (.slice none 0 0), (.slice none 0 0)) ⟨by rw [ea]; simp [h0], inferInstance, inferInstance, hl0⟩)
    · -- 13
      have ea : argsP 13 s1 = ((numP s1).map fun p0 => ({ op0 with d := (13 : Nat), n := p0.1 }, p0.2)) := rfl
      rw [ea] at bad
      (repeat (first | (refine E_join0 ?_) | (first | refine goS ?_ | refine E_box fun _ => ?_ | refine E_fa fun _ => ?_ | refine E_ptfad0 fun _ _ => ?_ | refine E_ptfad fun _ _ => ?_ | refine E_rsix (by assumption) fun _ _ => ?_ | refine E_ifT (by first | assumption | decide) ?_ | refine E_ifF (by first | assumption | decide) ?_ | refine E_gdT (by first | assumption | decide) ?_ | refine E_gdF (by first | assumption | decide) ?_ | refine E_gdnT (by first | assumption | decide) ?_ | refine E_gdnF (by first | assumption | decide) ?_ | refine E_pickT (by first | assumption | decide) ?_ | refine E_pickF (by first | assumption | decide) ?_ | refine E_ixN (by omega) ?_ | refine E_ld' (by assumption) ?_ | refine E_addI (by omega) (by omega) ?_ | refine E_subI (by omega) (by omega) ?_ | refine E_mulI (by omega) (by omega) ?_)))
      refine E_find (a := rdg r s1) (by repeat (first | exact Find.here | apply Find.there)) ?_
      refine numS hl (fun x0 s2 h0 _ hl0 => ?_) fun hn => E_drop (E_drop (bad (by simp [hn])))
      (repeat (first | (refine E_join0 ?_) | (first | refine goS ?_ | refine E_box fun _ => ?_ | refine E_fa fun _ => ?_ | refine E_ptfad0 fun _ _ => ?_ | refine E_ptfad fun _ _ => ?_ | refine E_rsix (by assumption) fun _ _ => ?_ | refine E_ifT (by first | assumption | decide) ?_ | refine E_ifF (by first | assumption | decide) ?_ | refine E_gdT (by first | assumption | decide) ?_ | refine E_gdF (by first | assumption | decide) ?_ | refine E_gdnT (by first | assumption | decide) ?_ | refine E_gdnF (by first | assumption | decide) ?_ | refine E_pickT (by first | assumption | decide) ?_ | refine E_pickF (by first | assumption | decide) ?_ | refine E_ixN (by omega) ?_ | refine E_ld' (by assumption) ?_ | refine E_addI (by omega) (by omega) ?_ | refine E_subI (by omega) (by omega) ?_ | refine E_mulI (by omega) (by omega) ?_)))
      refine sls_nil (T := 5) cB 1 ?_
      refine sls_nil (T := 4) cL 1 ?_
      exact E_same (by repeat (first | exact Same.refl | (refine Same.cons (by repeat (first | exact Find.here | apply Find.there)) ?_) | (refine Same.drop ?_))) (hq ({ op0 with d := (13 : Nat), n := x0 }, s2, (.slice none 0 0), (.slice none 0 0)) ⟨by rw [ea]; simp [h0], inferInstance, inferInstance, hl0⟩)
    · -- 14
      have ea : argsP 14 s1 = ((numP s1).bind fun p0 => (numP p0.2).bind fun p1 => (numP p1.2).bind fun p2 => (numP p2.2).map fun p3 => ({ op0 with d := (14 : Nat), last := p0.1, young := p1.1, step := p2.1, count := p3.1 }, p3.2)) := rfl
      rw [ea] at bad
      (repeat (first | (refine E_join0 ?_) | (first | refine goS ?_ | refine E_box fun _ => ?_ | refine E_fa fun _ => ?_ | refine E_ptfad0 fun _ _ => ?_ | refine E_ptfad fun _ _ => ?_ | refine E_rsix (by assumption) fun _ _ => ?_ | refine E_ifT (by first | assumption | decide) ?_ | refine E_ifF (by first | assumption | decide) ?_ | refine E_gdT (by first | assumption | decide) ?_ | refine E_gdF (by first | assumption | decide) ?_ | refine E_gdnT (by first | assumption | decide) ?_ | refine E_gdnF (by first | assumption | decide) ?_ | refine E_pickT (by first | assumption | decide) ?_ | refine E_pickF (by first | assumption | decide) ?_ | refine E_ixN (by omega) ?_ | refine E_ld' (by assumption) ?_ | refine E_addI (by omega) (by omega) ?_ | refine E_subI (by omega) (by omega) ?_ | refine E_mulI (by omega) (by omega) ?_)))
      refine E_find (a := rdg r s1) (by repeat (first | exact Find.here | apply Find.there)) ?_
      refine numS hl (fun x0 s2 h0 _ hl0 => ?_) fun hn => E_drop (E_drop (bad (by simp [hn])))
      (repeat (first | (refine E_join0 ?_) | (first | refine goS ?_ | refine E_box fun _ => ?_ | refine E_fa fun _ => ?_ | refine E_ptfad0 fun _ _ => ?_ | refine E_ptfad fun _ _ => ?_ | refine E_rsix (by assumption) fun _ _ => ?_ | refine E_ifT (by first | assumption | decide) ?_ | refine E_ifF (by first | assumption | decide) ?_ | refine E_gdT (by first | assumption | decide) ?_ | refine E_gdF (by first | assumption | decide) ?_ | refine E_gdnT (by first | assumption | decide) ?_ | refine E_gdnF (by first | assumption | decide) ?_ | refine E_pickT (by first | assumption | decide) ?_ | refine E_pickF (by first | assumption | decide) ?_ | refine E_ixN (by omega) ?_ | refine E_ld' (by assumption) ?_ | refine E_addI (by omega) (by omega) ?_ | refine E_subI (by omega) (by omega) ?_ | refine E_mulI (by omega) (by omega) ?_)))
      refine E_find (a := rdg r s2) (by repeat (first | exact Find.here | apply Find.there)) ?_
      refine numS hl0 (fun x1 s3 h1 _ hl1 => ?_) fun hn => E_drop (E_drop (bad (by simp [h0, hn])))
      (repeat (first | (refine E_join0 ?_) | (first | refine goS ?_ | refine E_box fun _ => ?_ | refine E_fa fun _ => ?_ | refine E_ptfad0 fun _ _ => ?_ | refine E_ptfad fun _ _ => ?_ | refine E_rsix (by assumption) fun _ _ => ?_ | refine E_ifT (by first | assumption | decide) ?_ | refine E_ifF (by first | assumption | decide) ?_ | refine E_gdT (by first | assumption | decide) ?_ | refine E_gdF (by first | assumption | decide) ?_ | refine E_gdnT (by first | assumption | decide) ?_ | refine E_gdnF (by first | assumption | decide) ?_ | refine E_pickT (by first | assumption | decide) ?_ | refine E_pickF (by first | assumption | decide) ?_ | refine E_ixN (by omega) ?_ | refine E_ld' (by assumption) ?_ | refine E_addI (by omega) (by omega) ?_ | refine E_subI (by omega) (by omega) ?_ | refine E_mulI (by omega) (by omega) ?_)))
      refine E_find (a := rdg r s3) (by repeat (first | exact Find.here | apply Find.there)) ?_
      refine numS hl1 (fun x2 s4 h2 _ hl2 => ?_) fun hn => E_drop (E_drop (bad (by simp [h0, h1, hn])))
      (repeat (first | (refine E_join0 ?_) | (first | refine goS ?_ | refine E_box fun _ => ?_ | refine E_fa fun _ => ?_ | refine E_ptfad0 fun _ _ => ?_ | refine E_ptfad fun _ _ => ?_ | refine E_rsix (by assumption) fun _ _ => ?_ | refine E_ifT (by first | assumption | decide) ?_ | refine E_ifF (by first | assumption | decide) ?_ | refine E_gdT (by first | assumption | decide) ?_ | refine E_gdF (by first | assumption | decide) ?_ | refine E_gdnT (by first | assumption | decide) ?_ | refine E_gdnF (by first | assumption | decide) ?_ | refine E_pickT (by first | assumption | decide) ?_ | refine E_pickF (by first | assumption | decide) ?_ | refine E_ixN (by omega) ?_ | refine E_ld' (by assumption) ?_ | refine E_addI (by omega) (by omega) ?_ | refine E_subI (by omega) (by omega) ?_ | refine E_mulI (by omega) (by omega) ?_)))
      refine E_find (a := rdg r s4) (by repeat (first | exact Find.here | apply Find.there)) ?_
      refine numS hl2 (fun x3 s5 h3 _ hl3 => ?_) fun hn => E_drop (E_drop (bad (by simp [h0, h1, h2, hn])))
      refine E_build (l := [I x0, I x1, I x2, I x3]) str_keep ?_
      (repeat (first | (refine E_join0 ?_) | (first | refine goS ?_ | refine E_box fun _ => ?_ | refine E_fa fun _ => ?_ | refine E_ptfad0 fun _ _ => ?_ | refine E_ptfad fun _ _ => ?_ | refine E_rsix (by assumption) fun _ _ => ?_ | refine E_ifT (by first | assumption | decide) ?_ | refine E_ifF (by first | assumption | decide) ?_ | refine E_gdT (by first | assumption | decide) ?_ | refine E_gdF (by first | assumption | decide) ?_ | refine E_gdnT (by first | assumption | decide) ?_ | refine E_gdnF (by first | assumption | decide) ?_ | refine E_pickT (by first | assumption | decide) ?_ | refine E_pickF (by first | assumption | decide) ?_ | refine E_ixN (by omega) ?_ | refine E_ld' (by assumption) ?_ | refine E_addI (by omega) (by omega) ?_ | refine E_subI (by omega) (by omega) ?_ | refine E_mulI (by omega) (by omega) ?_)))
      refine sls_nil (T := 5) cB 1 ?_
      refine sls_nil (T := 4) cL 1 ?_
      exact E_same (by repeat (first | exact Same.refl | (refine Same.cons (by repeat (first | exact Find.here | apply Find.there)) ?_) | (refine Same.drop ?_))) (hq ({ op0 with d := (14 : Nat), last := x0, young := x1, step := x2, count := x3 }, s5, (.slice none 0 0), (.slice none 0 0)) ⟨by rw [ea]; simp [h0, h1, h2, h3], inferInstance, inferInstance, hl3⟩)
    · -- 15
      have ea : argsP 15 s1 = ((numP s1).map fun p0 => ({ op0 with d := (15 : Nat), n := p0.1 }, p0.2)) := rfl
      rw [ea] at bad
      (repeat (first | (refine E_join0 ?_) | (first | refine goS ?_ | refine E_box fun _ => ?_ | refine E_fa fun _ => ?_ | refine E_ptfad0 fun _ _ => ?_ | refine E_ptfad fun _ _ => ?_ | refine E_rsix (by assumption) fun _ _ => ?_ | refine E_ifT (by first | assumption | decide) ?_ | refine E_ifF (by first | assumption | decide) ?_ | refine E_gdT (by first | assumption | decide) ?_ | refine E_gdF (by first | assumption | decide) ?_ | refine E_gdnT (by first | assumption | decide) ?_ | refine E_gdnF (by first | assumption | decide) ?_ | refine E_pickT (by first | assumption | decide) ?_ | refine E_pickF (by first | assumption | decide) ?_ | refine E_ixN (by omega) ?_ | refine E_ld' (by assumption) ?_ | refine E_addI (by omega) (by omega) ?_ | refine E_subI (by omega) (by omega) ?_ | refine E_mulI (by omega) (by omega) ?_)))
      refine E_find (a := rdg r s1) (by repeat (first | exact Find.here | apply Find.there)) ?_
      refine numS hl (fun x0 s2 h0 _ hl0 => ?_) fun hn => E_drop (E_drop (bad (by simp [hn])))
      (repeat (first | (refine E_join0 ?_) | (first | refine goS ?_ | refine E_box fun _ => ?_ | refine E_fa fun _ => ?_ | refine E_ptfad0 fun _ _ => ?_ | refine E_ptfad fun _ _ => ?_ | refine E_rsix (by assumption) fun _ _ => ?_ | refine E_ifT (by first | assumption | decide) ?_ | refine E_ifF (by first | assumption | decide) ?_ | refine E_gdT (by first | assumption | decide) ?_ | refine E_gdF (by first | assumption | decide) ?_ | refine E_gdnT (by first | assumption | decide) ?_ | refine E_gdnF (by first | assumption | decide) ?_ | refine E_pickT (by first | assumption | decide) ?_ | refine E_pickF (by first | assumption | decide) ?_ | refine E_ixN (by omega) ?_ | refine E_ld' (by assumption) ?_ | refine E_addI (by omega) (by omega) ?_ | refine E_subI (by omega) (by omega) ?_ | refine E_mulI (by omega) (by omega) ?_)))
      refine sls_nil (T := 5) cB 1 ?_
      refine sls_nil (T := 4) cL 1 ?_
      exact E_same (by repeat (first | exact Same.refl | (refine Same.cons (by repeat (first | exact Find.here | apply Find.there)) ?_) | (refine Same.drop ?_))) (hq ({ op0 with d := (15 : Nat), n := x0 }, s2, (.slice none 0 0), (.slice none 0 0)) ⟨by rw [ea]; simp [h0], inferInstance, inferInstance, hl0⟩)
    · -- 16
      have ea : argsP 16 s1 = (some ({ op0 with d := (16 : Nat) }, s1)) := rfl
      rw [ea] at bad
      (repeat (first | (refine E_join0 ?_) | (first | refine goS ?_ | refine E_box fun _ => ?_ | refine E_fa fun _ => ?_ | refine E_ptfad0 fun _ _ => ?_ | refine E_ptfad fun _ _ => ?_ | refine E_rsix (by assumption) fun _ _ => ?_ | refine E_ifT (by first | assumption | decide) ?_ | refine E_ifF (by first | assumption | decide) ?_ | refine E_gdT (by first | assumption | decide) ?_ | refine E_gdF (by first | assumption | decide) ?_ | refine E_gdnT (by first | assumption | decide) ?_ | refine E_gdnF (by first | assumption | decide) ?_ | refine E_pickT (by first | assumption | decide) ?_ | refine E_pickF (by first | assumption | decide) ?_ | refine E_ixN (by omega) ?_ | refine E_ld' (by assumption) ?_ | refine E_addI (by omega) (by omega) ?_ | refine E_subI (by omega) (by omega) ?_ | refine E_mulI (by omega) (by omega) ?_)))
      refine sls_nil (T := 5) cB 1 ?_
      refine sls_nil (T := 4) cL 1 ?_
      exact E_same (by repeat (first | exact Same.refl | (refine Same.cons (by repeat (first | exact Find.here | apply Find.there)) ?_) | (refine Same.drop ?_))) (hq ({ op0 with d := (16 : Nat) }, s1, (.slice none 0 0), (.slice none 0 0)) ⟨by rw [ea], inferInstance, inferInstance, hl⟩)
    · -- 17
      have ea : argsP 17 s1 = (some ({ op0 with d := (17 : Nat) }, s1)) := rfl
      rw [ea] at bad
      (repeat (first | (refine E_join0 ?_) | (first | refine goS ?_ | refine E_box fun _ => ?_ | refine E_fa fun _ => ?_ | refine E_ptfad0 fun _ _ => ?_ | refine E_ptfad fun _ _ => ?_ | refine E_rsix (by assumption) fun _ _ => ?_ | refine E_ifT (by first | assumption | decide) ?_ | refine E_ifF (by first | assumption | decide) ?_ | refine E_gdT (by first | assumption | decide) ?_ | refine E_gdF (by first | assumption | decide) ?_ | refine E_gdnT (by first | assumption | decide) ?_ | refine E_gdnF (by first | assumption | decide) ?_ | refine E_pickT (by first | assumption | decide) ?_ | refine E_pickF (by first | assumption | decide) ?_ | refine E_ixN (by omega) ?_ | refine E_ld' (by assumption) ?_ | refine E_addI (by omega) (by omega) ?_ | refine E_subI (by omega) (by omega) ?_ | refine E_mulI (by omega) (by omega) ?_)))
      refine sls_nil (T := 5) cB 1 ?_
      refine sls_nil (T := 4) cL 1 ?_
      exact E_same (by repeat (first | exact Same.refl | (refine Same.cons (by repeat (first | exact Find.here | apply Find.there)) ?_) | (refine Same.drop ?_))) (hq ({ op0 with d := (17 : Nat) }, s1, (.slice none 0 0), (.slice none 0 0)) ⟨by rw [ea], inferInstance, inferInstance, hl⟩)
    · -- 18
      have ea : argsP 18 s1 = ((numP s1).map fun p0 => ({ op0 with d := (18 : Nat), n := p0.1 }, p0.2)) := rfl
      rw [ea] at bad
      (repeat (first | (refine E_join0 ?_) | (first | refine goS ?_ | refine E_box fun _ => ?_ | refine E_fa fun _ => ?_ | refine E_ptfad0 fun _ _ => ?_ | refine E_ptfad fun _ _ => ?_ | refine E_rsix (by assumption) fun _ _ => ?_ | refine E_ifT (by first | assumption | decide) ?_ | refine E_ifF (by first | assumption | decide) ?_ | refine E_gdT (by first | assumption | decide) ?_ | refine E_gdF (by first | assumption | decide) ?_ | refine E_gdnT (by first | assumption | decide) ?_ | refine E_gdnF (by first | assumption | decide) ?_ | refine E_pickT (by first | assumption | decide) ?_ | refine E_pickF (by first | assumption | decide) ?_ | refine E_ixN (by omega) ?_ | refine E_ld' (by assumption) ?_ | refine E_addI (by omega) (by omega) ?_ | refine E_subI (by omega) (by omega) ?_ | refine E_mulI (by omega) (by omega) ?_)))
      refine E_find (a := rdg r s1) (by repeat (first | exact Find.here | apply Find.there)) ?_
      refine numS hl (fun x0 s2 h0 _ hl0 => ?_) fun hn => E_drop (E_drop (bad (by simp [hn])))
      (repeat (first | (refine E_join0 ?_) | (first | refine goS ?_ | refine E_box fun _ => ?_ | refine E_fa fun _ => ?_ | refine E_ptfad0 fun _ _ => ?_ | refine E_ptfad fun _ _ => ?_ | refine E_rsix (by assumption) fun _ _ => ?_ | refine E_ifT (by first | assumption | decide) ?_ | refine E_ifF (by first | assumption | decide) ?_ | refine E_gdT (by first | assumption | decide) ?_ | refine E_gdF (by first | assumption | decide) ?_ | refine E_gdnT (by first | assumption | decide) ?_ | refine E_gdnF (by first | assumption | decide) ?_ | refine E_pickT (by first | assumption | decide) ?_ | refine E_pickF (by first | assumption | decide) ?_ | refine E_ixN (by omega) ?_ | refine E_ld' (by assumption) ?_ | refine E_addI (by omega) (by omega) ?_ | refine E_subI (by omega) (by omega) ?_ | refine E_mulI (by omega) (by omega) ?_)))
      refine sls_nil (T := 5) cB 1 ?_
      refine sls_nil (T := 4) cL 1 ?_
      exact E_same (by repeat (first | exact Same.refl | (refine Same.cons (by repeat (first | exact Find.here | apply Find.there)) ?_) | (refine Same.drop ?_))) (hq ({ op0 with d := (18 : Nat), n := x0 }, s2, (.slice none 0 0), (.slice none 0 0)) ⟨by rw [ea]; simp [h0], inferInstance, inferInstance, hl0⟩)
    · -- 19
      have ea : argsP 19 s1 = ((crashP s1).map fun p => ({ op0 with d := (19 : Nat), keep := p.1.1, torn := p.1.2.1, at_ := p.1.2.2 }, p.2)) := rfl
      rw [ea] at bad
      (repeat (first | (refine E_join0 ?_) | (first | refine goS ?_ | refine E_box fun _ => ?_ | refine E_fa fun _ => ?_ | refine E_ptfad0 fun _ _ => ?_ | refine E_ptfad fun _ _ => ?_ | refine E_rsix (by assumption) fun _ _ => ?_ | refine E_ifT (by first | assumption | decide) ?_ | refine E_ifF (by first | assumption | decide) ?_ | refine E_gdT (by first | assumption | decide) ?_ | refine E_gdF (by first | assumption | decide) ?_ | refine E_gdnT (by first | assumption | decide) ?_ | refine E_gdnF (by first | assumption | decide) ?_ | refine E_pickT (by first | assumption | decide) ?_ | refine E_pickF (by first | assumption | decide) ?_ | refine E_ixN (by omega) ?_ | refine E_ld' (by assumption) ?_ | refine E_addI (by omega) (by omega) ?_ | refine E_subI (by omega) (by omega) ?_ | refine E_mulI (by omega) (by omega) ?_)))
      refine E_find (a := rdg r s1) (by repeat (first | exact Find.here | apply Find.there)) ?_
      refine crash hl (fun l t a s2 h0 hl0 u _ => ?_) fun hn => E_drop (E_drop (bad (by simp [hn])))
      (repeat (first | (refine E_join0 ?_) | (first | refine goS ?_ | refine E_box fun _ => ?_ | refine E_fa fun _ => ?_ | refine E_ptfad0 fun _ _ => ?_ | refine E_ptfad fun _ _ => ?_ | refine E_rsix (by assumption) fun _ _ => ?_ | refine E_ifT (by first | assumption | decide) ?_ | refine E_ifF (by first | assumption | decide) ?_ | refine E_gdT (by first | assumption | decide) ?_ | refine E_gdF (by first | assumption | decide) ?_ | refine E_gdnT (by first | assumption | decide) ?_ | refine E_gdnF (by first | assumption | decide) ?_ | refine E_pickT (by first | assumption | decide) ?_ | refine E_pickF (by first | assumption | decide) ?_ | refine E_ixN (by omega) ?_ | refine E_ld' (by assumption) ?_ | refine E_addI (by omega) (by omega) ?_ | refine E_subI (by omega) (by omega) ?_ | refine E_mulI (by omega) (by omega) ?_)))
      refine sls_nil (T := 5) cB 1 ?_
      exact E_same (by repeat (first | exact Same.refl | (refine Same.cons (by repeat (first | exact Find.here | apply Find.there)) ?_) | (refine Same.drop ?_))) (hq ({ op0 with d := (19 : Nat), keep := l, torn := t, at_ := a }, s2, (.slice none 0 0), u) ⟨by rw [ea]; simp [h0], inferInstance, inferInstance, hl0⟩)
    · -- 20
      have ea : argsP 20 s1 = (some ({ op0 with d := (20 : Nat) }, s1)) := rfl
      rw [ea] at bad
      (repeat (first | (refine E_join0 ?_) | (first | refine goS ?_ | refine E_box fun _ => ?_ | refine E_fa fun _ => ?_ | refine E_ptfad0 fun _ _ => ?_ | refine E_ptfad fun _ _ => ?_ | refine E_rsix (by assumption) fun _ _ => ?_ | refine E_ifT (by first | assumption | decide) ?_ | refine E_ifF (by first | assumption | decide) ?_ | refine E_gdT (by first | assumption | decide) ?_ | refine E_gdF (by first | assumption | decide) ?_ | refine E_gdnT (by first | assumption | decide) ?_ | refine E_gdnF (by first | assumption | decide) ?_ | refine E_pickT (by first | assumption | decide) ?_ | refine E_pickF (by first | assumption | decide) ?_ | refine E_ixN (by omega) ?_ | refine E_ld' (by assumption) ?_ | refine E_addI (by omega) (by omega) ?_ | refine E_subI (by omega) (by omega) ?_ | refine E_mulI (by omega) (by omega) ?_)))
      refine sls_nil (T := 5) cB 1 ?_
      refine sls_nil (T := 4) cL 1 ?_
      exact E_same (by repeat (first | exact Same.refl | (refine Same.cons (by repeat (first | exact Find.here | apply Find.there)) ?_) | (refine Same.drop ?_))) (hq ({ op0 with d := (20 : Nat) }, s1, (.slice none 0 0), (.slice none 0 0)) ⟨by rw [ea], inferInstance, inferInstance, hl⟩)
    · -- 21
      have ea : argsP 21 s1 = ((numP s1).bind fun p0 => (bytesP p0.2).map fun p1 => ({ op0 with d := (21 : Nat), n := p0.1, bytes := p1.1 }, p1.2)) := rfl
      rw [ea] at bad
      (repeat (first | (refine E_join0 ?_) | (first | refine goS ?_ | refine E_box fun _ => ?_ | refine E_fa fun _ => ?_ | refine E_ptfad0 fun _ _ => ?_ | refine E_ptfad fun _ _ => ?_ | refine E_rsix (by assumption) fun _ _ => ?_ | refine E_ifT (by first | assumption | decide) ?_ | refine E_ifF (by first | assumption | decide) ?_ | refine E_gdT (by first | assumption | decide) ?_ | refine E_gdF (by first | assumption | decide) ?_ | refine E_gdnT (by first | assumption | decide) ?_ | refine E_gdnF (by first | assumption | decide) ?_ | refine E_pickT (by first | assumption | decide) ?_ | refine E_pickF (by first | assumption | decide) ?_ | refine E_ixN (by omega) ?_ | refine E_ld' (by assumption) ?_ | refine E_addI (by omega) (by omega) ?_ | refine E_subI (by omega) (by omega) ?_ | refine E_mulI (by omega) (by omega) ?_)))
      refine E_find (a := rdg r s1) (by repeat (first | exact Find.here | apply Find.there)) ?_
      refine numS hl (fun x0 s2 h0 _ hl0 => ?_) fun hn => E_drop (E_drop (bad (by simp [hn])))
      (repeat (first | (refine E_join0 ?_) | (first | refine goS ?_ | refine E_box fun _ => ?_ | refine E_fa fun _ => ?_ | refine E_ptfad0 fun _ _ => ?_ | refine E_ptfad fun _ _ => ?_ | refine E_rsix (by assumption) fun _ _ => ?_ | refine E_ifT (by first | assumption | decide) ?_ | refine E_ifF (by first | assumption | decide) ?_ | refine E_gdT (by first | assumption | decide) ?_ | refine E_gdF (by first | assumption | decide) ?_ | refine E_gdnT (by first | assumption | decide) ?_ | refine E_gdnF (by first | assumption | decide) ?_ | refine E_pickT (by first | assumption | decide) ?_ | refine E_pickF (by first | assumption | decide) ?_ | refine E_ixN (by omega) ?_ | refine E_ld' (by assumption) ?_ | refine E_addI (by omega) (by omega) ?_ | refine E_subI (by omega) (by omega) ?_ | refine E_mulI (by omega) (by omega) ?_)))
      refine E_find (a := rdg r s2) (by repeat (first | exact Find.here | apply Find.there)) ?_
      refine bytesS hl0 (fun x1 s3 h1 hl1 v _ => ?_) fun hn => E_drop (E_drop (bad (by simp [h0, hn])))
      (repeat (first | (refine E_join0 ?_) | (first | refine goS ?_ | refine E_box fun _ => ?_ | refine E_fa fun _ => ?_ | refine E_ptfad0 fun _ _ => ?_ | refine E_ptfad fun _ _ => ?_ | refine E_rsix (by assumption) fun _ _ => ?_ | refine E_ifT (by first | assumption | decide) ?_ | refine E_ifF (by first | assumption | decide) ?_ | refine E_gdT (by first | assumption | decide) ?_ | refine E_gdF (by first | assumption | decide) ?_ | refine E_gdnT (by first | assumption | decide) ?_ | refine E_gdnF (by first | assumption | decide) ?_ | refine E_pickT (by first | assumption | decide) ?_ | refine E_pickF (by first | assumption | decide) ?_ | refine E_ixN (by omega) ?_ | refine E_ld' (by assumption) ?_ | refine E_addI (by omega) (by omega) ?_ | refine E_subI (by omega) (by omega) ?_ | refine E_mulI (by omega) (by omega) ?_)))
      refine sls_nil (T := 4) cL 1 ?_
      exact E_same (by repeat (first | exact Same.refl | (refine Same.cons (by repeat (first | exact Find.here | apply Find.there)) ?_) | (refine Same.drop ?_))) (hq ({ op0 with d := (21 : Nat), n := x0, bytes := x1 }, s3, v, (.slice none 0 0)) ⟨by rw [ea]; simp [h0, h1], inferInstance, inferInstance, hl1⟩)
  rintro ⟨o, s2, v, u⟩ ⟨ha, hcv, hcu, hl2⟩
  simp only at ha hcv hcu hl2
  rw [ha] at hop
  simp only [Option.bind_some] at hop
  refine E_fa fun _ => ?_
  (repeat (first | refine goS ?_ | refine E_box fun _ => ?_ | refine E_fa fun _ => ?_ | refine E_ptfad0 fun _ _ => ?_ | refine E_ptfad fun _ _ => ?_ | refine E_rsix (by assumption) fun _ _ => ?_ | refine E_ifT (by first | assumption | decide) ?_ | refine E_ifF (by first | assumption | decide) ?_ | refine E_gdT (by first | assumption | decide) ?_ | refine E_gdF (by first | assumption | decide) ?_ | refine E_gdnT (by first | assumption | decide) ?_ | refine E_gdnF (by first | assumption | decide) ?_ | refine E_pickT (by first | assumption | decide) ?_ | refine E_pickF (by first | assumption | decide) ?_ | refine E_ixN (by omega) ?_ | refine E_ld' (by assumption) ?_ | refine E_addI (by omega) (by omega) ?_ | refine E_subI (by omega) (by omega) ?_ | refine E_mulI (by omega) (by omega) ?_))
  refine E_notb ?_
  refine must (fun hb => ?_) fun hb => ?_
  · have hb' : s2.2 = false := by simpa using hb
    rw [hb'] at hop
    (repeat (first | refine goS ?_ | refine E_box fun _ => ?_ | refine E_fa fun _ => ?_ | refine E_ptfad0 fun _ _ => ?_ | refine E_ptfad fun _ _ => ?_ | refine E_rsix (by assumption) fun _ _ => ?_ | refine E_ifT (by first | assumption | decide) ?_ | refine E_ifF (by first | assumption | decide) ?_ | refine E_gdT (by first | assumption | decide) ?_ | refine E_gdF (by first | assumption | decide) ?_ | refine E_gdnT (by first | assumption | decide) ?_ | refine E_gdnF (by first | assumption | decide) ?_ | refine E_pickT (by first | assumption | decide) ?_ | refine E_pickF (by first | assumption | decide) ?_ | refine E_ixN (by omega) ?_ | refine E_ld' (by assumption) ?_ | refine E_addI (by omega) (by omega) ?_ | refine E_subI (by omega) (by omega) ?_ | refine E_mulI (by omega) (by omega) ?_))
    refine E_stW rfl rfl ?_
    (repeat (first | refine goS ?_ | refine E_box fun _ => ?_ | refine E_fa fun _ => ?_ | refine E_ptfad0 fun _ _ => ?_ | refine E_ptfad fun _ _ => ?_ | refine E_rsix (by assumption) fun _ _ => ?_ | refine E_ifT (by first | assumption | decide) ?_ | refine E_ifF (by first | assumption | decide) ?_ | refine E_gdT (by first | assumption | decide) ?_ | refine E_gdF (by first | assumption | decide) ?_ | refine E_gdnT (by first | assumption | decide) ?_ | refine E_gdnF (by first | assumption | decide) ?_ | refine E_pickT (by first | assumption | decide) ?_ | refine E_pickF (by first | assumption | decide) ?_ | refine E_ixN (by omega) ?_ | refine E_ld' (by assumption) ?_ | refine E_addI (by omega) (by omega) ?_ | refine E_subI (by omega) (by omega) ?_ | refine E_mulI (by omega) (by omega) ?_))
    exact E_same (by repeat (first | exact Same.refl | (refine Same.cons (by repeat (first | exact Find.here | apply Find.there)) ?_) | (refine Same.drop ?_))) (h1 o hop v u)
  · have hb' : s2.2 = true := by simpa using hb
    rw [hb'] at hop
    exact E_drop (E_drop (E_drop (E_drop (E_drop (h2 hop)))))
end Go.Proofs.YtogallbjmgoagaaDoor.Scr
