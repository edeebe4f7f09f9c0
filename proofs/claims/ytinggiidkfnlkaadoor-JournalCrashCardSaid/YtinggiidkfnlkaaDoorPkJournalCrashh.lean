/-
  Part 8: JnJ, JnK, JnL, JnN, JnS, JnT.
-/
import Derived.Test.YtinggiidkfnlkaaDoorPkJournalCrashg
set_option linter.unusedSimpArgs false
set_option linter.unusedVariables false
set_option linter.unusedSectionVars false
section
namespace Go.Proofs.YtinggiidkfnlkaaDoor.Jn
open Go Go.SL Go.Proofs Go.Proofs.YtinggiidkfnlkaaDoor.Sh Go.Proofs.YtinggiidkfnlkaaDoor.Oct Go.Proofs.YtinggiidkfnlkaaDoor.Disk Go.Proofs.YtinggiidkfnlkaaDoor.Slot
variable {B : World} {H : List Asrt} {K : Value → WT} {W : WT}
theorem load_next {e i : Nat} {bs : List (List UInt8)} {s : Ld} {b : List UInt8} (h : bs[i]? = some b) : loadF e (bs.drop i) i s = match rdLeaf b e i with
    | none => s
    | some x => if s.bad x then s else loadF e (bs.drop (i + 1)) (i + 1) (s.next x i) := by
  have hil := (List.getElem?_eq_some_iff.1 h).1
  rw [List.drop_eq_getElem_cons hil, (List.getElem?_eq_some_iff.1 h).2]
  rfl
theorem E_bneG {a b : Bool} (h : E B H (K (.bool (decide (a ≠ b))))) : E B H (S.beq .neq (.bool a) (.bool b) K) := fun w hw => by
  unfold S.beq
  have := h w hw
  cases a <;> cases b <;> exact this
attribute [local irreducible] S.pick S.ld S.ldN S.st S.box S.nc S.fad S.ixS S.ixA S.chr S.prt S.ext S.bin S.sh S.sbin S.beq S.neg1 S.com1 S.not1 S.cvt S.str1 S.lenS S.len S.cap S.lenM S.mx S.mn S.mkM S.cond S.gd S.fa S.dr S.rck S.join S.loop S.cvv S.eqv S.slc S.slcS S.b2s S.lk V U CF Gives E cel mpb osl ros dct dit itr lpo dfo
attribute [local irreducible] sls disk rows jr
set_option maxRecDepth 100000
theorem load {lp dp : Nat} {D : Dk} {J : Jl} {bs : List (List UInt8)} (ha : J.a ≤ 1) (hn : J.n ≤ 2000) (he : J.e ≤ lastE) (h0 : J.fin = 0) (hr0 : J.recs = []) (hbl : bs.length = J.n) (hbs : ∀ i b, bs[i]? = some b → D.rd ((ar J.n J.a + i : Nat) : Int) = b)
    (h : E B (jr B lp dp { J with fin := (loadF J.e bs 0 ld0).fin, recs := (loadF J.e bs 0 ld0).recs } :: disk dp D :: H) (K (.tuple #[]))) : E B (jr B lp dp J :: disk dp D :: H) (CF Tryd.prog 35 [ptr lp] K) := by
  refine E_mono (W := s35 _ K) ?_ fun _ => c35
  unfold s35
  refine E_jr fun c rv irv => ?_
  refine fd (a := disk dp D) (E_dkok fun hok => ?_)
  have hA : J.a = 0 ∨ J.a = 1 := by omega
  have har : ar J.n J.a ≤ 2002 := by unfold ar; rcases hA with h | h <;> rw [h] <;> omega
  refine E_box (vs := [ptr lp]) fun l1 => ?_
  refine E_box (vs := [nil]) fun nb => ?_
  refine E_ld ?_
  refine E_mono (W := s49 _ _) ?_ fun _ => c49
  unfold s49
  refine E_box (vs := [ptr lp]) fun l2 => ?_
  refine E_rf (by kernel_rfl) fun l dl L hY => ?_
  refine E_mono (W := s67 _ _ _) ?_ fun _ => c67
  unfold s67
  have hcs : ((lgC dp c rv J).drop (0 + 3 + J.a * 2)).take 2 = [I (ar J.n J.a : Nat), I J.n] := by rcases hA with h | h <;> rw [h] <;> unfold ar <;> simp
  refine E_dr ?_
  refine E_ld ?_
  refine E_ld ?_
  refine E_nc ?_
  refine E_fad ?_
  refine E_ld ?_
  refine E_nc ?_
  refine E_fad ?_
  refine E_ixAo (by omega) (by omega) ?_
  rw [Int.toNat_natCast]
  refine E_ldN (cs := [I (ar J.n J.a : Nat), I J.n]) hcs rfl ?_
  refine E_box (vs := [I 0, I 0]) fun r3 => ?_
  refine E_rck1 (E_ldN (cs := [I (ar J.n J.a : Nat), I J.n]) hcs rfl (E_fact rfl)) ?_
  refine E_rck1 (E_ld (E_fact rfl)) ?_
  refine E_rck1 (E_ld (E_fact rfl)) ?_
  refine E_rck1 (E_ld (E_fact rfl)) ?_
  refine E_rck0 ?_
  refine E_stW (vs := [I (ar J.n J.a : Nat), I J.n]) rfl rfl ?_
  refine E_fad ?_
  refine E_ld ?_
  have fin : ∀ (s : Ld) (nv rv' : Value) [CellI rv'] (st : LoopState) (j : X), st ≠ .busy → (j = .nrm ∨ j = .rt) → loadF J.e bs 0 ld0 = s →
      E B (lpo l L st j :: rows B rv' s.recs :: sls cB 5 1 nv s.now :: cel true nb 22 [nv] :: cel true lp 66 (lgC dp c rv' { J with fin := s.fin, recs := s.recs }) :: cel true c 91 [ptr dp, I 0, I J.life] :: disk dp D :: cel true l1 29 [ptr lp] :: cel true l2 29 [ptr lp] :: cel true r3 32 [I (ar J.n J.a : Nat), I J.n] :: dfo dl :: H)
        (over l L fun j => aft (fun _ => nope) (fun m4 => S.done m4 <| K (.tuple #[])) (fun m5 => S.done m5 <| K (.tuple #[])) [] j (addMark undef dl)) := fun s nv rv' _ st j hst hj hs => by
    refine E_over hst ?_
    have hg : E B (rows B rv' s.recs :: sls cB 5 1 nv s.now :: cel true nb 22 [nv] :: cel true lp 66 (lgC dp c rv' { J with fin := s.fin, recs := s.recs }) :: cel true c 91 [ptr dp, I 0, I J.life] :: disk dp D :: cel true l1 29 [ptr lp] :: cel true l2 29 [ptr lp] :: cel true r3 32 [I (ar J.n J.a : Nat), I J.n] :: dfo dl :: H) (S.done (addMark undef dl) <| K (.tuple #[])) := by
      refine fd (a := dfo dl) (E_done1 ?_)
      subst hs
      refine E_same (G := cel true lp 66 (lgC dp c rv' { J with fin := (loadF J.e bs 0 ld0).fin, recs := (loadF J.e bs 0 ld0).recs }) :: cel true c 91 [ptr dp, I 0, I J.life] :: rows B rv' (loadF J.e bs 0 ld0).recs :: disk dp D :: H) (by repeat (first | exact Same.refl | (refine Same.cons (by repeat (first | exact Find.here | apply Find.there)) ?_) | (refine Same.drop ?_))) ?_
      exact E_jrS (J := { J with fin := (loadF J.e bs 0 ld0).fin, recs := (loadF J.e bs 0 ld0).recs }) h
    unfold aft
    rcases hj with rfl | rfl
    · exact hg
    · exact hg
  refine E_loop (n := 5) (σ := Nat × Ld × Cv × Cv) (fun s => s.1 ≤ J.n ∧ loadF J.e bs 0 ld0 = loadF J.e (bs.drop s.1) s.1 s.2.1 ∧ s.2.1.recs.length ≤ s.1 ∧ s.2.1.now.length ≤ 16384) (fun s => [.func (.yield l) #[] #[], ptr l2, ptr r3, I J.n, I s.1])
    (fun s => lpo l L .ready .nrm :: rows B s.2.2.2.1 s.2.1.recs :: sls cB 5 1 s.2.2.1.1 s.2.1.now :: cel true nb 22 [s.2.2.1.1] :: cel true lp 66 (lgC dp c s.2.2.2.1 { J with fin := s.2.1.fin, recs := s.2.1.recs }) :: cel true c 91 [ptr dp, I 0, I J.life] :: disk dp D :: cel true l1 29 [ptr lp] :: cel true l2 29 [ptr lp] :: cel true r3 32 [I (ar J.n J.a : Nat), I J.n] :: dfo dl :: H)
    (fun s => J.n - s.1) (0, ld0, ⟨nil, rfl⟩, ⟨rv, irv.pf⟩) (fun _ => rfl) rfl ⟨Nat.zero_le _, rfl, Nat.le_refl _, Nat.zero_le _⟩ (fun W hW => by
      refine sls_nil (T := 5) cB 1 ?_
      rw [hr0, show lgC dp c rv J = lgC dp c rv { J with fin := ld0.fin, recs := ld0.recs } by unfold lgC; rw [h0]; rfl]
      refine E_same (G := lpo l L .ready .nrm :: rows B rv ld0.recs :: sls cB 5 1 nil ld0.now :: cel true nb 22 [nil] :: cel true lp 66 (lgC dp c rv { J with fin := ld0.fin, recs := ld0.recs }) :: cel true c 91 [ptr dp, I 0, I J.life] :: disk dp D :: cel true l1 29 [ptr lp] :: cel true l2 29 [ptr lp] :: cel true r3 32 [I (ar J.n J.a : Nat), I J.n] :: dfo dl :: H) ?_ hW
      exact ((by repeat (first | exact Same.refl | (refine Same.cons (by repeat (first | exact Find.here | apply Find.there)) ?_) | (refine Same.drop ?_))))) ?_
  rintro ⟨i, s, nv, rv'⟩ K0 ⟨hi, hs, hsl, hnl⟩ hk
  simp only at hi hs hsl hnl hk ⊢
  have inv : CellI nv.1 := ⟨nv.2⟩
  have irv' : CellI rv'.1 := ⟨rv'.2⟩
  refine E_fa fun _ => ?_
  refine E_lss ?_
  refine E_if (fun hc => ?_) (fun hc => ?_)
  · have hbi : bs[i]? = some bs[i] := List.getElem?_eq_getElem (by omega)
    generalize bs[i] = b at hbi
    have hrd := hbs i b hbi
    have hb128 := rd_len hok ((ar J.n J.a + i : Nat) : Int)
    rw [hrd] at hb128
    have hnx := load_next (e := J.e) (s := s) hbi
    refine E_dr ?_
    refine E_ld ?_
    refine E_nc ?_
    refine E_fad0 ?_
    refine E_ld ?_
    refine E_fad0 ?_
    refine E_ld ?_
    refine E_addI (by omega) (by omega) ?_
    rw [show ((ar J.n J.a : Nat) : Int) + (i : Int) = ((ar J.n J.a + i : Nat) : Int) by omega]
    refine E_use (Disk.disk dp) (Disk.read fun v _ => ?_)
    rw [hrd]
    refine E_bytes (l := b) ?_
    refine E_ext ?_
    refine E_ext ?_
    refine E_ld ?_
    refine E_nc ?_
    refine E_fad ?_
    refine E_ld ?_
    refine read (v := v) (bs := b) he (by omega) hb128 (fun x hx => ?_) (fun hx a1 a2 a3 t => ?_)
    · rw [hx] at hnx
      simp only at hnx
      obtain ⟨hxo, _⟩ := rd_some hx
      refine E_ext ?_
      refine E_ext ?_
      refine E_box (vs := [I 0, I 0, I 0, str []]) fun x7 => ?_
      refine E_stW (vs := [I J.e, I i, I x.1, str x.2]) rfl rfl ?_
      have a7 : AtLen [I J.e, I i, I x.1, str x.2] 4 := ⟨rfl⟩
      refine E_join0 ?_
      refine E_notb ?_
      refine E_gft ?_
      refine E_gft ?_
      refine E_gft ?_
      refine E_ldNA (l := [I J.e, I i, I x.1, str x.2]) ?_
      refine E_gft ?_
      refine E_same (G := lpo l L .ready .nrm :: rows B rv'.1 s.recs :: sls cB 5 1 nv.1 s.now :: cel true nb 22 [nv.1] :: cel true lp 66 (lgC dp c rv'.1 { J with fin := s.fin, recs := s.recs }) :: cel true c 91 [ptr dp, I 0, I J.life] :: disk dp D :: cel true l1 29 [ptr lp] :: cel true l2 29 [ptr lp] :: cel true r3 32 [I (ar J.n J.a : Nat), I J.n] :: dfo dl :: H) (by repeat (first | exact Same.refl | (refine Same.cons (by repeat (first | exact Find.here | apply Find.there)) ?_) | (refine Same.drop ?_))) ?_
      refine hY _ _ _ rfl ?_
      refine E_box (vs := [I 0, I 0, I 0, str []]) fun x4 => ?_
      refine E_stW (vs := [I J.e, I i, I x.1, str x.2]) rfl rfl ?_
      refine fd (a := lpo l L .ready .nrm) ?_
      refine E_begun ?_
      refine E_join1 [ptr l1, ptr nb, I i, ptr x4, .bool (decide (x.1 = 1 ∨ x.1 = 2))] (lpo l L .busy .nrm :: cel true x4 87 [I J.e, I i, I x.1, str x.2] :: rows B rv'.1 s.recs :: sls cB 5 1 nv.1 s.now :: cel true nb 22 [nv.1] :: cel true lp 66 (lgC dp c rv'.1 { J with fin := s.fin, recs := s.recs }) :: cel true c 91 [ptr dp, I 0, I J.life] :: disk dp D :: cel true l1 29 [ptr lp] :: cel true l2 29 [ptr lp] :: cel true r3 32 [I (ar J.n J.a : Nat), I J.n] :: dfo dl :: H) (fun q hq => ?_) ?_
      · refine E_fad ?_
        refine E_ld ?_
        refine E_eql ?_
        by_cases h1 : ((x.1 : Nat) : Int) = 1
        · rw [decide_eq_true h1]
          refine E_gtt ?_
          refine E_gtt ?_
          refine E_gtt ?_
          refine E_ptt ?_
          rw [decide_eq_true (.inl (by omega))] at hq
          exact hq
        · rw [decide_eq_false h1]
          refine E_gft ?_
          refine E_fad ?_
          refine E_gft ?_
          refine E_ld ?_
          refine E_gft ?_
          refine E_eql ?_
          refine E_pff ?_
          have e5 : decide (((x.1 : Nat) : Int) = 2) = decide (x.1 = 1 ∨ x.1 = 2) := by rw [decide_eq_decide]; omega
          rw [e5]
          exact hq
      refine E_fa fun _ => ?_
      refine E_join1 [ptr l1, ptr nb, I i, ptr x4, .bool (decide (s.bad x))] (lpo l L .busy .nrm :: cel true x4 87 [I J.e, I i, I x.1, str x.2] :: rows B rv'.1 s.recs :: sls cB 5 1 nv.1 s.now :: cel true nb 22 [nv.1] :: cel true lp 66 (lgC dp c rv'.1 { J with fin := s.fin, recs := s.recs }) :: cel true c 91 [ptr dp, I 0, I J.life] :: disk dp D :: cel true l1 29 [ptr lp] :: cel true l2 29 [ptr lp] :: cel true r3 32 [I (ar J.n J.a : Nat), I J.n] :: dfo dl :: H) (fun q hq => ?_) ?_
      · have hbd : s.bad x ↔ (decide (x.1 = 1 ∨ x.1 = 2) ≠ decide ((s.now.length : Int) = 0)) ∨ 16384 < s.now.length + x.2.length := by
          have e6 : (s.now = []) = ((s.now.length : Int) = 0) := by rw [← List.length_eq_zero_iff]; apply propext; omega
          unfold Ld.bad
          rw [e6, Ne, Ne, decide_eq_decide, eq_iff_iff]
        refine E_ld ?_
        refine E_rslen (v := nv.1) (l := s.now) ?_
        refine E_eql ?_
        refine E_bneG ?_
        by_cases hb1 : decide (x.1 = 1 ∨ x.1 = 2) ≠ decide ((s.now.length : Int) = 0)
        · rw [decide_eq_true hb1]
          refine E_gtt ?_
          refine E_gtt ?_
          refine E_gtt ?_
          refine E_gtt ?_
          refine E_gtt ?_
          refine E_gtt ?_
          refine E_gtt ?_
          refine E_ptt ?_
          rw [decide_eq_true (hbd.2 (.inl hb1))] at hq
          exact hq
        · rw [decide_eq_false hb1]
          refine E_gft ?_
          refine E_ld ?_
          refine E_gft ?_
          refine E_rslen (v := nv.1) (l := s.now) ?_
          refine E_gft ?_
          refine E_fad ?_
          refine E_gft ?_
          refine E_ld ?_
          refine E_gft ?_
          refine E_lenstr ?_
          refine E_gft ?_
          refine E_addI (by omega) (by have := hxo.2.2.2; omega) ?_
          refine E_gft ?_
          refine E_gtr ?_
          refine E_pff ?_
          have e7 : decide ((16384 : Int) < (s.now.length : Int) + (x.2.length : Int)) = decide (s.bad x) := by
            rw [decide_eq_decide, hbd]
            constructor
            · intro h; exact .inr (by omega)
            · rintro (h | h)
              · exact absurd h hb1
              · omega
          rw [e7]
          exact hq
      refine E_fa fun _ => ?_
      refine E_if (fun hb => ?_) (fun hb => ?_)
      · refine E_ended_rt ?_
        refine E_gft ?_
        refine E_notb ?_
        refine E_pff ?_
        refine E_fa fun _ => ?_
        refine E_tt ?_
        refine E_same (G := lpo l L .done .rt :: rows B rv'.1 s.recs :: sls cB 5 1 nv.1 s.now :: cel true nb 22 [nv.1] :: cel true lp 66 (lgC dp c rv'.1 { J with fin := s.fin, recs := s.recs }) :: cel true c 91 [ptr dp, I 0, I J.life] :: disk dp D :: cel true l1 29 [ptr lp] :: cel true l2 29 [ptr lp] :: cel true r3 32 [I (ar J.n J.a : Nat), I J.n] :: dfo dl :: H) (by repeat (first | exact Same.refl | (refine Same.cons (by repeat (first | exact Find.here | apply Find.there)) ?_) | (refine Same.drop ?_))) ?_
        exact fin s nv.1 rv'.1 _ _ (by simp) (.inr rfl) (by rw [hs, hnx, if_pos hb])
      rw [if_neg hb] at hnx
      have hbl2 : s.now.length + x.2.length ≤ 16384 := Nat.le_of_not_lt fun h => hb (.inr h)
      have hk1 : ∀ (nv' rv2 : Cv), _ := fun nv' rv2 => hk (i + 1, s.next x i, nv', rv2) ⟨by simp only; omega, by simp only; rw [hs, hnx], by
        simp only; unfold Ld.next; split
        · simp only [List.length_append, List.length_singleton]; omega
        · simp only; omega, by
        simp only; unfold Ld.next; split
        · exact Nat.zero_le _
        · simp only [List.length_append]; omega⟩ (by simp only; omega)
      simp only at hk1
      refine E_ld ?_
      refine E_fad ?_
      refine E_ld ?_
      refine fd (a := sls cB 5 1 nv.1 s.now) ?_
      refine E_bstr u_bytes u_stringJ elt_byte (by omega) fun nv' inv' => ?_
      refine fd (a := cel true nb 22 [nv.1]) ?_
      refine E_st' (by simp) ?_
      rw [show ([nv.1] : List Value).set 0 nv' = [nv'] from rfl]
      refine E_join1 [ptr l1, ptr nb, I i, .bool (decide (x.1 = 1 ∨ x.1 = 4))] (cel true nb 22 [nv'] :: sls cB 5 1 nv' (s.now ++ x.2) :: lpo l L .busy .nrm :: cel true x4 87 [I J.e, I i, I x.1, str x.2] :: rows B rv'.1 s.recs :: cel true lp 66 (lgC dp c rv'.1 { J with fin := s.fin, recs := s.recs }) :: cel true c 91 [ptr dp, I 0, I J.life] :: disk dp D :: cel true l1 29 [ptr lp] :: cel true l2 29 [ptr lp] :: cel true r3 32 [I (ar J.n J.a : Nat), I J.n] :: dfo dl :: H) (fun q hq => ?_) ?_
      · refine E_fad ?_
        refine E_ld ?_
        refine E_eql ?_
        by_cases h1 : ((x.1 : Nat) : Int) = 1
        · rw [decide_eq_true h1]
          refine E_gtt ?_
          refine E_gtt ?_
          refine E_gtt ?_
          refine E_ptt ?_
          rw [decide_eq_true (.inl (by omega))] at hq
          exact hq
        · rw [decide_eq_false h1]
          refine E_gft ?_
          refine E_fad ?_
          refine E_gft ?_
          refine E_ld ?_
          refine E_gft ?_
          refine E_eql ?_
          refine E_pff ?_
          have e5 : decide (((x.1 : Nat) : Int) = 4) = decide (x.1 = 1 ∨ x.1 = 4) := by rw [decide_eq_decide]; omega
          rw [e5]
          exact hq
      refine E_fa fun _ => ?_
      refine E_if (fun h14 => ?_) (fun h14 => ?_)
      · have hnxt : s.next x i = ⟨[], s.recs ++ [s.now ++ x.2], i + 1⟩ := by unfold Ld.next; rw [if_pos h14]
        rw [hnxt] at hk1
        refine E_dr ?_
        refine E_ld ?_
        refine E_ld ?_
        refine E_ld ?_
        refine E_nc ?_
        refine E_fad ?_
        refine E_ld ?_
        refine E_ld ?_
        refine E_addI (by omega) (by omega) ?_
        refine fd (a := rows B rv'.1 s.recs) ?_
        refine E_rows fun bv PL hrp => ?_
        have hbvl : bv.length = s.recs.length := by rw [← hrp.e]; exact (List.length_map _).symm
        refine E_sapp1R (enc := cV) (mkB nv' (s.now ++ x.2)) u_bytess elt_bytes (cs := [nv']) rfl (by decide) (by omega) (by omega) (fun b W hW => ?_) fun rv2 irv2 => ?_
        · refine E_rck1 (E_ld (E_fact rfl)) ?_
          refine E_rck1 (E_ld (E_fact rfl)) ?_
          refine E_rck1 (E_ld (E_fact rfl)) ?_
          refine E_rck1 (E_ld (E_fact rfl)) ?_
          exact E_rck0 hW
        refine E_rck1 (E_ld (E_fact rfl)) ?_
        refine E_rck1 (E_ld (E_fact rfl)) ?_
        refine E_rck0 ?_
        refine E_nc ?_
        refine E_fad ?_
        refine E_st' (by simp) ?_
        refine E_rck1 (E_ld (E_fact rfl)) ?_
        refine E_rck0 ?_
        refine E_nc ?_
        refine E_fad ?_
        refine E_st' (by simp) ?_
        refine E_st' (by simp) ?_
        refine fd (a := lpo l L .busy .nrm) ?_
        refine E_ended ?_
        refine E_gft ?_
        refine E_notb ?_
        refine E_pff ?_
        refine E_fa fun _ => ?_
        refine E_ff ?_
        refine E_addI (by omega) (by omega) ?_
        rw [show ((i : Int) + 1) = ((i + 1 : Nat) : Int) by omega]
        rw [show ([nv'] : List Value).set 0 nil = [nil] from rfl, show (((lgC dp c rv'.1 { J with fin := s.fin, recs := s.recs }).set (0 + 10) rv2).set (0 + 9) (I (i + 1 : Nat))) = lgC dp c rv2 { J with fin := i + 1, recs := s.recs ++ [s.now ++ x.2] } from rfl]
        refine E_same (G := sls cB 5 1 nv' (s.now ++ x.2) :: spool cB PL :: sls cV 22 1 rv2 (bv ++ [mkB nv' (s.now ++ x.2)]) :: lpo l L .ready .nrm :: cel true nb 22 [nil] :: cel true lp 66 (lgC dp c rv2 { J with fin := i + 1, recs := s.recs ++ [s.now ++ x.2] }) :: cel true c 91 [ptr dp, I 0, I J.life] :: disk dp D :: cel true l1 29 [ptr lp] :: cel true l2 29 [ptr lp] :: cel true r3 32 [I (ar J.n J.a : Nat), I J.n] :: dfo dl :: H) (by repeat (first | exact Same.refl | (refine Same.cons (by repeat (first | exact Find.here | apply Find.there)) ?_) | (refine Same.drop ?_))) ?_
        refine E_give ?_
        refine E_perm (.swap ..) ?_
        refine E_rowsS (l := s.recs ++ [s.now ++ x.2]) ⟨by simp [← hrp.e], fun p hp H' => ?_⟩ ?_
        · rcases List.mem_append.1 hp with hp | hp
          · exact pool_rb (fun q hq => List.mem_cons_of_mem _ hq) (hrp.r p hp) H'
          · rw [List.mem_singleton.1 hp]
            exact rb_rs (rs_pool (List.mem_cons_self ..) H')
        refine sls_nil (T := 5) cB 1 ?_
        refine E_same (G := lpo l L .ready .nrm :: rows B rv2 (s.recs ++ [s.now ++ x.2]) :: sls cB 5 1 nil [] :: cel true nb 22 [nil] :: cel true lp 66 (lgC dp c rv2 { J with fin := i + 1, recs := s.recs ++ [s.now ++ x.2] }) :: cel true c 91 [ptr dp, I 0, I J.life] :: disk dp D :: cel true l1 29 [ptr lp] :: cel true l2 29 [ptr lp] :: cel true r3 32 [I (ar J.n J.a : Nat), I J.n] :: dfo dl :: H) (by repeat (first | exact Same.refl | (refine Same.cons (by repeat (first | exact Find.here | apply Find.there)) ?_) | (refine Same.drop ?_))) ?_
        exact hk1 ⟨nil, rfl⟩ ⟨rv2, irv2.pf⟩
      · have hnxt : s.next x i = ⟨s.now ++ x.2, s.recs, s.fin⟩ := by unfold Ld.next; rw [if_neg h14]
        rw [hnxt] at hk1
        refine fd (a := lpo l L .busy .nrm) ?_
        refine E_ended ?_
        refine E_gft ?_
        refine E_notb ?_
        refine E_pff ?_
        refine E_fa fun _ => ?_
        refine E_ff ?_
        refine E_addI (by omega) (by omega) ?_
        refine E_same (G := lpo l L .ready .nrm :: rows B rv'.1 s.recs :: sls cB 5 1 nv' (s.now ++ x.2) :: cel true nb 22 [nv'] :: cel true lp 66 (lgC dp c rv'.1 { J with fin := s.fin, recs := s.recs }) :: cel true c 91 [ptr dp, I 0, I J.life] :: disk dp D :: cel true l1 29 [ptr lp] :: cel true l2 29 [ptr lp] :: cel true r3 32 [I (ar J.n J.a : Nat), I J.n] :: dfo dl :: H) (by repeat (first | exact Same.refl | (refine Same.cons (by repeat (first | exact Find.here | apply Find.there)) ?_) | (refine Same.drop ?_))) ?_
        exact hk1 ⟨nv', inv'.pf⟩ rv'
    · rw [hx] at hnx
      simp only at hnx
      refine E_ext ?_
      refine E_ext ?_
      refine E_box (vs := [I 0, I 0, I 0, str []]) fun x7 => ?_
      refine E_stW (vs := [I a1, I a2, I a3, str t]) rfl rfl ?_
      refine E_join0 ?_
      refine E_notb ?_
      refine E_gtt ?_
      refine E_gtt ?_
      refine E_gtt ?_
      refine E_gtt ?_
      refine E_gtt ?_
      refine E_ptt ?_
      refine E_fa fun _ => ?_
      refine E_tt ?_
      refine E_same (G := lpo l L .ready .nrm :: rows B rv'.1 s.recs :: sls cB 5 1 nv.1 s.now :: cel true nb 22 [nv.1] :: cel true lp 66 (lgC dp c rv'.1 { J with fin := s.fin, recs := s.recs }) :: cel true c 91 [ptr dp, I 0, I J.life] :: disk dp D :: cel true l1 29 [ptr lp] :: cel true l2 29 [ptr lp] :: cel true r3 32 [I (ar J.n J.a : Nat), I J.n] :: dfo dl :: H) (by repeat (first | exact Same.refl | (refine Same.cons (by repeat (first | exact Find.here | apply Find.there)) ?_) | (refine Same.drop ?_))) ?_
      exact fin s nv.1 rv'.1 _ _ (by simp) (.inl rfl) (by rw [hs, hnx])
  · have hie : i = J.n := by omega
    subst hie
    rw [List.drop_of_length_le (by omega)] at hs
    exact fin s nv.1 rv'.1 _ _ (by simp) (.inl rfl) hs
end Go.Proofs.YtinggiidkfnlkaaDoor.Jn
end
section
namespace Go.Proofs.YtinggiidkfnlkaaDoor.Jn
open Go Go.SL Go.Proofs Go.Proofs.YtinggiidkfnlkaaDoor.Sh Go.Proofs.YtinggiidkfnlkaaDoor.Oct Go.Proofs.YtinggiidkfnlkaaDoor.Disk Go.Proofs.YtinggiidkfnlkaaDoor.Slot
variable {B : World} {H : List Asrt} {K : Value → WT} {W : WT}
def J0 (n : Nat) (life : Int) : Jl := ⟨n, 0, 0, 0, [], false, life⟩
theorem numL_pos (e : Nat) : 1 ≤ (nL e).length := by
  unfold nL numL numF
  split <;> simp
theorem bld33 (a b c d : Value) (w : World) : (Instr.build 33 #[(0, .agg #[a, b]), (1, .agg #[c, d])]).run Tryd.prog w = .ok (.agg #[a, b, c, d]) w := by kernel_rfl
theorem str_log : Str Tryd.prog 66 [(0, 1), (1, 1), (2, 1), (3, 4), (7, 1), (8, 1), (9, 1), (10, 1), (11, 1)] [.pointer none, I 0, .pointer none, I 0, I 0, I 0, I 0, I 0, I 0, I 0, nil, .bool false] := str_of (zv := .agg #[.pointer none, I 0, .pointer none, I 0, I 0, I 0, I 0, I 0, I 0, I 0, nil, .bool false]) (by kernel_rfl) (by kernel_rfl) rfl
theorem str_run : Str Tryd.prog 32 [(0, 1), (1, 1)] [I 0, I 0] := str_of (zv := .agg #[I 0, I 0]) (by kernel_rfl) (by kernel_rfl) rfl
def openC (lp c : Nat) (K : Value → WT) : WT :=
 CF Tryd.prog 32 [ptr c] fun v44 =>
 S.ext v44 0 fun v45 =>
 S.ext v44 1 fun v46 =>
 S.bin .eql v46 (I 9) fun v49 =>
 S.cond v49 (
 CF Tryd.prog 33 [(ptr lp)] fun v51 =>
 S.ext v51 0 fun v52 =>
 S.ext v51 1 fun v53 =>
 K (.tuple #[v52, v53])) (
 S.bin .neq v46 (I 0) fun v56 =>
 S.cond v56 (
 K (.tuple #[(.pointer none), v46])) (
 S.join 3 (fun K0 =>
 S.len v45 fun v59 =>
 S.bin .lss v59 (I 2) fun v60 =>
 S.gd v60 false (fun k => k v45) fun v62 =>
 S.gd v60 false (S.ixS 1 v62 (I 0)) fun v63 =>
 S.gd v60 false (S.ld v63) fun v64 =>
 S.gd v60 false (S.bin .gtr v64 (.int .u8 1)) fun v65 =>
 S.pick v60 (.bool true) v65 fun v66 =>
 K0 (ptr lp) v45 v66)
 <| fun v12 v13 v66' => S.fa fun _ =>
 S.cond v66' (
 K (.tuple #[(.pointer none), (I 13)])) (
 CF Tryd.prog 34 [v13, (I 1)] fun v69 =>
 S.ext v69 0 fun v70 =>
 S.ext v69 1 fun v71 =>
 S.ext v69 2 fun v72 =>
 S.join 4 (fun K1 =>
 S.bin .neq v72 (I 0) fun v74 =>
 S.gd v74 false (fun k => k v71) fun v76 =>
 S.gd v74 false (fun k => k v13) fun v77 =>
 S.gd v74 false (S.len v77) fun v78 =>
 S.gd v74 false (S.bin .neq v76 v78) fun v79 =>
 S.pick v74 (.bool true) v79 fun v80 =>
 S.gd v80 false (fun k => k v70) fun v82 =>
 S.gd v80 false (S.bin .lss v82 (I 1)) fun v83 =>
 S.pick v80 (.bool true) v83 fun v84 =>
 S.gd v84 false (fun k => k v70) fun v86 =>
 S.gd v84 false (S.bin .gtr v86 (I 281474976710655)) fun v87 =>
 S.pick v84 (.bool true) v87 fun v88 =>
 K1 v12 v13 v70 v88)
 <| fun v12' v13' v14 v88' => S.fa fun _ =>
 S.cond v88' (
 K (.tuple #[(.pointer none), (I 13)])) (
 S.ixS 1 v13' (I 0) fun v92 =>
 S.ld v92 fun v93 =>
 S.cvt .i64 v93 fun v94 =>
 S.nc v12' fun v96 =>
 S.fad v96 7 fun v97 =>
 S.st 1 v97 v94 fun _ =>
 S.nc v12' fun v98 =>
 S.fad v98 8 fun v99 =>
 S.st 1 v99 v14 fun _ =>
 CF Tryd.prog 35 [v12'] fun v101 =>
 K (.tuple #[v12', (I 0)])))))
attribute [local irreducible] S.pick S.ld S.ldN S.st S.box S.nc S.fad S.ixS S.ixA S.chr S.prt S.ext S.bin S.sh S.sbin S.beq S.neg1 S.com1 S.not1 S.cvt S.str1 S.lenS S.len S.cap S.lenM S.mx S.mn S.mkM S.cond S.gd S.fa S.dr S.rck S.join S.loop S.cvv S.eqv S.slc S.slcS S.b2s S.lk V U CF Gives E cel mpb osl ros dct dit itr lpo dfo
attribute [local irreducible] sls disk rows jr
set_option maxRecDepth 100000
theorem overlap {a0 a1 b0 b1 : Int} (h1 : 0 ≤ a0) (h2 : a0 ≤ 100000) (h3 : 0 ≤ a1) (h4 : a1 ≤ 100000) (h5 : 0 ≤ b0) (h6 : b0 ≤ 100000) (h7 : 0 ≤ b1) (h8 : b1 ≤ 100000)
    (h : E B H (K (.bool (decide (a0 < b0 + b1 ∧ b0 < a0 + a1))))) : E B H (CF Tryd.prog 44 [.agg #[I a0, I a1], .agg #[I b0, I b1]] K) := by
  refine E_mono (W := s44 _ _ K) ?_ fun _ => c44
  unfold s44
  refine E_box (vs := [I a0, I a1]) fun b2 => ?_
  refine E_box (vs := [I b0, I b1]) fun b3 => ?_
  refine E_fad0 ?_
  refine E_ld ?_
  refine E_fad0 ?_
  refine E_ld ?_
  refine E_fad ?_
  refine E_ld ?_
  refine E_addI (by omega) (by omega) ?_
  refine E_lss ?_
  by_cases hc : a0 < b0 + b1
  · rw [decide_eq_true hc]
    refine E_gtf ?_
    refine E_fad0 ?_
    refine E_gtf ?_
    refine E_ld ?_
    refine E_gtf ?_
    refine E_fad0 ?_
    refine E_gtf ?_
    refine E_ld ?_
    refine E_gtf ?_
    refine E_fad ?_
    refine E_gtf ?_
    refine E_ld ?_
    refine E_gtf ?_
    refine E_addI (by omega) (by omega) ?_
    refine E_gtf ?_
    refine E_lss ?_
    refine E_ptt ?_
    have e : decide (b0 < a0 + a1) = decide (a0 < b0 + b1 ∧ b0 < a0 + a1) := by rw [decide_eq_decide]; exact ⟨fun h => ⟨hc, h⟩, fun h => h.2⟩
    rw [e]
    exact sm (G := H) h
  · rw [decide_eq_false hc]
    repeat (refine E_gff ?_)
    refine E_pff ?_
    rw [decide_eq_false (fun h => hc h.1)] at h
    exact sm (G := H) h
theorem format {lp dp : Nat} {D : Dk} {n : Nat} {life : Int} (hd : D.down = false) (hl : D.S.length = 2 + 2 * n) (hz : frN n D 0 = 0) (hs : setE D 0 life (cu 0 1 nL) = 0)
    (h : E B (jr B lp dp ⟨n, 0, 1, 0, [], true, life⟩ :: disk dp (setD D 0 life (cu 0 1 nL)) :: H) (K (.tuple #[ptr lp, I 0]))) : E B (jr B lp dp (J0 n life) :: disk dp D :: H) (CF Tryd.prog 33 [ptr lp] K) := by
  refine E_mono (W := s33 _ K) ?_ fun _ => c33
  unfold s33
  refine E_jr fun c rv _ => ?_
  refine fd (a := disk dp D) ?_
  refine fresh (J := J0 n life) (rv := rv) hd hl (by show frN n D 0 < lastE; rw [hz]; decide) ?_
  refine E_ext ?_
  refine E_ext ?_
  show E B _ (S.join 2 _ _)
  have e1 : ((frN (J0 n life).n D (J0 n life).e + 1 : Nat) : Int) = 1 := by show ((frN n D 0 + 1 : Nat) : Int) = 1; rw [hz]; rfl
  rw [e1]
  refine E_join1 [ptr lp, I 0] (cel true lp 66 (lgC dp c rv { J0 n life with a := 0, e := 1 }) :: disk dp (setD D 0 life (cu 0 1 nL)) :: cel true c 91 [ptr dp, I 0, I life] :: rows B rv [] :: H) (fun q hq => ?_) ?_
  · refine E_eql ?_
    refine E_ifT rfl ?_
    refine E_same (G := cel true lp 66 (lgC dp c rv (J0 n life)) :: disk dp D :: cel true c 91 [ptr dp, I 0, I life] :: rows B rv [] :: H) (by repeat (first | exact Same.refl | (refine Same.cons (by repeat (first | exact Find.here | apply Find.there)) ?_) | (refine Same.drop ?_))) ?_
    refine point (a := 0) (e := 1) (J := J0 n life) (by decide) (by decide) (fun hne => absurd hs hne) (fun _ => ?_)
    exact hq
  refine E_fa fun _ => ?_
  refine E_neq ?_
  refine E_ifF (by decide) ?_
  refine E_nc ?_
  refine E_fad ?_
  refine E_st' (by simp) ?_
  rw [show (lgC dp c rv { J0 n life with a := 0, e := 1 }).set (0 + 11) (.bool true) = lgC dp c rv ⟨n, 0, 1, 0, [], true, life⟩ from rfl]
  refine E_same (G := cel true lp 66 (lgC dp c rv ⟨n, 0, 1, 0, [], true, life⟩) :: cel true c 91 [ptr dp, I 0, I life] :: rows B rv [] :: disk dp (setD D 0 life (cu 0 1 nL)) :: H) (by repeat (first | exact Same.refl | (refine Same.cons (by repeat (first | exact Find.here | apply Find.there)) ?_) | (refine Same.drop ?_))) ?_
  exact E_jrS (J := ⟨n, 0, 1, 0, [], true, life⟩) h
theorem openEnd {lp dp c n a e : Nat} {D : Dk} {life : Int} {bs : List (List UInt8)} (hn : n ≤ 2000) (ha : a ≤ 1) (he1 : 1 ≤ e) (heN : e ≤ 250) (hE : getE D 0 life = 0) (hB : getB D 0 life = cu a e nL) (hcur : ¬ cur D 0 < 0) (hbl : bs.length = n) (hbs : ∀ i b, bs[i]? = some b → D.rd ((ar n a + i : Nat) : Int) = b)
    (h : E B (jr B lp dp ⟨n, a, e, (loadF e bs 0 ld0).fin, (loadF e bs 0 ld0).recs, false, life⟩ :: disk dp D :: H) (K (.tuple #[ptr lp, I 0]))) :
    E B (cel true lp 66 (lgC dp c nil (J0 n life)) :: disk dp D :: cel true c 91 [ptr dp, I 0, I life] :: H) (openC lp c K) := by
  unfold openC
  have hnl := nL_len e
  have hnp := numL_pos e
  have hcl : (cu a e nL).length = 1 + (nL e).length := by unfold cu; rw [List.length_cons]; omega
  have hc0 : (cu a e nL)[0]? = some (UInt8.ofNat a) := rfl
  have hua : (UInt8.ofNat a).toNat = a := u8n (by omega)
  refine fd (a := disk dp D) ?_
  refine Slot.get (a := dp) (c := c) (base := 0) (life := life) (by decide) (by decide) (fun _ hc => absurd hc hcur) fun v45 _ => ?_
  rw [hE, hB]
  refine E_ext ?_
  refine E_ext ?_
  refine E_eql ?_
  refine E_ifF (by decide) ?_
  refine E_neq ?_
  refine E_ifF (by decide) ?_
  refine E_join1 [ptr lp, v45, .bool false] (sls cB 5 1 v45 (cu a e nL) :: disk dp D :: cel true lp 66 (lgC dp c nil (J0 n life)) :: cel true c 91 [ptr dp, I 0, I life] :: H) (fun q hq => ?_) ?_
  · refine E_rslen (v := v45) (l := cu a e nL) ?_
    refine E_lss ?_
    rw [decide_eq_false (by omega)]
    refine E_gft ?_
    refine E_gft ?_
    refine E_rsix (v := v45) (l := cu a e nL) (i := 0) hc0 fun _ _ => ?_
    refine E_gft ?_
    refine E_ptld ?_
    refine E_gft ?_
    refine E_gtr ?_
    rw [decide_eq_false (by rw [hua]; omega)]
    refine E_pff ?_
    exact hq
  refine E_fa fun _ => ?_
  refine E_ff ?_
  refine takeNum (pre := [UInt8.ofNat a]) (n := e) (post := []) (bs := cu a e nL) (by unfold cu nL; simp) (by omega) (by omega) ?_
  refine E_ext ?_
  refine E_ext ?_
  refine E_ext ?_
  refine E_join1 [ptr lp, v45, I e, .bool false] (sls cB 5 1 v45 (cu a e nL) :: disk dp D :: cel true lp 66 (lgC dp c nil (J0 n life)) :: cel true c 91 [ptr dp, I 0, I life] :: H) (fun q hq => ?_) ?_
  · refine E_neq ?_
    rw [decide_eq_false (by decide)]
    refine E_gft ?_
    refine E_gft ?_
    refine E_gft ?_
    refine E_rslen (v := v45) (l := cu a e nL) ?_
    refine E_gft ?_
    refine E_neq ?_
    refine E_pff ?_
    rw [decide_eq_false (by
      have e8 : ([UInt8.ofNat a] : List UInt8).length + (numL e).length = (cu a e nL).length := by rw [hcl]; rfl
      omega)]
    refine E_gft ?_
    refine E_gft ?_
    refine E_lss ?_
    refine E_pff ?_
    rw [decide_eq_false (by omega)]
    refine E_gft ?_
    refine E_gft ?_
    refine E_gtr ?_
    refine E_pff ?_
    rw [decide_eq_false (by omega)]
    exact hq
  refine E_fa fun _ => ?_
  refine E_ff ?_
  refine E_rsix (v := v45) (l := cu a e nL) (i := 0) hc0 fun _ _ => ?_
  refine E_ptld ?_
  rw [hua]
  refine E_cvtI (by omega) (by omega) ?_
  refine E_nc ?_
  refine E_fad ?_
  refine E_st' (by simp) ?_
  refine E_nc ?_
  refine E_fad ?_
  refine E_st' (by simp) ?_
  rw [show (((lgC dp c nil (J0 n life)).set (0 + 7) (I a)).set (0 + 8) (I e)) = lgC dp c nil ⟨n, a, e, 0, [], false, life⟩ from rfl]
  refine rows_nil ?_
  refine E_same (G := cel true lp 66 (lgC dp c nil ⟨n, a, e, 0, [], false, life⟩) :: cel true c 91 [ptr dp, I 0, I life] :: rows B nil [] :: disk dp D :: H) (by repeat (first | exact Same.refl | (refine Same.cons (by repeat (first | exact Find.here | apply Find.there)) ?_) | (refine Same.drop ?_))) ?_
  refine E_jrS (J := ⟨n, a, e, 0, [], false, life⟩) ?_
  refine load (J := ⟨n, a, e, 0, [], false, life⟩) (bs := bs) ha hn (show e ≤ lastE by unfold lastE; omega) rfl rfl hbl hbs ?_
  exact h
end Go.Proofs.YtinggiidkfnlkaaDoor.Jn
end
section
namespace Go.Proofs.YtinggiidkfnlkaaDoor.Jn
open Go Go.SL Go.Proofs Go.Proofs.YtinggiidkfnlkaaDoor.Sh Go.Proofs.YtinggiidkfnlkaaDoor.Oct Go.Proofs.YtinggiidkfnlkaaDoor.Disk Go.Proofs.YtinggiidkfnlkaaDoor.Slot
variable {B : World} {H : List Asrt} {K : Value → WT} {W : WT}
attribute [local irreducible] S.pick S.ld S.ldN S.st S.box S.nc S.fad S.ixS S.ixA S.chr S.prt S.ext S.bin S.sh S.sbin S.beq S.neg1 S.com1 S.not1 S.cvt S.str1 S.lenS S.len S.cap S.lenM S.mx S.mn S.mkM S.cond S.gd S.fa S.dr S.rck S.join S.loop S.cvv S.eqv S.slc S.slcS S.b2s S.lk V U CF Gives E cel mpb osl ros dct dit itr lpo dfo
attribute [local irreducible] sls disk rows jr
set_option maxRecDepth 100000
theorem fits {dp n : Nat} {D : Dk} (hl : D.S.length = 2 + 2 * n) (hn2 : 2 ≤ n) (hn : n ≤ 2000) (h : E B (disk dp D :: H) (K (.bool true))) : E B (disk dp D :: H) (CF Tryd.prog 30 [ptr dp, I 0, .agg #[I 2, I n], .agg #[I (2 + n : Nat), I n]] K) := by
  refine E_mono (W := s30 _ _ _ _ K) ?_ fun _ => c30
  unfold s30
  refine E_box (vs := [I 2, I n]) fun b6 => ?_
  refine E_box (vs := [I (2 + n : Nat), I n]) fun b7 => ?_
  refine E_use (Disk.disk dp) (Disk.sectors ?_)
  have l6 : AtLen [I 2, I n] 2 := ⟨rfl⟩
  have l7 : AtLen [I (2 + n : Nat), I n] 2 := ⟨rfl⟩
  refine E_ldNA (l := [I 2, I n]) ?_
  refine E_ldNA (l := [I (2 + n : Nat), I n]) ?_
  refine E_vk (bld33 _ _ _ _) ?_
  rw [hl]
  have one : ∀ (A : Nat) (q : Kn 7) (br : Nat) (i : Int), 2 ≤ A → A + n ≤ 2 + 2 * n → E B (cel true br 32 [I A, I n] :: disk dp D :: cel true b7 32 [I (2 + n : Nat), I n] :: cel true b6 32 [I 2, I n] :: H) (app 7 q [I 0, ptr b6, ptr b7, I (2 + 2 * n : Nat), .agg #[I 2, I n, I (2 + n : Nat), I n], I i, .bool false]) →
      E B (cel true br 32 [I A, I n] :: disk dp D :: cel true b7 32 [I (2 + n : Nat), I n] :: cel true b6 32 [I 2, I n] :: H) (
 S.fad (ptr br) 1 fun v20 =>
 S.ld v20 fun v21 =>
 S.bin .lss v21 (I 2) fun v22 =>
 S.gd v22 false (S.fad (ptr br) 1) fun v24 =>
 S.gd v22 false (S.ld v24) fun v25 =>
 S.gd v22 false (fun k => k (I (2 + 2 * n : Nat))) fun v26 =>
 S.gd v22 false (S.bin .gtr v25 v26) fun v27 =>
 S.pick v22 (.bool true) v27 fun v28 =>
 S.gd v28 false (S.fad (ptr br) 0) fun v30 =>
 S.gd v28 false (S.ld v30) fun v31 =>
 S.gd v28 false (S.bin .lss v31 (I 0)) fun v32 =>
 S.pick v28 (.bool true) v32 fun v33 =>
 S.gd v33 false (S.fad (ptr br) 0) fun v35 =>
 S.gd v33 false (S.ld v35) fun v36 =>
 S.gd v33 false (fun k => k (I (2 + 2 * n : Nat))) fun v37 =>
 S.gd v33 false (S.fad (ptr br) 1) fun v38 =>
 S.gd v33 false (S.ld v38) fun v39 =>
 S.gd v33 false (S.bin .sub v37 v39) fun v40 =>
 S.gd v33 false (S.bin .gtr v36 v40) fun v41 =>
 S.pick v33 (.bool true) v41 fun v42 =>
 S.gd v42 false (S.ldN 2 (ptr br)) fun v44 =>
 S.gd v42 false (fun k => k (I 0)) fun v45 =>
 S.gd v42 false (V Tryd.prog (Instr.build 32 #[(0, v45), (1, (I 2))])) fun v46 =>
 S.gd v42 false (CF Tryd.prog 44 [v44, v46]) fun v47 =>
 S.pick v42 (.bool true) v47 fun v48 =>
 q (I 0) (ptr b6) (ptr b7) (I (2 + 2 * n : Nat)) (.agg #[I 2, I n, I (2 + n : Nat), I n]) (I i) v48) := fun A q br i hA1 hA2 hq => by
    have lr : AtLen [I A, I n] 2 := ⟨rfl⟩
    refine E_fad ?_
    refine E_ld ?_
    refine E_lss ?_
    rw [decide_eq_false (by omega)]
    refine E_gft ?_
    refine E_fad ?_
    refine E_gft ?_
    refine E_ld ?_
    refine E_gft ?_
    refine E_gft ?_
    refine E_gtr ?_
    refine E_pff ?_
    rw [decide_eq_false (by omega)]
    refine E_gft ?_
    refine E_fad0 ?_
    refine E_gft ?_
    refine E_ld ?_
    refine E_gft ?_
    refine E_lss ?_
    refine E_pff ?_
    rw [decide_eq_false (by omega)]
    refine E_gft ?_
    refine E_fad0 ?_
    refine E_gft ?_
    refine E_ld ?_
    refine E_gft ?_
    refine E_gft ?_
    refine E_fad ?_
    refine E_gft ?_
    refine E_ld ?_
    refine E_gft ?_
    refine E_subI (by omega) (by omega) ?_
    refine E_gft ?_
    refine E_gtr ?_
    refine E_pff ?_
    rw [decide_eq_false (by omega)]
    refine E_gft ?_
    refine E_ldNA (l := [I A, I n]) ?_
    refine E_gft ?_
    refine E_gft ?_
    refine E_build (l := [I 0, I 2]) str_run ?_
    refine E_gft ?_
    refine overlap (by omega) (by omega) (by omega) (by omega) (by decide) (by decide) (by decide) (by decide) ?_
    refine E_pff ?_
    rw [decide_eq_false (by omega)]
    exact hq
  refine E_loop (n := 6) (σ := Nat) (fun i => i ≤ 2) (fun i => [I 0, ptr b6, ptr b7, I (2 + 2 * n : Nat), .agg #[I 2, I n, I (2 + n : Nat), I n], I i]) (fun _ => disk dp D :: cel true b7 32 [I (2 + n : Nat), I n] :: cel true b6 32 [I 2, I n] :: H) (fun i => 2 - i) 0 (fun _ => rfl) rfl (by omega) (fun W hW => hW) ?_
  rintro i K0 hi hk
  refine E_fa fun _ => ?_
  refine E_lss ?_
  match i, hi, hk with
  | 0, hi, hk =>
    refine E_ifT (by decide) ?_
    refine E_vk (idx0 _ _ _ _) ?_
    refine E_box (vs := [I 0, I 0]) fun br => ?_
    refine E_stW (vs := [I 2, I n]) rfl rfl ?_
    refine E_join1 [I 0, ptr b6, ptr b7, I (2 + 2 * n : Nat), .agg #[I 2, I n, I (2 + n : Nat), I n], I 0, .bool false] (cel true br 32 [I 2, I n] :: disk dp D :: cel true b7 32 [I (2 + n : Nat), I n] :: cel true b6 32 [I 2, I n] :: H) (fun q hq => one 2 q br 0 (by omega) (by omega) hq) ?_
    refine E_fa fun _ => ?_
    refine E_ff ?_
    refine E_addI (by omega) (by omega) ?_
    exact sm (hk 1 (by omega) (by omega))
  | 1, hi, hk =>
    refine E_ifT (by decide) ?_
    refine E_vk (idx1 _ _ _ _) ?_
    refine E_box (vs := [I 0, I 0]) fun br => ?_
    refine E_stW (vs := [I (2 + n : Nat), I n]) rfl rfl ?_
    refine E_join1 [I 0, ptr b6, ptr b7, I (2 + 2 * n : Nat), .agg #[I 2, I n, I (2 + n : Nat), I n], I 1, .bool false] (cel true br 32 [I (2 + n : Nat), I n] :: disk dp D :: cel true b7 32 [I (2 + n : Nat), I n] :: cel true b6 32 [I 2, I n] :: H) (fun q hq => one (2 + n) q br 1 (by omega) (by omega) hq) ?_
    refine E_fa fun _ => ?_
    refine E_ff ?_
    refine E_addI (by omega) (by omega) ?_
    exact sm (hk 2 (by omega) (by omega))
  | 2, hi, hk =>
    refine E_ifF (by decide) ?_
    refine E_ldNA (l := [I 2, I n]) ?_
    refine E_ldNA (l := [I (2 + n : Nat), I n]) ?_
    refine overlap (by decide) (by decide) (by omega) (by omega) (by omega) (by omega) (by omega) (by omega) ?_
    rw [decide_eq_false (by omega)]
    refine E_notb ?_
    exact sm (G := disk dp D :: H) h
theorem openTop {dp n : Nat} {D : Dk} (hd : D.down = false) (hl : D.S.length = 2 + 2 * n) (hn2 : 2 ≤ n) (hn : n ≤ 2000)
    (h : ∀ lp c, E B (cel true lp 66 (lgC dp c nil (J0 n D.life)) :: disk dp D :: cel true c 91 [ptr dp, I 0, I D.life] :: H) (openC lp c K)) :
    E B (disk dp D :: H) (CF Tryd.prog 12 [ptr dp, I 0, .agg #[I 2, I n], .agg #[I (2 + n : Nat), I n]] K) := by
  refine E_mono (W := s12 _ _ _ _ K) ?_ fun _ => c12
  unfold s12
  refine E_box (vs := [I 2, I n]) fun b6 => ?_
  refine E_box (vs := [I (2 + n : Nat), I n]) fun b7 => ?_
  have l6 : AtLen [I 2, I n] 2 := ⟨rfl⟩
  have l7 : AtLen [I (2 + n : Nat), I n] 2 := ⟨rfl⟩
  refine E_use (Disk.disk dp) (open_ hd (by decide) (by omega) fun c => ?_)
  refine E_ext ?_
  refine E_ext ?_
  refine E_neq ?_
  refine E_ifF (by decide) ?_
  refine E_ldNA (l := [I 2, I n]) ?_
  refine E_ldNA (l := [I (2 + n : Nat), I n]) ?_
  refine E_use (Disk.disk dp) (fits hl hn2 hn ?_)
  refine E_notb ?_
  refine E_ff ?_
  refine E_dr ?_
  refine E_ldNA (l := [I 2, I n]) ?_
  refine E_ldNA (l := [I (2 + n : Nat), I n]) ?_
  refine E_both ?_ ?_
  · refine E_use (Disk.disk dp) (Disk.life ?_)
    refine E_rck1 (E_ldNA (l := [I (2 + n : Nat), I n]) (E_fact rfl)) ?_
    refine E_rck1 (E_ldNA (l := [I 2, I n]) (E_fact rfl)) ?_
    refine E_rck0 ?_
    refine E_vk (bld33 _ _ _ _) ?_
    refine E_build (l := lgC dp c nil (J0 n D.life)) str_log ?_
    refine E_box (vs := lgC dp c nil (J0 n D.life)) fun lp => ?_
    have := h lp c
    unfold openC at this
    refine E_same (G := cel true lp 66 (lgC dp c nil (J0 n D.life)) :: disk dp D :: cel true c 91 [ptr dp, I 0, I D.life] :: H) (by repeat (first | exact Same.refl | (refine Same.cons (by repeat (first | exact Find.here | apply Find.there)) ?_) | (refine Same.drop ?_))) ?_
    exact this
  · refine E_vk (bld33 _ _ _ _) ?_
    refine E_use (Disk.disk dp) (Disk.life ?_)
    refine E_build (l := lgC dp c nil (J0 n D.life)) str_log ?_
    refine E_box (vs := lgC dp c nil (J0 n D.life)) fun lp => ?_
    have := h lp c
    unfold openC at this
    refine E_same (G := cel true lp 66 (lgC dp c nil (J0 n D.life)) :: disk dp D :: cel true c 91 [ptr dp, I 0, I D.life] :: H) (by repeat (first | exact Same.refl | (refine Same.cons (by repeat (first | exact Find.here | apply Find.there)) ?_) | (refine Same.drop ?_))) ?_
    exact this
end Go.Proofs.YtinggiidkfnlkaaDoor.Jn
end
section
namespace Go.Proofs.YtinggiidkfnlkaaDoor.Jn
open Go Go.SL Go.Proofs Go.Proofs.YtinggiidkfnlkaaDoor.Sh Go.Proofs.YtinggiidkfnlkaaDoor.Oct Go.Proofs.YtinggiidkfnlkaaDoor.Disk Go.Proofs.YtinggiidkfnlkaaDoor.Slot
variable {B : World} {H : List Asrt} {K : Value → WT} {W : WT}
def Bs0 (n : Nat) : List (List UInt8) := List.replicate (2 + 2 * n) zero128
def D1 (n : Nat) : Dk := cl ((Bs0 n).set 0 (laidL 1 (cu 0 1 nL))) 0 0
theorem cu_len (a e : Nat) : (cu a e nL).length ≤ 11 := by
  have := nL_len e
  unfold cu; rw [List.length_cons]; omega
theorem zero_at {n i : Nat} (h : i < 2 + 2 * n) : (Bs0 n)[i]? = some zero128 := by
  unfold Bs0
  rw [List.getElem?_replicate, if_pos h]
theorem at0 (n : Nat) (h : 1 ≤ n) : At (Bs0 n) 0 zero128 zero128 := ⟨zero_at (by omega), zero_at (by omega)⟩
theorem tl_zero : tl 6 zero128 = 0 ∧ hd 6 zero128 = 0 := by
  have := (Sm.zero (w := 6) 0 (by decide)).le (by decide) (by decide)
  unfold zero128
  omega
theorem fr_zero (n : Nat) : frN n (cl (Bs0 n) 0 0) 0 = 0 := by
  have hz : ∀ i, i < 2 + 2 * n → (cl (Bs0 n) 0 0).rd (i : Int) = zero128 := fun i hi => rd_cl (zero_at hi)
  have h1 : frT (cl (Bs0 n) 0 0) 2 n 0 ≤ 0 := frT_max (Nat.le_refl _) fun i hi => by
    rw [hz (2 + i) (by omega)]
    have := tl_zero
    omega
  have h2 : frT (cl (Bs0 n) 0 0) (2 + n) n (frT (cl (Bs0 n) 0 0) 2 n 0) ≤ 0 := frT_max h1 fun i hi => by
    rw [hz (2 + n + i) (by omega)]
    have := tl_zero
    omega
  unfold frN
  omega
theorem set_new {n : Nat} (h : 1 ≤ n) : setE (cl (Bs0 n) 0 0) 0 0 (cu 0 1 nL) = 0 ∧ setD (cl (Bs0 n) 0 0) 0 0 (cu 0 1 nL) = D1 n := by
  have := (first_set (k := 0) (l := 0) (at0 n h) (t := cu 0 1 nL) (by have := cu_len 0 1; omega)).1.ok (.inl rfl)
  exact this
theorem up1 {n : Nat} (h : 1 ≤ n) : Up nL n (D1 n) 1 1 0 1 [] 0 := by
  obtain ⟨X, Y, h1, h2⟩ := (first_set (k := 0) (l := 0) (at0 n h) (t := cu 0 1 nL) (by have := cu_len 0 1; omega)).2
  have hx := h1.x
  have hy := h1.y
  have hat : ∀ i, 2 ≤ i → ∀ s, (D1 n).S[i]? = some s → s = ⟨zero128, none⟩ := fun i hi s hs => by
    have hs' : (((Bs0 n).set 0 (laidL 1 (cu 0 1 nL))).map fun b => (⟨b, none⟩ : Sec))[i]? = some s := hs
    rw [List.getElem?_map, List.getElem?_set_ne (by omega)] at hs'
    obtain ⟨b, hb, rfl⟩ := Option.map_eq_some_iff.1 hs'
    unfold Bs0 at hb
    rw [List.getElem?_replicate] at hb
    split at hb
    · cases hb; rfl
    · cases hb
  refine ⟨⟨?_, ⟨1, X, Y, Nat.le_refl _, ?_, ?_, h2⟩, fun i s hi hs => ?_, by decide, by decide, by decide, by decide, by decide⟩, rfl, Int.le_refl 0, ?_, fun r hr => (by cases hr), Nat.zero_le _, Nat.le_refl _⟩
  · show (((Bs0 n).set 0 _).map _).length = _
    rw [List.length_map, List.length_set]; unfold Bs0; rw [List.length_replicate]
  · show (((Bs0 n).set 0 _).map _)[0]? = _
    rw [List.getElem?_map, hx]; rfl
  · show (((Bs0 n).set 0 _).map _)[1]? = _
    rw [List.getElem?_map, show (1 : Nat) = 0 + 1 from rfl, hy]; rfl
  · rw [hat i hi s hs]
    exact FS.clean (Sm.zero 1 (by decide))
  · intro i s hs
    unfold secs at hs
    have hs2 : (D1 n).S[ar n 0 + i]? = some s := by
      have := List.mem_of_getElem? hs
      have hi : i < n := by
        have := (List.getElem?_eq_some_iff.1 hs).1
        rw [List.length_take] at this; omega
      rw [List.getElem?_take_of_lt hi, List.getElem?_drop] at hs
      exact hs
    have := hat _ (by unfold ar; omega) s hs2
    subst this
    refine ⟨fun x hx => (by simp [allL] at hx), fun _ => ⟨by have := tl_zero; simp only; omega, fun b hb => by cases hb⟩⟩
theorem new_get {n : Nat} (h : 1 ≤ n) : getE (cl (Bs0 n) 0 0) 0 0 = 9 ∧ getB (cl (Bs0 n) 0 0) 0 0 = [] ∧ ∀ c ∈ zero128, c = 0 := by
  have hz : ∀ c ∈ zero128, c = 0 := fun c h => by unfold zero128 at h; exact (List.mem_replicate.1 h).2
  have hE := (at0 n h).getE (k := 0) (l := 0)
  have hB := (at0 n h).getB (k := 0) (l := 0)
  rw [rd_zero, if_pos (by decide)] at hE hB
  rw [if_pos ⟨hz, hz⟩] at hE
  exact ⟨hE, hB, hz⟩
attribute [local irreducible] S.pick S.ld S.ldN S.st S.box S.nc S.fad S.ixS S.ixA S.chr S.prt S.ext S.bin S.sh S.sbin S.beq S.neg1 S.com1 S.not1 S.cvt S.str1 S.lenS S.len S.cap S.lenM S.mx S.mn S.mkM S.cond S.gd S.fa S.dr S.rck S.join S.loop S.cvv S.eqv S.slc S.slcS S.b2s S.lk V U CF Gives E cel mpb osl ros dct dit itr lpo dfo
attribute [local irreducible] sls disk rows jr
set_option maxRecDepth 100000
theorem openNew {dp n : Nat} (hn2 : 2 ≤ n) (hn : n ≤ 2000) (h : ∀ lp, E B (jr B lp dp ⟨n, 0, 1, 0, [], true, 0⟩ :: disk dp (D1 n) :: H) (K (.tuple #[ptr lp, I 0]))) :
    E B (disk dp (Dk.new (2 + 2 * n)) :: H) (CF Tryd.prog 12 [ptr dp, I 0, .agg #[I 2, I n], .agg #[I (2 + n : Nat), I n]] K) := by
  rw [new_cl, show List.replicate (2 + 2 * n) zero128 = Bs0 n from rfl]
  have hl : (cl (Bs0 n) 0 0).S.length = 2 + 2 * n := by unfold cl Bs0; simp
  obtain ⟨g1, g2, g3⟩ := new_get (n := n) (by omega)
  obtain ⟨s1, s2⟩ := set_new (n := n) (by omega)
  refine openTop rfl hl hn2 hn fun lp c => ?_
  unfold openC
  refine fd (a := disk dp (cl (Bs0 n) 0 0)) ?_
  refine Slot.get (a := dp) (c := c) (base := 0) (life := 0) (by decide) (by decide) (fun _ _ => ⟨?_, ?_⟩) fun v45 _ => ?_
  · rw [show (cl (Bs0 n) 0 0).rd 0 = zero128 from rd_cl (i := 0) (zero_at (by omega))]
    exact ah_zero g3
  · rw [show (cl (Bs0 n) 0 0).rd (0 + 1) = zero128 from rd_cl (i := 1) (zero_at (by omega))]
    exact ah_zero g3
  rw [g1]
  refine E_ext ?_
  refine E_ext ?_
  refine E_eql ?_
  refine E_ifT rfl ?_
  refine rows_nil ?_
  refine E_same (G := cel true lp 66 (lgC dp c nil (J0 n 0)) :: cel true c 91 [ptr dp, I 0, I 0] :: rows B nil [] :: disk dp (cl (Bs0 n) 0 0) :: H) (by repeat (first | exact Same.refl | (refine Same.cons (by repeat (first | exact Find.here | apply Find.there)) ?_) | (refine Same.drop ?_))) ?_
  refine E_jrS (J := J0 n 0) ?_
  refine format rfl hl (fr_zero n) s1 ?_
  rw [s2]
  refine E_ext ?_
  refine E_ext ?_
  exact h lp
theorem openOld {dp n N m a e : Nat} {Bs : List (List UInt8)} {l : Int} {recs : List (List UInt8)} (hn2 : 2 ≤ n) (hn : n ≤ 2000) (ho : Opn nL n Bs N m a e recs) (h : ∀ lp, E B (jr B lp dp ⟨n, a, e, tot recs, recs, false, l⟩ :: disk dp (cl Bs 0 l) :: H) (K (.tuple #[ptr lp, I 0]))) :
    E B (disk dp (cl Bs 0 l) :: H) (CF Tryd.prog 12 [ptr dp, I 0, .agg #[I 2, I n], .agg #[I (2 + n : Nat), I n]] K) := by
  have hb := ho.bse
  have hl : (cl Bs 0 l).S.length = 2 + 2 * n := hb.len
  have hbl : Bs.length = 2 + 2 * n := by unfold cl at hl; simpa using hl
  obtain ⟨q, X, Y, hq, hA, hc⟩ := cell_cl hb
  have hq2 : q ≤ 250 := by have := hb.m1; omega
  have hg := hc.get (k := 0) (l := l) hq2 hA
  have hcur := hc.cur (k := 0) (l := l) hq2 hA
  have ha := hb.a1
  obtain ⟨ar1, ar2⟩ := ar_le (n := n) ha
  refine openTop rfl hl hn2 hn fun lp c => ?_
  refine openEnd (a := a) (e := e) (bs := barea Bs n a) hn ha hb.e1 (by have := hb.eN; have := hb.N1; omega) hg.1 hg.2 hcur ?_ (fun i b hi => ?_) ?_
  · unfold barea
    rw [List.length_take, List.length_drop]; omega
  · have hin : i < n := by
      have := (List.getElem?_eq_some_iff.1 hi).1
      unfold barea at this; rw [List.length_take] at this; omega
    unfold barea at hi
    rw [List.getElem?_take_of_lt hin, List.getElem?_drop] at hi
    exact rd_cl hi
  · rw [ho.fin, ho.rd]
    exact h lp
end Go.Proofs.YtinggiidkfnlkaaDoor.Jn
end
section
namespace Go.Proofs.YtinggiidkfnlkaaDoor.Jn
open Go Go.SL Go.Proofs Go.Proofs.YtinggiidkfnlkaaDoor.Sh Go.Proofs.YtinggiidkfnlkaaDoor.Oct Go.Proofs.YtinggiidkfnlkaaDoor.Disk Go.Proofs.YtinggiidkfnlkaaDoor.Slot
variable {B : World} {H : List Asrt} {K : Value → WT} {W : WT}
def Jl.of (n a e : Nat) (all : List (List UInt8)) (life : Int) : Jl := ⟨n, a, e, tot all, all, true, life⟩
theorem recs_len {all : List (List UInt8)} (h : ∀ r ∈ all, Rec r) : all.length ≤ tot all := by
  induction all with
  | nil => exact Nat.zero_le _
  | cons r l ih =>
    have h1 := (h r (List.mem_cons_self ..)).1
    have h2 := ih fun x hx => h x (List.mem_cons_of_mem _ hx)
    unfold tot at h2 ⊢
    rw [allL_cons, List.length_append, leaves_len, List.length_cons]
    have : 1 ≤ takes r.length := by unfold takes; omega
    omega
theorem Up.jok {n N m a e sure : Nat} {D : Dk} {all : List (List UInt8)} {life : Int} (h : Up nL n D N m a e all sure) (hn : n ≤ 2000) : JOk (Jl.of n a e all life) := by
  have hb := h.bse
  have h1 := recs_len h.ok
  have h2 := h.le
  exact ⟨hb.a1, hn, h.le, by show e ≤ lastE; have := hb.eN; have := hb.N1; unfold lastE; omega, fun r hr => (h.ok r hr).2, by show all.length ≤ 2000; unfold tot at h1; omega⟩
theorem off_up {D : Dk} (h : D.down = false) : offE D D.life = 0 := by unfold offE; simp [h]
theorem app_up {n N m a e sure : Nat} {D : Dk} {all : List (List UInt8)} {r : List UInt8} (h : Up nL n D N m a e all sure) :
    (wr1 r ≠ 0 ∧ appR D (Jl.of n a e all D.life) r = (D, Jl.of n a e all D.life, wr1 r)) ∨ (wr1 r = 0 ∧ n < tot all + takes r.length ∧ appR D (Jl.of n a e all D.life) r = (D, Jl.of n a e all D.life, 8)) ∨
    (wr1 r = 0 ∧ tot all + takes r.length ≤ n ∧ ((∃ D', appR D (Jl.of n a e all D.life) r = (D', Jl.of n a e (all ++ [r]) D.life, 0) ∧ D'.life = D.life ∧ Up nL n D' N m a e (all ++ [r]) sure) ∨
      (D.trip ≠ 0 ∧ ∃ D', appR D (Jl.of n a e all D.life) r = (D', Jl.of n a e all D.life, 7) ∧ D'.life = D.life ∧ D'.down = true ∧ Dead nL n D' N m (Begin all sure)))) := by
  have ho := off_up h.dn
  have e0 : appR D (Jl.of n a e all D.life) r = if wr1 r ≠ 0 then (D, Jl.of n a e all D.life, wr1 r) else if n - tot all < takes r.length then (D, Jl.of n a e all D.life, 8) else
      if (wrL e (ar n a) D (tot all) (leavesOf r)).2 ≠ 0 then ((wrL e (ar n a) D (tot all) (leavesOf r)).1, Jl.of n a e all D.life, (wrL e (ar n a) D (tot all) (leavesOf r)).2) else
      ((wrL e (ar n a) D (tot all) (leavesOf r)).1, { Jl.of n a e all D.life with fin := tot all + takes r.length, recs := all ++ [r] }, 0) := by
    unfold appR
    rw [show (Jl.of n a e all D.life).life = D.life from rfl, if_neg (by rw [ho]; simp), if_neg (by show ¬ true = false; decide)]
    rfl
  rw [e0]
  by_cases h1 : wr1 r ≠ 0
  · exact .inl ⟨h1, by rw [if_pos h1]⟩
  rw [if_neg h1]
  have h1' : wr1 r = 0 := by simpa using h1
  have hle : tot all ≤ n := h.le
  by_cases h2 : n - tot all < takes r.length
  · exact .inr (.inl ⟨h1', by omega, by rw [if_pos h2]⟩)
  rw [if_neg h2]
  refine .inr (.inr ⟨h1', by omega, ?_⟩)
  have hrec := wr1_ok h1'
  obtain ⟨a1, a2⟩ := ar_le (n := n) h.bse.a1
  have hlen := h.bse.len
  have hll := leaves_len r
  have hu := h.append hrec (show (allL all).length + takes r.length ≤ n by unfold tot at h2 hle; omega)
  have hw := (wrL_out (e := e) (A := ar n a) (l := leavesOf r) (n := (allL all).length) h.dn h.tr (by unfold tot at h2 hle; omega) (fun x hx => (leaves_ok hx).2.2.2)).zero
  rw [show (allL all).length = tot all from rfl] at hu hw
  obtain ⟨hl, hu⟩ := hu
  rcases hu with ⟨u1, u2⟩ | ⟨u1, u2, u3⟩
  · refine .inl ⟨_, ?_, hl, u2⟩
    rw [if_neg (by rw [u1]; simp)]
    have ht : tot (all ++ [r]) = tot all + takes r.length := by unfold tot; rw [allL_app, List.length_append]; simp [allL, leaves_len]
    unfold Jl.of
    rw [ht]
  · refine .inr ⟨fun hz => by have := (hw hz).1; omega, _, ?_, hl, u2, u3⟩
    rw [if_pos (by rw [u1]; decide), u1]
def lost : Cr := ⟨[], -1, 0⟩
attribute [local irreducible] S.pick S.ld S.ldN S.st S.box S.nc S.fad S.ixS S.ixA S.chr S.prt S.ext S.bin S.sh S.sbin S.beq S.neg1 S.com1 S.not1 S.cvt S.str1 S.lenS S.len S.cap S.lenM S.mx S.mn S.mkM S.cond S.gd S.fa S.dr S.rck S.join S.loop S.cvv S.eqv S.slc S.slcS S.b2s S.lk V U CF Gives E cel mpb osl ros dct dit itr lpo dfo
attribute [local irreducible] sls disk rows jr
set_option maxRecDepth 100000
theorem live (h : E B H (K (.bool true))) : E B H (CF Tryd.prog 9 [] K) := by
  refine E_mono (W := s9 K) ?_ fun _ => c9
  unfold s9
  refine Disk.new (fun hb => by omega) (fun _ _ dp => ?_)
  rw [show (20 : Int).toNat = 2 + 2 * 9 from rfl]
  refine E_ext ?_
  refine E_ext ?_
  refine E_join1 [ptr dp, .bool false] (disk dp (Dk.new (2 + 2 * 9)) :: H) (fun q hq => ?_) ?_
  · refine E_neq ?_
    rw [decide_eq_false (by decide)]
    refine E_gft ?_
    refine E_gft ?_
    refine E_peq u_pDisk ?_
    refine E_pff ?_
    exact hq
  refine E_fa fun _ => ?_
  refine E_ff ?_
  refine E_build (l := [I 2, I 9]) str_run ?_
  refine E_build (l := [I 11, I 9]) str_run ?_
  refine openNew (n := 9) (by decide) (by decide) fun lp => ?_
  refine E_ext ?_
  refine E_ext ?_
  have hu := up1 (n := 9) (by decide)
  have happ := app_up (r := [97]) hu
  rw [show (D1 9).life = 0 from rfl] at happ
  have hJ : (⟨9, 0, 1, 0, [], true, 0⟩ : Jl) = Jl.of 9 0 1 [] 0 := rfl
  rcases happ with ⟨h1, _⟩ | ⟨_, h2, _⟩ | ⟨_, _, h3⟩
  · exact absurd (by decide) h1
  · have : tot [] + takes [(97 : UInt8)].length = 1 := by decide
    omega
  rcases h3 with ⟨D', e1, _, u1⟩ | ⟨ht, _⟩
  rotate_left
  · exact absurd rfl ht
  refine E_join1 [ptr lp, .bool false] (jr B lp dp (Jl.of 9 0 1 [[97]] 0) :: disk dp D' :: H) (fun q hq => ?_) ?_
  · refine E_neq ?_
    rw [decide_eq_false (by decide)]
    refine E_gft ?_
    refine E_gft ?_
    refine E_peq u_pLog ?_
    refine E_pff ?_
    refine E_gft ?_
    refine E_gft ?_
    refine settled ?_
    refine E_gft ?_
    refine E_notT ?_
    refine E_pff ?_
    refine E_gft ?_
    refine E_gft ?_
    refine left (by decide) (by decide) (by decide) ?_
    refine E_gft ?_
    refine E_neq ?_
    refine E_pff ?_
    rw [decide_eq_false (by decide)]
    refine E_gft ?_
    refine E_gft ?_
    refine E_bsl (l0 := [.int .u8 0]) [(0, 1)] u_bytes elt_byte (by simp) (by decide) rfl fun b1 => ?_
    refine E_gft ?_
    refine E_cvslice u_bytes u_byte ?_
    refine E_slsC (enc := cB) [97] 1 rfl rfl ?_
    refine E_gft ?_
    refine E_same (G := jr B lp dp (Jl.of 9 0 1 [] 0) :: disk dp (D1 9) :: sls cB 5 1 (.slice (some ⟨b1, 0, none⟩) 1 1) [97] :: H) (by repeat (first | exact Same.refl | (refine Same.cons (by repeat (first | exact Find.here | apply Find.there)) ?_) | (refine Same.drop ?_))) ?_
    have hb : ∀ Q, Rb B (Q ++ (sls cB 5 1 (.slice (some ⟨b1, 0, none⟩) 1 1) [97] :: H)) (.slice (some ⟨b1, 0, none⟩) 1 1) [97] := fun Q => rb_rs (rs_app Q rs_sls)
    refine append (r := [97]) (hu.jok (by decide)) (by decide) ?_
    rw [e1]
    simp only [List.nil_append]
    refine E_gft ?_
    refine E_neq ?_
    refine E_pff ?_
    rw [decide_eq_false (by decide)]
    exact sm (G := jr B lp dp (Jl.of 9 0 1 [[97]] 0) :: disk dp D' :: H) hq
  refine E_fa fun _ => ?_
  refine E_ff ?_
  refine records (u1.jok (by decide)) fun v47 _ => ?_
  refine E_rows fun bs L hr => ?_
  have hre : bs.map (·.bs) = [[97]] := hr.e
  have hbl : bs.length = 1 := by have := congrArg List.length hre; simpa using this
  obtain ⟨p, rfl⟩ : ∃ p, bs = [p] := by
    match bs, hbl with
    | [p], _ => exact ⟨p, rfl⟩
  have hp : p.bs = [97] := by simpa using hre
  have hpr := hr.r p (List.mem_singleton.2 rfl) (jr B lp dp (Jl.of 9 0 1 [[97]] 0) :: disk dp D' :: H)
  rw [hp] at hpr
  have hpr2 : Rb B (sls cV 22 1 v47 [p] :: spool cB L :: jr B lp dp (Jl.of 9 0 1 [[97]] 0) :: disk dp D' :: H) p.v [97] := rb_there
  refine E_rslen (v := v47) (l := [p]) ?_
  refine E_eql ?_
  rw [show decide ((([p] : List Bv).length : Int) = 1) = true from rfl]
  refine E_gtf ?_
  refine E_gtf ?_
  refine E_rsix (v := v47) (l := [p]) (i := 0) (x := p) rfl fun _ _ => ?_
  refine E_gtf ?_
  refine E_ptld ?_
  refine E_gtf ?_
  refine E_b2sR (v := p.v) (bs := [97]) ?_
  refine E_gtf ?_
  refine E_streqS ?_
  refine E_ptt ?_
  refine E_gtf ?_
  refine E_gtf ?_
  refine fd (a := jr B lp dp (Jl.of 9 0 1 [[97]] 0)) ?_
  refine left (by decide) (by decide) (by decide) ?_
  refine E_gtf ?_
  refine E_eql ?_
  refine E_ptt ?_
  rw [decide_eq_true (by decide)]
  refine E_gtf ?_
  refine takesP (n := 108) (by decide) ?_
  refine E_gtf ?_
  refine E_eql ?_
  refine E_ptt ?_
  rw [decide_eq_true (by decide)]
  refine E_gtf ?_
  refine takesP (n := 109) (by decide) ?_
  refine E_gtf ?_
  refine E_eql ?_
  refine E_ptt ?_
  rw [decide_eq_true (by decide)]
  exact sm (G := H) h
abbrev rnC (dp lp : Nat) (all half : Value) (sure : Int) (br : Bool) : List Value := [ptr dp, ptr lp, all, I sure, half, .bool br, I 2, I 40, I 42, I 40, .bool false]
theorem str_rn : Str Tryd.prog 35 [(0, 1), (1, 1), (2, 1), (3, 1), (4, 1), (5, 1), (6, 4), (10, 1)] [.pointer none, .pointer none, nil, I 0, nil, .bool false, I 0, I 0, I 0, I 0, .bool false] := str_of (zv := .agg #[.pointer none, .pointer none, nil, I 0, nil, .bool false, I 0, I 0, I 0, I 0, .bool false]) (by kernel_rfl) (by kernel_rfl) rfl
theorem start (h : ∀ rp dp lp, E B (cel true rp 35 (rnC dp lp nil nil 0 false) :: jr B lp dp (Jl.of 40 0 1 [] 0) :: disk dp (D1 40) :: H) (K (.tuple #[ptr rp, .bool true]))) : E B H (CF Tryd.prog 6 [] K) := by
  refine E_mono (W := s6 K) ?_ fun _ => c6
  unfold s6
  refine Disk.new (fun hb => by omega) (fun _ _ dp => ?_)
  rw [show (82 : Int).toNat = 2 + 2 * 40 from rfl]
  refine E_ext ?_
  refine E_ext ?_
  refine E_join1 [ptr dp, .bool false] (disk dp (Dk.new (2 + 2 * 40)) :: H) (fun q hq => ?_) ?_
  · refine E_neq ?_
    rw [decide_eq_false (by decide)]
    refine E_gft ?_
    refine E_gft ?_
    refine E_peq u_pDisk ?_
    refine E_pff ?_
    exact hq
  refine E_fa fun _ => ?_
  refine E_ff ?_
  refine E_build (l := [I 2, I 40]) str_run ?_
  refine E_build (l := [I 42, I 40]) str_run ?_
  refine E_vk (bld33 _ _ _ _) ?_
  refine E_build (l := [ptr dp, .pointer none, nil, I 0, nil, .bool false, I 2, I 40, I 42, I 40, .bool false]) str_rn ?_
  refine E_box (vs := [ptr dp, .pointer none, nil, I 0, nil, .bool false, I 2, I 40, I 42, I 40, .bool false]) fun rp => ?_
  refine E_dr ?_
  refine E_nc ?_
  refine E_fad ?_
  refine E_ixAo (by decide) (by decide) ?_
  refine E_ldN (cs := [I 2, I 40]) rfl rfl ?_
  refine E_nc ?_
  refine E_fad ?_
  refine E_ixAo (by decide) (by decide) ?_
  refine E_ldN (cs := [I 42, I 40]) rfl rfl ?_
  refine E_perm (.swap ..) ?_
  refine openNew (n := 40) (by decide) (by decide) fun lp => ?_
  refine E_ext ?_
  refine E_ext ?_
  refine E_nc ?_
  refine E_fad ?_
  refine E_st' (by simp) ?_
  refine E_eql ?_
  rw [decide_eq_true rfl]
  refine E_gtf ?_
  refine E_gtf ?_
  refine E_pne u_pLog ?_
  refine E_ptt ?_
  exact h rp dp lp
end Go.Proofs.YtinggiidkfnlkaaDoor.Jn
end
section
namespace Go.Proofs.YtinggiidkfnlkaaDoor.Jn
open Go Go.SL Go.Proofs Go.Proofs.YtinggiidkfnlkaaDoor.Sh Go.Proofs.YtinggiidkfnlkaaDoor.Oct Go.Proofs.YtinggiidkfnlkaaDoor.Disk Go.Proofs.YtinggiidkfnlkaaDoor.Slot
variable {B : World} {H : List Asrt} {K : Value → WT} {W : WT}
attribute [local irreducible] S.pick S.ld S.ldN S.st S.box S.nc S.fad S.ixS S.ixA S.chr S.prt S.ext S.bin S.sh S.sbin S.beq S.neg1 S.com1 S.not1 S.cvt S.str1 S.lenS S.len S.cap S.lenM S.mx S.mn S.mkM S.cond S.gd S.fa S.dr S.rck S.join S.loop S.cvv S.eqv S.slc S.slcS S.b2s S.lk V U CF Gives E cel mpb osl ros dct dit itr lpo dfo
attribute [local irreducible] sls disk rows jr
set_option maxRecDepth 100000
theorem append_nil {v : Value} (h : E B H (K (I 1))) : E B H (CF Tryd.prog 8 [.pointer none, v] K) := by
  refine E_mono (W := s8 _ _ K) ?_ fun _ => c8
  unfold s8
  refine off_nil ?_
  refine E_neq ?_
  refine E_ifT (by decide) ?_
  exact h
end Go.Proofs.YtinggiidkfnlkaaDoor.Jn
end
