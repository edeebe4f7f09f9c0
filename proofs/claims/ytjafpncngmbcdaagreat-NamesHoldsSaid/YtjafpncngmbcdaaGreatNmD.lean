/-
  Names: a ref is laid (only whether it may be counts); record.Check.
-/
import Derived.Test.YtjafpncngmbcdaaGreatNmC
set_option linter.unusedSimpArgs false
set_option linter.unusedVariables false
set_option linter.unusedSectionVars false
namespace Go.SL
open Go.RowKit
variable {B : World} {H : List Asrt} {K : Value → WT} {P : Program}
/-- a[:] of an array. -/
theorem E_slcA {t e n b sz : Nat} (hu : P.underlying t = some (.array n e)) (hs : (P.info? e).map (fun i => i.size) = some sz) (h : E B H (K (.slice (some ⟨b, 0, none⟩) n n))) : E B H (V P (Instr.sliceAt t (.pointer (some ⟨b, 0, none⟩)) none none none) K) := by
  obtain ⟨i, hi, _⟩ := Option.map_eq_some_iff.1 hs
  refine E_Vok fun w hw => ⟨_, w, ?_, h w hw⟩
  unfold Instr.sliceAt
  rw [run_bind, run_underlying' hu]
  simp only [Instr.sureAddr, Instr.sliceBounds, run_bind, run_pure, run_size' hi]
  congr 2
  simp [Addr.add]
end Go.SL
namespace Go.Proofs.YtjafpncngmbcdaaGreat.Nam
open Go Go.SL Go.Proofs Go.Proofs.YtjafpncngmbcdaaGreat.Sh
variable {B : World} {H : List Asrt} {K : Value → WT} {W : WT} {c : Bool} {x y z : Value}
attribute [local irreducible] S.pick S.ld S.ldN S.st S.box S.nc S.fad S.ixS S.ixA S.chr S.prt S.ext S.bin S.sh S.sbin S.beq S.neg1 S.com1 S.not1 S.cvt S.str1 S.lenS S.len S.cap S.lenM S.mx S.mn S.mkM S.cond S.gd S.fa S.dr S.rck S.join S.loop S.cvv S.eqv S.slc S.slcS S.b2s S.lk V U CF Gives E cel mpb osl ros dct dit itr lpo dfo
set_option maxRecDepth 8000
theorem octNum {n : Int} (h : ∀ v bs e [CellI v], bs.length ≤ 60 → E B (sls cB 5 1 v bs :: H) (K (.tuple #[v, I e]))) : E B H (CF Tryz.prog 150 [I n] K) := by
  refine E_mono (W := s150 _ K) ?_ fun _ => c150
  unfold s150
  refine E_mono (W := s172 _ _) ?_ fun _ => c172
  unfold s172
  (repeat first | refine gS ?_ | refine gY ?_ | refine gA fun _ => ?_ | refine gX fun _ _ => ?_ | refine gI ?_)
  refine E_ifb (fun e => ?_) (fun e => ?_)
  · exact sls_nil cB 1 (T := 5) (h nil [] 6 (by decide))
  have hn : 0 ≤ n ∧ n ≤ 9007199254740991 := by simpa using e
  refine E_loop (n := 2) (σ := Nat × Value × List UInt8) (fun s => isCell s.2.1 = true ∧ s.2.2.length ≤ 53 ∧ s.1 < 2 ^ (53 - s.2.2.length)) (fun s => [I s.1, s.2.1]) (fun s => sls cB 5 1 s.2.1 s.2.2 :: H) (fun s => s.1) (n.toNat, nil, []) (fun _ => rfl) (by simp; omega) ⟨rfl, by simp, by simp; omega⟩ (fun W hW => sls_nil cB 1 (T := 5) hW) ?_
  rintro ⟨m, v, bs⟩ K0 ⟨hv, hl, hm⟩ hk
  simp only at hv hl hm hk ⊢
  have : CellI v := ⟨hv⟩
  refine E_fa fun _ => ?_
  refine E_geq ?_
  refine E_if (fun hc => ?_) (fun hc => ?_)
  · refine E_remI (by omega) (by omega) ?_
    refine E_cvt8 (by omega) ?_
    refine E_add ?_
    rw [wrap8 _ (by omega)]
    refine E_sapp1 (enc := cB) _ u_bytes elt_byte rfl (by decide) (by omega) (by omega) fun v' _ => ?_
    refine E_shrI (by omega) (by decide) (by decide) ?_
    have e1 : (m : Int) / 2 ^ (7 : Int).toNat = ((m / 128 : Nat) : Int) := by simp
    rw [e1]
    have hlt : bs.length < 53 := by
      rcases Nat.lt_or_ge bs.length 53 with h | h
      · exact h
      · have : 53 - bs.length = 0 := by omega
        rw [this] at hm; omega
    refine hk (m / 128, v', bs ++ [_]) ⟨CellI.pf, by simp only [List.length_append, List.length_singleton]; omega, ?_⟩ (by simp only; omega)
    simp only [List.length_append, List.length_singleton]
    have e2 : 53 - bs.length = (53 - (bs.length + 1)) + 1 := by omega
    rw [e2, Nat.pow_succ] at hm
    omega
  · refine E_cvt8 (by omega) ?_
    refine E_sapp1 (enc := cB) _ u_bytes elt_byte rfl (by decide) (by omega) (by omega) fun v' _ => ?_
    exact h v' _ 0 (by simp only [List.length_append, List.length_singleton]; omega)
theorem nums {v lv : Value} {bs : List UInt8} {l : List Int} [CellI v] [hr : Rs B H lv cI l] (hb : bs.length + 60 * l.length ≤ 100000) (h : ∀ v' bs' [CellI v'], bs'.length ≤ bs.length + 60 * l.length → E B (sls cB 5 1 v' bs' :: H) (K v')) : E B (sls cB 5 1 v bs :: H) (CF Tryz.prog 139 [v, lv] K) := by
  refine E_mono (W := s139 _ _ K) ?_ fun _ => c139
  unfold s139
  refine E_rslen (v := lv) (l := l) ?_
  refine E_loop (σ := Nat × Value × List UInt8) (fun s => isCell s.2.1 = true ∧ s.1 ≤ l.length ∧ s.2.2.length ≤ bs.length + 60 * s.1) (fun s => [s.2.1, lv, I l.length, I s.1]) (fun s => sls cB 5 1 s.2.1 s.2.2 :: H) (fun s => l.length - s.1) (0, v, bs) (fun _ => rfl) rfl ⟨CellI.pf, Nat.zero_le _, by simp⟩ (fun W hW => hW) ?_
  rintro ⟨i, u, cs⟩ K0 ⟨hu, hi, hcs⟩ hk
  simp only at hu hi hcs hk ⊢
  have : CellI u := ⟨hu⟩
  refine E_fa fun _ => ?_
  refine E_lss ?_
  refine E_if (fun hc => ?_) (fun hc => ?_)
  · have hx : l[i]? = some l[i] := List.getElem?_eq_getElem (by omega)
    generalize l[i] = x at hx
    refine E_rsix (v := lv) (l := l) hx fun _ _ => ?_
    refine E_ptld ?_
    refine octNum fun w ds e _ hds => ?_
    (repeat first | refine gS ?_ | refine gA fun _ => ?_ | refine gX fun _ _ => ?_ | refine gT ?_ | refine gF ?_ | refine gI ?_)
    refine fd (a := sls cB 5 1 u cs) ?_
    refine E_sapps (enc := cB) (l := cs) (m := ds) u_bytes elt_byte (by omega) (by omega) fun u' _ => ?_
    refine E_addI (by omega) (by omega) ?_
    exact sm (hk (i + 1, u', cs ++ ds) ⟨CellI.pf, by simp only; omega, by simp only [List.length_append]; omega⟩ (by simp only; omega))
  · have : i = l.length := by omega
    subst this
    exact h u cs hcs
instance {r : Rf} : AllC (rfC r) := ⟨fun y hy => Enc.cell (enc := rfC) r y hy⟩
theorem u_sum : Tryz.prog.underlying 36 = some (.array 32 5) := by kernel_rfl
theorem sum_cells (r : Rf) : ((rfC r).drop 0).take (32 * 1) = bcs r.sum.1 := by
  unfold rfC
  rw [List.drop_zero, List.take_append_of_le_length (by simp [r.sum.2]), List.take_of_length_le (by simp [r.sum.2])]
theorem appSum {b : Nat} {v : Value} {bs : List UInt8} {r : Rf} [HasC H b true 38 (rfC r)] (hb : bs.length ≤ 100000) (h : ∀ v' [CellI v'], E B (sls cB 5 1 v' (bs ++ r.sum.1) :: H) (K v')) :
    E B (sls cB 5 1 v bs :: H) (V Tryz.prog (Builtin.append_ #[157, 157] 157 #[v, .slice (some ⟨b, 0, none⟩) 32 32]) K) := by
  refine E_bytesS ?_
  refine E_app u_bytes elt_byte (rd_slice u_bytes (sum_cells r) (by simp [r.sum.2]) (fun y hy => by obtain ⟨q, _, rfl⟩ := List.mem_map.1 hy; rfl)) (by omega) (by omega) fun v' _ => ?_
  have h' := h v'
  have e : (bs ++ r.sum.1).length = bs.length + 32 := by rw [List.length_append, r.sum.2]
  refine E_same (G := osl 5 1 v' (bs.length + 32) (bcs bs ++ bcs r.sum.1) :: H) .refl ?_
  have e2 : bcs bs ++ bcs r.sum.1 = bcs (bs ++ r.sum.1) := (List.map_append ..).symm
  rw [e2, ← e]
  exact E_bytes h'
theorem segPut {v : Value} {r : Rf} [hr : Rs B H v rfC [r]] (h : ∀ bv [CellI bv], E B H (K (.tuple #[bv, I (if rightB r = true then 0 else 2)]))) : E B H (CF Tryz.prog 115 [v] K) := by
  refine E_mono (W := s115 _ K) ?_ fun _ => c115
  unfold s115
  refine E_rslen (v := v) (l := [r]) ?_
  refine E_gtr ?_
  refine E_ifF (by simp) ?_
  refine E_rslen (v := v) (l := [r]) ?_
  refine E_bsl [(0, 1)] u_ints elt_int (by simp) (by decide) (l0 := [I 0]) rfl fun bl => ?_
  refine E_slsC (enc := cI) [([r].length : Int)] 1 rfl rfl ?_
  refine sls_nil cB 1 (T := 5) ?_
  refine nums (l := [([r].length : Int)]) (by simp) fun u us _ hus => ?_
  refine E_rslen (v := v) (l := [r]) ?_
  refine E_loop (n := 4) (σ := Nat × Value × List UInt8) (fun s => s.1 ≤ 1 ∧ isCell s.2.1 = true ∧ s.2.2.length ≤ 60 + 300 * s.1 ∧ (s.1 = 1 → rightB r = true)) (fun s => [s.2.1, v, I ([r].length), I s.1]) (fun s => sls cB 5 1 s.2.1 s.2.2 :: H) (fun s => 1 - s.1) (0, u, us) (fun _ => rfl) rfl ⟨by simp, CellI.pf, by simpa using hus, fun e => by cases e⟩ (fun W hW => sm hW) ?_
  rintro ⟨i, w, ws⟩ K0 ⟨hi, hw, hws, hr1⟩ hk
  simp only at hi hw hws hk hr1 ⊢
  have : CellI w := ⟨hw⟩
  refine E_fa fun _ => ?_
  refine E_lss ?_
  refine E_if (fun hc => ?_) (fun hc => ?_)
  · have hx : [r][i]? = some r := by
      have : i = 0 := by simp at hc; omega
      subst this; rfl
    refine E_rsix (v := v) (l := [r]) hx fun _ _ => ?_
    refine E_ptldA ?_
    refine E_box fun b => ?_
    refine E_stW (vs := rfC r) (rfC_len r) rfl ?_
    (repeat first | refine gS ?_ | refine gA fun _ => ?_ | refine gX fun _ _ => ?_ | refine gT ?_ | refine gF ?_ | refine gI ?_)
    refine right ?_
    (repeat first | refine gS ?_ | refine gY ?_ | refine gA fun _ => ?_ | refine gX fun _ _ => ?_ | refine gI ?_)
    refine E_ifb (fun e => ?_) (fun e => ?_)
    · have e' : rightB r = false := by simpa using e
      rw [e'] at h
      exact sm (h nil)
    have e' : rightB r = true := by simpa using e
    refine E_dr ?_
    refine E_fad0 ?_
    refine E_fad0 ?_
    refine E_ld ?_
    refine E_fad0 ?_
    refine E_ld ?_
    refine E_fad0 ?_
    refine E_ld ?_
    have fin : ∀ {G : List Asrt} (w' lv : Value) [CellI w'] [Sam (sls cB 5 1 w' (ws ++ r.sum.1) :: sls cI 3 1 lv [r.len, r.bin, r.slot] :: H) G], E B G (CF Tryz.prog 139 [w', lv] fun v34 => S.bin .add (I i) (I 1) fun v35 => K0 v34 v (I [r].length) v35) := fun w' lv _ _ => by
      refine sm (G := sls cB 5 1 w' (ws ++ r.sum.1) :: sls cI 3 1 lv [r.len, r.bin, r.slot] :: H) ?_
      refine nums (l := [r.len, r.bin, r.slot]) (by simp only [List.length_append, r.sum.2, List.length_cons, List.length_nil]; omega) fun u' us' _ hus' => ?_
      refine E_addI (by omega) (by omega) ?_
      refine sm (hk (i + 1, u', us') ⟨by simp at hc; simp only; omega, CellI.pf, ?_, fun _ => e'⟩ (by simp at hc; simp only; omega))
      simp only [List.length_append, r.sum.2, List.length_cons, List.length_nil] at hus'
      simp only; omega
    refine E_both ?_ ?_
    · refine E_slcA u_sum (sz := 1) (by kernel_rfl) ?_
      (repeat (refine E_rck1 (by first | exact E_ld (E_fact rfl) | exact E_ld' (by assumption) (E_fact rfl) | exact E_b2sR (E_fact rfl) | exact E_gdnF (by assumption) (E_ld (E_fact rfl)) | exact E_gdT (by assumption) (E_ld (E_fact rfl)) | exact E_gtf (E_ld (E_fact rfl)) | exact E_gft (E_ld (E_fact rfl)) | exact E_ldNA (E_fact rfl) | exact E_ptld (E_fact rfl) | exact E_gtf (E_ldNA (E_fact rfl))) ?_)); (first | (refine E_rck0 ?_) | skip)
      refine E_both ?_ ?_
      · refine fd (a := sls cB 5 1 w ws) ?_
        refine appSum (r := r) (by omega) fun w' _ => ?_
        (repeat (refine E_rck1 (by first | exact E_ld (E_fact rfl) | exact E_ld' (by assumption) (E_fact rfl) | exact E_b2sR (E_fact rfl) | exact E_gdnF (by assumption) (E_ld (E_fact rfl)) | exact E_gdT (by assumption) (E_ld (E_fact rfl)) | exact E_gtf (E_ld (E_fact rfl)) | exact E_gft (E_ld (E_fact rfl)) | exact E_ldNA (E_fact rfl) | exact E_ptld (E_fact rfl) | exact E_gtf (E_ldNA (E_fact rfl))) ?_)); (first | (refine E_rck0 ?_) | skip)
        refine E_bsl [(0, 1), (1, 1), (2, 1)] u_ints elt_int (by simp) (by decide) (l0 := [I 0, I 0, I 0]) rfl fun bl => ?_
        refine E_slsC (enc := cI) [r.len, r.bin, r.slot] 3 rfl rfl ?_
        exact fin w' _
      · refine E_bsl [(0, 1), (1, 1), (2, 1)] u_ints elt_int (by simp) (by decide) (l0 := [I 0, I 0, I 0]) rfl fun bl => ?_
        refine E_slsC (enc := cI) [r.len, r.bin, r.slot] 3 rfl rfl ?_
        refine fd (a := sls cB 5 1 w ws) ?_
        refine appSum (r := r) (by omega) fun w' _ => ?_
        exact fin w' _
    · refine E_bsl [(0, 1), (1, 1), (2, 1)] u_ints elt_int (by simp) (by decide) (l0 := [I 0, I 0, I 0]) rfl fun bl => ?_
      refine E_slsC (enc := cI) [r.len, r.bin, r.slot] 3 rfl rfl ?_
      refine E_slcA u_sum (sz := 1) (by kernel_rfl) ?_
      refine fd (a := sls cB 5 1 w ws) ?_
      refine appSum (r := r) (by omega) fun w' _ => ?_
      exact fin w' _
  · have hi1 : i = 1 := by simp at hc; omega
    rw [if_pos (hr1 hi1)] at h
    exact sm (h w)
end Go.Proofs.YtjafpncngmbcdaaGreat.Nam
