/-
  Part 10: BpO, BpP, BpQ.
-/
import Derived.Test.YtmbfmkiagdhcoaaGreatPkBinPlaysi
set_option linter.unusedSimpArgs false
set_option linter.unusedVariables false
set_option linter.unusedSectionVars false
section
namespace Go.Proofs.YtmbfmkiagdhcoaaGreat.Bn
open Go Go.SL Go.Proofs Go.Proofs.YtmbfmkiagdhcoaaGreat.Sh Go.Proofs.YtmbfmkiagdhcoaaGreat.Oct Go.Proofs.YtmbfmkiagdhcoaaGreat.Disk Go.Proofs.YtmbfmkiagdhcoaaGreat.Slot Go.Proofs.YtmbfmkiagdhcoaaGreat.Pk Go.Proofs.YtmbfmkiagdhcoaaGreat.Ext
variable {B : World} {H : List Asrt} {K : Value → WT} {W : WT}
set_option maxRecDepth 100000
attribute [local irreducible] S.pick S.ld S.ldN S.st S.box S.nc S.fad S.ixS S.ixA S.chr S.prt S.ext S.bin S.sh S.sbin S.beq S.neg1 S.com1 S.not1 S.cvt S.str1 S.lenS S.len S.cap S.lenM S.mx S.mn S.mkM S.cond S.gd S.fa S.dr S.rck S.join S.loop S.cvv S.eqv S.slc S.slcS S.b2s S.lk V U CF Gives E cel mpb osl ros dct dit itr lpo dfo
theorem sameP {v u : Value} {l : List Pc} [hv : Rs B H v cPl l] [hu : Rs B H u cPl l] (hl : l.length ≤ 1000000) (h : E B H (K (.bool true))) : E B H (CF Tryz.prog 47 [v, u] K) := by
  refine E_mono (W := s47 _ _ K) ?_ fun _ => c47
  unfold s47
  refine E_rslen (v := v) (l := l) ?_
  refine E_rslen (v := u) (l := l) ?_
  refine E_neq ?_
  refine E_ifF (by simp) ?_
  refine E_loop (n := 3) (σ := Nat) (fun i => i ≤ l.length) (fun i => [v, u, I i]) (fun _ => H) (fun i => l.length - i) 0 (fun _ => rfl) rfl (Nat.zero_le _) (fun W hW => hW) ?_
  intro i K0 hi hk
  refine E_fa fun _ => ?_
  refine E_rslen (v := v) (l := l) ?_
  refine E_lss ?_
  refine E_if (fun hc => ?_) (fun hc => ?_)
  · have hx : l[i]? = some (l[i]'(by omega)) := List.getElem?_eq_getElem (by omega)
    generalize (l[i]'(by omega)) = p at hx
    refine E_dr ?_
    refine E_rsix (v := v) (l := l) hx fun _ _ => ?_
    refine E_ptldA ?_
    refine E_rsix (v := u) (l := l) hx fun _ _ => ?_
    refine E_ptldA ?_
    refine E_placeNe ?_
    refine E_ff ?_
    refine E_addI (by omega) (by omega) ?_
    exact hk (i + 1) (by omega) (by omega)
  · exact h
theorem sameB {x y : Int} {v u : Value} {l : List Sl} [CellI v] [CellI u] [hv : Rs B H v cSl l] [hu : Rs B H u cSl l] (hl : l.length ≤ 1000000) (h : E B H (K (.bool true))) : E B H (CF Tryz.prog 50 [.agg #[I x, I y, v], .agg #[I x, I y, u]] K) := by
  refine E_mono (W := s50 _ _ K) ?_ fun _ => c50
  unfold s50
  refine E_box (v := .agg #[I x, I y, v]) (vs := [I x, I y, v]) fun a => ?_
  refine E_box (v := .agg #[I x, I y, u]) (vs := [I x, I y, u]) fun b => ?_
  refine E_join1 (n := 3) [ptr a, ptr b, .bool false] (cel true b 58 [I x, I y, u] :: cel true a 58 [I x, I y, v] :: H) (fun q hq => ?_) ?_
  · refine E_fad0 ?_
    refine E_ld ?_
    refine E_fad0 ?_
    refine E_ld ?_
    refine E_neq ?_
    rw [decide_eq_false (by simp)]
    refine E_gft ?_
    refine E_fad0 ?_
    refine E_gft ?_
    refine E_ld ?_
    refine E_gft ?_
    refine E_fad0 ?_
    refine E_gft ?_
    refine E_ld ?_
    refine E_gft ?_
    refine E_neq ?_
    rw [decide_eq_false (by simp)]
    refine E_pff ?_
    refine E_gft ?_
    refine E_fad0 ?_
    refine E_gft ?_
    refine E_ld ?_
    refine E_gft ?_
    refine E_rslen (v := v) (l := l) ?_
    refine E_gft ?_
    refine E_fad0 ?_
    refine E_gft ?_
    refine E_ld ?_
    refine E_gft ?_
    refine E_rslen (v := u) (l := l) ?_
    refine E_gft ?_
    refine E_neq ?_
    rw [decide_eq_false (by simp)]
    refine E_pff ?_
    exact hq
  refine E_fa fun _ => ?_
  refine E_ff ?_
  refine E_loop (n := 3) (σ := Nat) (fun i => i ≤ l.length) (fun i => [ptr a, ptr b, I i]) (fun _ => cel true b 58 [I x, I y, u] :: cel true a 58 [I x, I y, v] :: H) (fun i => l.length - i) 0 (fun _ => rfl) rfl (Nat.zero_le _) (fun W hW => hW) ?_
  intro i K0 hi hk
  refine E_fa fun _ => ?_
  refine E_fad0 ?_
  refine E_ld ?_
  refine E_rslen (v := v) (l := l) ?_
  refine E_lss ?_
  refine E_if (fun hc => ?_) (fun hc => ?_)
  · have hx : l[i]? = some (l[i]'(by omega)) := List.getElem?_eq_getElem (by omega)
    generalize (l[i]'(by omega)) = s at hx
    refine E_dr ?_
    refine E_fad0 ?_
    refine E_ld ?_
    refine E_rsix (v := v) (l := l) hx fun _ _ => ?_
    refine E_ptldN (cs := cSl s) (by rw [List.drop_zero, List.take_of_length_le (by rw [cSl_len]; omega)]) (cSl_len s) ?_
    refine E_fad0 ?_
    refine E_ld ?_
    refine E_rsix (v := u) (l := l) hx fun _ _ => ?_
    refine E_ptldN (cs := cSl s) (by rw [List.drop_zero, List.take_of_length_le (by rw [cSl_len]; omega)]) (cSl_len s) ?_
    refine E_slotNe ?_
    refine E_ff ?_
    refine E_addI (by omega) (by omega) ?_
    exact hk (i + 1) (by omega) (by omega)
  · exact sm h
theorem chunk_sum {Z : Shf} {b k : Int} (h : (chunkV Z b k).1 = 0) : ∃ (j : Nat) (s : Sl), k = (j : Int) ∧ (wholeV Z b).2.2.2.2[j]? = some s ∧ Dig.sum (chunkV Z b k).2 = s.sum ∧ (chunkV Z b k).2.length ≤ 512 := by
  unfold chunkV at h ⊢
  split at h
  · rename_i h0; exact absurd h h0
  rename_i h0
  rw [if_neg h0]
  split at h
  · cases h
  rename_i h1
  rw [if_neg h1]
  cases hs : (wholeV Z b).2.2.2.2[k.toNat]? with
  | none => rw [hs] at h; cases h
  | some s =>
    rw [hs] at h
    simp only at h ⊢
    split at h
    · cases h
    rename_i h2
    rw [if_neg h2]
    have h2 : (chunkL (wholeV Z b).2.1 s).1 = 0 := by simpa using h2
    refine ⟨k.toNat, s, by omega, hs, ?_⟩
    unfold chunkL at h2 ⊢
    split at h2
    · cases h2
    rename_i h3
    rw [if_neg h3]
    split at h2
    · cases h2
    rename_i h4
    rw [if_neg h4]
    split at h2
    · rename_i h5
      rw [if_pos h5]
      exact ⟨h5, by simp only [List.length_take]; omega⟩
    · cases h2
theorem sameTail {b i v7 v9 : Nat} {A : Ad} {Z : Shf} {v u7 u9 : Value} {p : Pc} {K2 : Value → Value → Value → WT} [CellI u7] [CellI u9] (hi : Inv Z) (hx : Z.P[i]? = some p) (hil : i < 4096) (hl : (wholeV Z p.bin).2.2.2.2.length ≤ 1000000)
    (hk : E B (sls cPl 34 3 v Z.P :: cel true b 42 [ptr A.d, ptr A.x, ptr A.a, ptr A.y] :: shf A.a A.d A.m Z :: rsh A.y A.x A.my Z :: H) (K2 (ptr b) v (I (i + 1 : Nat)))) :
    E B (cel true v7 58 [I (wholeV Z p.bin).2.2.1, I (wholeV Z p.bin).2.2.2.1, u7] :: sls cSl 109 34 u7 (wholeV Z p.bin).2.2.2.2 :: cel true v9 58 [I (wholeV Z p.bin).2.2.1, I (wholeV Z p.bin).2.2.2.1, u9] :: sls cSl 109 34 u9 (wholeV Z p.bin).2.2.2.2 :: sls cPl 34 3 v Z.P :: cel true b 42 [ptr A.d, ptr A.x, ptr A.a, ptr A.y] :: shf A.a A.d A.m Z :: rsh A.y A.x A.my Z :: H)
      (S.join 6 (fun K3 =>
 S.ldN 3 (ptr v7) fun v111 =>
 S.ldN 3 (ptr v9) fun v112 =>
 CF Tryz.prog 50 [v111, v112] fun v113 =>
 S.not1 v113 fun v114 =>
 S.gd v114 false (fun k => k (I (wholeV Z p.bin).1)) fun v116 =>
 S.gd v114 false (fun k => k (I (wholeV Z p.bin).1)) fun v117 =>
 S.gd v114 false (S.bin .neq v116 v117) fun v118 =>
 S.pick v114 (.bool true) v118 fun v119 =>
 K3 (ptr b) v (I i) (ptr v7) (ptr v9) v119)
 <| fun v0'4 v3'3 v6' v7' v9' v119' => S.fa fun _ =>
 S.cond v119' (
 K (.bool false)) (
 S.loop 6 (fun K4 => fun v0'5 v3'4 v6'2 v7'2 v9'2 v11 => S.fa fun _ =>
 S.fad v9'2 2 fun v121 =>
 S.ld v121 fun v122 =>
 S.len v122 fun v123 =>
 S.bin .leq v11 v123 fun v124 =>
 S.cond v124 (
 S.dr <|
 S.nc v0'5 fun v129 =>
 S.fad v129 2 fun v130 =>
 S.ld v130 fun v131 =>
 S.ixS 3 v3'4 v6'2 fun v134 =>
 S.fad v134 0 fun v135 =>
 S.ld v135 fun v136 =>
 CF Tryz.prog 14 [v131, v136, v11] fun v138 =>
 S.ext v138 0 fun v139 =>
 S.ext v138 1 fun v140 =>
 S.dr <|
 S.nc v0'5 fun v143 =>
 S.fad v143 3 fun v144 =>
 S.ld v144 fun v145 =>
 S.ixS 3 v3'4 v6'2 fun v148 =>
 S.fad v148 0 fun v149 =>
 S.ld v149 fun v150 =>
 CF Tryz.prog 51 [v145, v150, v11] fun v152 =>
 S.ext v152 0 fun v153 =>
 S.ext v152 1 fun v154 =>
 S.join 7 (fun K5 =>
 S.dr <|
 S.b2s v139 fun v156 =>
 S.b2s v153 fun v158 =>
 S.sbin .neq v156 v158 fun v159 =>
 S.gd v159 false (fun k => k v140) fun v161 =>
 S.gd v159 false (fun k => k v154) fun v162 =>
 S.gd v159 false (S.bin .neq v161 v162) fun v163 =>
 S.pick v159 (.bool true) v163 fun v164 =>
 S.gd v164 false (fun k => k v140) fun v166 =>
 S.gd v164 false (S.bin .eql v166 (I 0)) fun v167 =>
 S.gd v164 false (fun k => k v167) fun v168 =>
 S.gd v168 true (fun k => k v139) fun v169 =>
 S.gd v168 true (S.fad v7'2 2) fun v171 =>
 S.gd v168 true (S.ld v171) fun v172 =>
 S.gd v168 true (fun k => k v11) fun v173 =>
 S.gd v168 true (S.ixS 34 v172 v173) fun v174 =>
 S.gd v168 true (S.fad v174 0) fun v175 =>
 S.gd v168 true (S.ldN 32 v175) fun v176 =>
 S.gd v168 true (CF Tryz.prog 52 [v169]) fun v170 =>
 S.rck [S.gd v168 true (S.ldN 32 v175) (fun v' _ => v' = v176), S.gd v168 true (S.ld v171) (fun v' _ => v' = v172)] <|
 S.gd v168 true (S.eqv Tryz.prog .neq 107 false v170 v176) fun v177 =>
 S.gd v164 false (S.pick v168 v177 (.bool false)) fun v178 =>
 S.pick v164 (.bool true) v178 fun v179 =>
 K5 v0'5 v3'4 v6'2 v7'2 v9'2 v11 v179)
 <| fun v0'6 v3'5 v6'3 v7'3 v9'3 v11' v179' => S.fa fun _ =>
 S.cond v179' (
 K (.bool false)) (
 S.bin .add v11' (I 1) fun v126 =>
 K4 v0'6 v3'5 v6'3 v7'3 v9'3 v126)) (
 S.bin .add v6'2 (I 1) fun v84 =>
 K2 v0'5 v3'4 v84))
 [v0'4, v3'3, v6', v7', v9', (I (-1))])) := by
  have hcs := fun k => @chunk_sum Z (p.bin : Int) k
  generalize hw : wholeV Z p.bin = w at hl hcs ⊢
  generalize hG : ([sls cPl 34 3 v Z.P, cel true b 42 [ptr A.d, ptr A.x, ptr A.a, ptr A.y]] : List Asrt) = G0
  refine E_join1 (n := 6) [ptr b, v, I i, ptr v7, ptr v9, .bool false] (cel true v7 58 [I w.2.2.1, I w.2.2.2.1, u7] :: sls cSl 109 34 u7 w.2.2.2.2 :: cel true v9 58 [I w.2.2.1, I w.2.2.2.1, u9] :: sls cSl 109 34 u9 w.2.2.2.2 :: sls cPl 34 3 v Z.P :: cel true b 42 [ptr A.d, ptr A.x, ptr A.a, ptr A.y] :: shf A.a A.d A.m Z :: rsh A.y A.x A.my Z :: H) (fun q hq => ?_) ?_
  · refine E_ldNA ?_
    refine E_ldNA ?_
    refine sameB (v := u7) (u := u9) (l := w.2.2.2.2) hl ?_
    refine E_notb ?_
    refine E_gft ?_
    refine E_gft ?_
    refine E_gft ?_
    refine E_neq ?_
    rw [decide_eq_false (by simp)]
    refine E_pff ?_
    exact hq
  refine E_fa fun _ => ?_
  refine E_ff ?_
  refine E_loop (n := 6) (σ := Nat) (fun j => j ≤ w.2.2.2.2.length + 2) (fun j => [ptr b, v, I i, ptr v7, ptr v9, I ((j : Int) - 1)])
    (fun _ => cel true v7 58 [I w.2.2.1, I w.2.2.2.1, u7] :: sls cSl 109 34 u7 w.2.2.2.2 :: cel true v9 58 [I w.2.2.1, I w.2.2.2.1, u9] :: sls cSl 109 34 u9 w.2.2.2.2 :: sls cPl 34 3 v Z.P :: cel true b 42 [ptr A.d, ptr A.x, ptr A.a, ptr A.y] :: shf A.a A.d A.m Z :: rsh A.y A.x A.my Z :: H) (fun j => w.2.2.2.2.length + 2 - j) 0 (fun _ => rfl) rfl (Nat.zero_le _) (fun W hW => hW) ?_
  intro j K4 hj hk4
  refine E_fa fun _ => ?_
  refine E_fad0 ?_
  refine E_ld ?_
  refine E_rslen (v := u9) (l := w.2.2.2.2) ?_
  refine E_leq ?_
  refine E_if (fun hc => ?_) (fun hc => ?_)
  · refine E_dr ?_
    refine E_nc ?_
    refine E_fad0 ?_
    refine E_ld ?_
    refine E_rsix (v := v) (l := Z.P) hx fun _ _ => ?_
    refine E_ptfad0 fun _ _ => ?_
    refine E_ptld ?_
    refine fd (a := shf A.a A.d A.m Z) ?_
    refine chunk hi fun c ic => ?_
    refine E_ext ?_
    refine E_ext ?_
    refine E_dr ?_
    refine E_nc ?_
    refine E_fad0 ?_
    refine E_ld ?_
    refine E_rsix (v := v) (l := Z.P) hx fun _ _ => ?_
    refine E_ptfad0 fun _ _ => ?_
    refine E_ptld ?_
    refine fd (a := rsh A.y A.x A.my Z) ?_
    refine rchunkS hi fun d id => ?_
    refine E_ext ?_
    refine E_ext ?_
    have hcsj := hcs ((j : Int) - 1)
    generalize chunkV Z p.bin ((j : Int) - 1) = ch at hcsj ⊢
    refine E_join1 (n := 7) [ptr b, v, I i, ptr v7, ptr v9, I ((j : Int) - 1), .bool false] (cel true v7 58 [I w.2.2.1, I w.2.2.2.1, u7] :: sls cSl 109 34 u7 w.2.2.2.2 :: cel true v9 58 [I w.2.2.1, I w.2.2.2.1, u9] :: sls cSl 109 34 u9 w.2.2.2.2 :: sls cPl 34 3 v Z.P :: cel true b 42 [ptr A.d, ptr A.x, ptr A.a, ptr A.y] :: shf A.a A.d A.m Z :: rsh A.y A.x A.my Z :: H) (fun q hq => ?_) ?_
    · refine E_dr ?_
      refine E_b2sR (v := c) (bs := ch.2) ?_
      refine E_b2sR (v := d) (bs := ch.2) ?_
      refine E_strneS ?_
      refine E_gft ?_
      refine E_gft ?_
      refine E_gft ?_
      refine E_neq ?_
      rw [decide_eq_false (by simp)]
      refine E_pff ?_
      refine E_gft ?_
      refine E_gft ?_
      refine E_eql ?_
      refine E_gft ?_
      by_cases h0 : ch.1 = 0
      · obtain ⟨k, s, e1, e2, e3, e4⟩ := hcsj h0
        rw [decide_eq_true h0, e1]
        refine E_gtf ?_
        refine E_gtf ?_
        refine E_fad0 ?_
        refine E_gtf ?_
        refine E_ld ?_
        refine E_gtf ?_
        refine E_gtf ?_
        refine E_rsix (v := u7) (l := w.2.2.2.2) e2 fun q1 _ => ?_
        refine E_gtf ?_
        refine E_ptfad0 fun q2 _ => ?_
        refine E_gtf ?_
        have hsl : (bcs s.sum).length = 32 := by rw [Dig.bcs_len, s.hs]
        have hds : ((cSl s).drop 0).take 32 = bcs s.sum := by rw [List.drop_zero, List.take_append_of_le_length (by omega), List.take_of_length_le (by omega)]
        refine E_ptldN (p := q2) (cs := cSl s) hds hsl ?_
        refine E_gtf ?_
        refine Dig.rsum (v := c) (p := ch.2) (by omega) ?_
        refine E_rck1 (E_gtf (E_ptldN (p := q2) (cs := cSl s) hds hsl (E_fact rfl))) (E_rck1 (E_gtf (E_ld (E_fact rfl))) (E_rck0 ?_))
        refine E_gtf ?_
        refine E_nesum (Dig.sum_len _) s.hs ?_
        rw [decide_eq_true e3]
        refine E_gft ?_
        refine E_ptt ?_
        refine E_pff ?_
        rw [e1] at hq
        exact sm hq
      · rw [decide_eq_false h0]
        refine E_gff ?_
        refine E_gff ?_
        refine E_gff ?_
        refine E_gff ?_
        refine E_gff ?_
        refine E_gff ?_
        refine E_gff ?_
        refine E_gff ?_
        refine E_rck1 (E_gff (E_fact rfl)) (E_rck1 (E_gff (E_fact rfl)) (E_rck0 ?_))
        refine E_gff ?_
        refine E_gft ?_
        refine E_pff ?_
        refine E_pff ?_
        exact sm hq
    refine E_fa fun _ => ?_
    refine E_ff ?_
    refine E_addI (by omega) (by omega) ?_
    rw [show ((j : Int) - 1) + 1 = ((j + 1 : Nat) : Int) - 1 by omega]
    exact hk4 (j + 1) (by omega) (by omega)
  · refine E_addI (by omega) (by omega) ?_
    rw [show (i : Int) + 1 = ((i + 1 : Nat) : Int) by omega]
    exact sm hk
end Go.Proofs.YtmbfmkiagdhcoaaGreat.Bn
end
section
namespace Go.Proofs.YtmbfmkiagdhcoaaGreat.Bn
open Go Go.SL Go.Proofs Go.Proofs.YtmbfmkiagdhcoaaGreat.Sh Go.Proofs.YtmbfmkiagdhcoaaGreat.Oct Go.Proofs.YtmbfmkiagdhcoaaGreat.Disk Go.Proofs.YtmbfmkiagdhcoaaGreat.Slot Go.Proofs.YtmbfmkiagdhcoaaGreat.Pk Go.Proofs.YtmbfmkiagdhcoaaGreat.Ext
variable {B : World} {H : List Asrt} {K : Value → WT} {W : WT}
set_option maxRecDepth 100000
theorem whole_slots {Z : Shf} {b : Int} : (wholeV Z b).2.2.2.2.length ≤ 1000000 := by
  have key : ∀ x : List UInt8, (parseL x).2.2.2.length ≤ 64 := fun x => by
    unfold parseL
    dsimp only
    split
    · simp
    rename_i h0
    obtain ⟨_, _, h3, _⟩ := headE_0 (by simpa using h0 : headE x = 0)
    split
    · simp
    split
    · simp
    split
    · simp
    simp only [rows_len]
    exact h3
  unfold wholeV
  split
  · simp
  split
  · simp
  split
  · simp
  rename_i p _ _ _
  have := key (rdB Z.D p.pos p.n)
  simp only
  omega
attribute [local irreducible] S.pick S.ld S.ldN S.st S.box S.nc S.fad S.ixS S.ixA S.chr S.prt S.ext S.bin S.sh S.sbin S.beq S.neg1 S.com1 S.not1 S.cvt S.str1 S.lenS S.len S.cap S.lenM S.mx S.mn S.mkM S.cond S.gd S.fa S.dr S.rck S.join S.loop S.cvv S.eqv S.slc S.slcS S.b2s S.lk V U CF Gives E cel mpb osl ros dct dit itr lpo dfo
theorem same12 {b : Nat} {A : Ad} {Z : Shf} (hi : Inv Z) (h : E B H (K (.bool true))) : E B (par b A Z :: H) (CF Tryz.prog 20 [ptr b] K) := by
  refine E_mono (W := s20 _ K) ?_ fun _ => c20
  unfold s20
  have hpl := hi.plen
  refine E_par ?_
  refine E_nc ?_
  refine E_fad0 ?_
  refine E_ld ?_
  refine fd (a := shf A.a A.d A.m Z) ?_
  refine places hi fun v _ => ?_
  refine E_loop (n := 4) (σ := Nat) (fun i => i ≤ Z.P.length) (fun i => [ptr b, v, I (usedN (Z.P.take i)), I i]) (fun _ => sls cPl 34 3 v Z.P :: shf A.a A.d A.m Z :: cel true b 42 [ptr A.d, ptr A.x, ptr A.a, ptr A.y] :: rsh A.y A.x A.my Z :: H) (fun i => Z.P.length - i) 0 (fun _ => rfl) rfl (Nat.zero_le _) (fun W hW => hW) ?_
  intro i K0 hil hk
  refine E_fa fun _ => ?_
  refine E_nc ?_
  refine E_fad0 ?_
  refine E_ld ?_
  refine E_nc ?_
  refine E_fad0 ?_
  refine fd (a := rsh A.y A.x A.my Z) ?_
  refine E_rsh fun rv _ => ?_
  refine E_ld ?_
  refine E_rslen (v := rv) (l := Z.P) ?_
  refine E_lss ?_
  refine E_if (fun hc => ?_) (fun hc => ?_)
  · have hx : Z.P[i]? = some (Z.P[i]'(by omega)) := List.getElem?_eq_getElem (by omega)
    have hpn := (hi.pc _ (List.getElem_mem (show i < Z.P.length by omega))).2.2.1
    generalize (Z.P[i]'(by omega)) = p at hx hpn
    have hul := used_le (P := Z.P.take i) fun p hp => (hi.pc p (List.mem_of_mem_take hp)).2.2.1
    have htl : (Z.P.take i).length ≤ 4096 := by rw [List.length_take]; omega
    have hk1 := hk (i + 1) (by omega) (by omega)
    rw [used_suc hx] at hk1
    refine E_nc ?_
    refine E_fad0 ?_
    refine E_ld ?_
    refine E_nc ?_
    refine E_fad0 ?_
    refine E_ld ?_
    refine E_rsix (v := rv) (l := Z.P) hx fun _ _ => ?_
    refine E_ptfad0 fun _ _ => ?_
    refine E_ptfad fun _ _ => ?_
    refine E_ptld ?_
    refine E_addI (by omega) (by omega) ?_
    refine E_addI (by omega) (by omega) ?_
    rw [show (usedN (Z.P.take i) : Int) + (p.n : Int) = ((usedN (Z.P.take i) + p.n : Nat) : Int) by omega]
    refine E_rshS rfl rfl rfl rfl ?_
    exact sm hk1
  have hie : i = Z.P.length := by omega
  subst hie
  rw [List.take_length]
  clear hk
  refine E_join1 (n := 3) [ptr b, v, .bool false] (sls cPl 34 3 v Z.P :: cel true b 42 [ptr A.d, ptr A.x, ptr A.a, ptr A.y] :: shf A.a A.d A.m Z :: rsh A.y A.x A.my Z :: H) (fun q hq => ?_) ?_
  · refine E_dr ?_
    refine E_nc ?_
    refine E_fad0 ?_
    refine E_ld ?_
    refine E_nc ?_
    refine E_fad0 ?_
    refine E_ld ?_
    refine sameP (v := v) (u := rv) (l := Z.P) (by omega) ?_
    refine E_rshS rfl rfl rfl rfl ?_
    refine E_notb ?_
    refine E_gft ?_
    refine E_gft ?_
    refine E_nc ?_
    refine E_gft ?_
    refine E_fad0 ?_
    refine E_gft ?_
    refine E_ld ?_
    refine E_gft ?_
    refine E_gft ?_
    refine E_nc ?_
    refine E_gft ?_
    refine E_fad0 ?_
    refine E_gft ?_
    refine E_ld ?_
    refine E_gft ?_
    refine fd (a := shf A.a A.d A.m Z) ?_
    refine fresh ?_
    refine E_rck1 (E_gft (E_ld (E_fact rfl))) (E_rck0 ?_)
    refine E_gft ?_
    refine fd (a := rsh A.y A.x A.my Z) ?_
    refine rfresh hi ?_
    refine E_gft ?_
    refine E_neq ?_
    rw [decide_eq_false (by simp)]
    refine E_pff ?_
    refine E_gft ?_
    refine E_gft ?_
    refine E_nc ?_
    refine E_gft ?_
    refine E_fad0 ?_
    refine E_gft ?_
    refine E_ld ?_
    refine E_gft ?_
    refine E_gft ?_
    refine fd (a := shf A.a A.d A.m Z) ?_
    refine used hi ?_
    refine E_gft ?_
    refine E_neq ?_
    rw [decide_eq_false (by simp)]
    refine E_pff ?_
    exact sm hq
  refine E_fa fun _ => ?_
  refine E_ff ?_
  refine E_loop (n := 3) (σ := Nat) (fun i => i ≤ Z.P.length) (fun i => [ptr b, v, I i]) (fun _ => sls cPl 34 3 v Z.P :: cel true b 42 [ptr A.d, ptr A.x, ptr A.a, ptr A.y] :: shf A.a A.d A.m Z :: rsh A.y A.x A.my Z :: H) (fun i => Z.P.length - i) 0 (fun _ => rfl) rfl (Nat.zero_le _) (fun W hW => hW) ?_
  intro i K2 hi2 hk2
  refine E_fa fun _ => ?_
  refine E_rslen (v := v) (l := Z.P) ?_
  refine E_lss ?_
  refine E_if (fun hc => ?_) (fun hc => ?_)
  · have hx : Z.P[i]? = some (Z.P[i]'(by omega)) := List.getElem?_eq_getElem (by omega)
    generalize (Z.P[i]'(by omega)) = p at hx
    have hws := whole_slots (Z := Z) (b := p.bin)
    have hk3 := hk2 (i + 1) (by omega) (by omega)
    have tl := fun (v7 v9 : Nat) (u7 u9 : Value) (i7 : CellI u7) (i9 : CellI u9) => sameTail (K := K) (v7 := v7) (v9 := v9) (u7 := u7) (u9 := u9) (K2 := K2) hi hx (by omega) hws hk3
    generalize hw : wholeV Z p.bin = w at hws tl
    refine E_dr ?_
    refine E_nc ?_
    refine E_fad0 ?_
    refine E_ld ?_
    refine E_rsix (v := v) (l := Z.P) hx fun _ _ => ?_
    refine E_ptfad0 fun _ _ => ?_
    refine E_ptld ?_
    refine E_both ?_ ?_
    · refine fd (a := shf A.a A.d A.m Z) ?_
      refine head hi fun u7 i7 => ?_
      rw [hw]
      refine E_ext ?_
      refine E_ext ?_
      refine E_box (v := binV (0, 0, []) nl) (vs := [I 0, I 0, nl]) fun v7 => ?_
      refine E_stW (v := binV w.2.2 u7) (vs := [I w.2.2.1, I w.2.2.2.1, u7]) rfl rfl ?_
      refine E_dr ?_
      refine E_nc ?_
      refine E_fad0 ?_
      refine E_ld ?_
      refine E_rsix (v := v) (l := Z.P) hx fun _ _ => ?_
      refine E_ptfad0 fun _ _ => ?_
      refine E_ptld ?_
      refine E_both ?_ ?_
      · refine fd (a := rsh A.y A.x A.my Z) ?_
        refine rhead hi fun u9 i9 => ?_
        rw [hw]
        refine E_ext ?_
        refine E_ext ?_
        refine E_box (v := binV (0, 0, []) nl) (vs := [I 0, I 0, nl]) fun v9 => ?_
        refine E_stW (v := binV w.2.2 u9) (vs := [I w.2.2.1, I w.2.2.2.1, u9]) rfl rfl ?_
        exact sm (tl v7 v9 u7 u9 i7 i9)
      · refine E_box (v := binV (0, 0, []) nl) (vs := [I 0, I 0, nl]) fun v9 => ?_
        refine E_rck1 (E_ptld (E_fact rfl)) (E_rck1 (E_ld (E_fact rfl)) (E_rck0 ?_))
        refine fd (a := rsh A.y A.x A.my Z) ?_
        refine rhead hi fun u9 i9 => ?_
        rw [hw]
        refine E_ext ?_
        refine E_ext ?_
        refine E_stW (v := binV w.2.2 u9) (vs := [I w.2.2.1, I w.2.2.2.1, u9]) rfl rfl ?_
        exact sm (tl v7 v9 u7 u9 i7 i9)
    · refine E_box (v := binV (0, 0, []) nl) (vs := [I 0, I 0, nl]) fun v7 => ?_
      refine E_rck1 (E_ptld (E_fact rfl)) (E_rck1 (E_ld (E_fact rfl)) (E_rck0 ?_))
      refine fd (a := shf A.a A.d A.m Z) ?_
      refine head hi fun u7 i7 => ?_
      rw [hw]
      refine E_ext ?_
      refine E_ext ?_
      refine E_stW (v := binV w.2.2 u7) (vs := [I w.2.2.1, I w.2.2.2.1, u7]) rfl rfl ?_
      refine E_dr ?_
      refine E_nc ?_
      refine E_fad0 ?_
      refine E_ld ?_
      refine E_rsix (v := v) (l := Z.P) hx fun _ _ => ?_
      refine E_ptfad0 fun _ _ => ?_
      refine E_ptld ?_
      refine E_both ?_ ?_
      · refine fd (a := rsh A.y A.x A.my Z) ?_
        refine rhead hi fun u9 i9 => ?_
        rw [hw]
        refine E_ext ?_
        refine E_ext ?_
        refine E_box (v := binV (0, 0, []) nl) (vs := [I 0, I 0, nl]) fun v9 => ?_
        refine E_stW (v := binV w.2.2 u9) (vs := [I w.2.2.1, I w.2.2.2.1, u9]) rfl rfl ?_
        exact sm (tl v7 v9 u7 u9 i7 i9)
      · refine E_box (v := binV (0, 0, []) nl) (vs := [I 0, I 0, nl]) fun v9 => ?_
        refine E_rck1 (E_ptld (E_fact rfl)) (E_rck1 (E_ld (E_fact rfl)) (E_rck0 ?_))
        refine fd (a := rsh A.y A.x A.my Z) ?_
        refine rhead hi fun u9 i9 => ?_
        rw [hw]
        refine E_ext ?_
        refine E_ext ?_
        refine E_stW (v := binV w.2.2 u9) (vs := [I w.2.2.1, I w.2.2.2.1, u9]) rfl rfl ?_
        exact sm (tl v7 v9 u7 u9 i7 i9)
  · exact sm h
theorem binPlays {s f : UInt8} {l2 : Value} {l : List Dd} [hv : BaseS B l2 cDd l] (hd : ∀ d ∈ l, DdP B d) (h : E B H (K (.bool true))) : E B H (CF Tryz.prog 5 [.int .u8 s.toNat, .int .u8 f.toNat, l2] K) := by
  refine E_mono (W := s5 _ _ _ K) ?_ fun _ => c5
  unfold s5
  refine play12 (l := l) hd fun b A => ?_
  have hi := play_inv (n := 8 + s.toNat % 73) (f := f.toNat % 5) (by omega) (by omega) l
  refine E_ext ?_
  refine E_ext ?_
  refine E_gtf ?_
  refine live12 ?_
  refine E_ptt ?_
  refine E_gtf ?_
  refine E_gtf ?_
  refine same12 hi ?_
  refine E_ptt ?_
  exact h
end Go.Proofs.YtmbfmkiagdhcoaaGreat.Bn
end
section
namespace Go.Proofs.YtmbfmkiagdhcoaaGreat.Bn
open Go Go.SL Go.Proofs Go.Proofs.YtmbfmkiagdhcoaaGreat.Sh Go.Proofs.YtmbfmkiagdhcoaaGreat.Oct Go.Proofs.YtmbfmkiagdhcoaaGreat.Disk Go.Proofs.YtmbfmkiagdhcoaaGreat.Slot Go.Proofs.YtmbfmkiagdhcoaaGreat.Pk Go.Proofs.YtmbfmkiagdhcoaaGreat.Ext
variable {B : World} {H : List Asrt} {K : Value → WT} {W : WT}
abbrev np : Value := .pointer none
attribute [local irreducible] S.pick S.ld S.ldN S.st S.box S.nc S.fad S.ixS S.ixA S.chr S.prt S.ext S.bin S.sh S.sbin S.beq S.neg1 S.com1 S.not1 S.cvt S.str1 S.lenS S.len S.cap S.lenM S.mx S.mn S.mkM S.cond S.gd S.fa S.dr S.rck S.join S.loop S.cvv S.eqv S.slc S.slcS S.b2s S.lk V U CF Gives E cel mpb osl ros dct dit itr lpo dfo
end Go.Proofs.YtmbfmkiagdhcoaaGreat.Bn
end
