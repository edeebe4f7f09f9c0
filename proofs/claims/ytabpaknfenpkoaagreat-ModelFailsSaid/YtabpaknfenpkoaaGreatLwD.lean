/-
  Model: what 'play' does behind each step.
-/
import Derived.Test.YtabpaknfenpkoaaGreatLwC
set_option linter.unusedSimpArgs false
set_option linter.unusedVariables false
set_option linter.unusedSectionVars false
namespace Go.Proofs.YtabpaknfenpkoaaGreat.Mod
open Go Go.SL Go.Proofs Go.Proofs.YtabpaknfenpkoaaGreat.Sh
variable {B : World} {H : List Asrt} {K : Value → WT} {W : WT}
variable {a : Nat} {M : Mo} {n : Int}
theorem xor8 (a b : UInt8) : (IntKind.u8.wrap ((BitVec.ofInt 8 (a.toNat : Int) ^^^ BitVec.ofInt 8 (b.toNat : Int)).toNat : Int)) = ((a ^^^ b).toNat : Int) := by
  have e : ∀ c : UInt8, BitVec.ofInt 8 (c.toNat : Int) = c.toBitVec := fun c => by
    apply BitVec.eq_of_toNat_eq
    simp
  rw [e, e]
  have h := (a ^^^ b).toNat_lt
  have e2 : (a.toBitVec ^^^ b.toBitVec).toNat = (a ^^^ b).toNat := rfl
  rw [e2]
  generalize (a ^^^ b).toNat = q at h
  unfold IntKind.wrap
  simp [IntKind.signed, IntKind.bits]
  omega
theorem E_xor8 {a b : UInt8} (h : E B H (K (.int .u8 ((a ^^^ b).toNat : Int)))) : E B H (S.bin .xor (.int .u8 (a.toNat : Int)) (.int .u8 (b.toNat : Int)) K) := E_xor (by
  rw [show (IntKind.u8.bits) = 8 from rfl, xor8]; exact h)
noncomputable def flipC (v1'3 v7'2 v8'2 v9'2 v11' : Value) (K2 : Kn 4) : WT :=
                    S.loop 6 (fun K4 => fun v1'4 v7'3 v8'3 v9'3 v11'2 v13 => S.fa fun _ =>
                      S.fad v11'2 2 fun v90 =>
                      S.ld v90 fun v91 =>
                      S.len v91 fun v92 =>
                      S.bin .lss v13 v92 fun v93 =>
                      S.cond v93 (
                        S.fad v11'2 2 fun v96 =>
                        S.ld v96 fun v97 =>
                        S.ixS 1 v97 v13 fun v99 =>
                        S.ld v99 fun v100 =>
                        S.bin .xor v100 (.int .u8 1) fun v101 =>
                        S.ixS 1 v97 v13 fun v102 =>
                        S.st 1 v102 v101 fun _ =>
                        S.bin .add v13 (I 1) fun v95 =>
                        K4 v1'4 v7'3 v8'3 v9'3 v11'2 v95) (
                        K2 v1'4 v7'3 v8'3 v9'3))
                    [v1'3, v7'2, v8'2, v9'2, v11', (I 0)]
noncomputable def behindC (v1'2 v7' v8' v9' v10 v11 : Value) (K2 : Kn 4) (K : Value → WT) : WT :=
S.loop 7 (fun K3 => fun v1'3 v7'2 v8'2 v9'2 v10' v11' v12 => S.fa fun _ =>
                S.fad v10' 7 fun v59 =>
                S.ld v59 fun v60 =>
                S.len v60 fun v61 =>
                S.bin .lss v12 v61 fun v62 =>
                S.cond v62 (
                  S.fad v10' 7 fun v65 =>
                  S.ld v65 fun v66 =>
                  S.ixS 1 v66 v12 fun v68 =>
                  S.ld v68 fun v69 =>
                  S.bin .xor v69 (.int .u8 1) fun v70 =>
                  S.ixS 1 v66 v12 fun v71 =>
                  S.st 1 v71 v70 fun _ =>
                  S.bin .add v12 (I 1) fun v64 =>
                  K3 v1'3 v7'2 v8'2 v9'2 v10' v11' v64) (
                  S.dr <|
                  S.ldN 4 v11' fun v72 =>
                  S.ixS 16 v1'3 v9'2 fun v76 =>
                  S.fad v76 0 fun v77 =>
                  S.ldN 15 v77 fun v78 =>
                  S.ixS 16 v1'3 v9'2 fun v81 =>
                  S.fad v81 15 fun v82 =>
                  S.ld v82 fun v83 =>
                  CF Tryz.prog 9 [v8'2, v78, v83] fun v84 =>
                  S.rck [S.ldN 4 v11' (fun v' _ => v' = v72)] <|
                  CF Tryz.prog 20 [v72, v84] fun v85 =>
                  S.not1 v85 fun v86 =>
                  S.cond v86 (
                    K (.tuple #[v7'2, v8'2, (.bool false)])) (
                    flipC v1'3 v7'2 v8'2 v9'2 v11' K2)))
              [v1'2, v7', v8', v9', v10, v11, (I 0)]
attribute [local irreducible] S.pick S.ld S.ldN S.st S.box S.nc S.fad S.ixS S.ixA S.chr S.prt S.ext S.bin S.sh S.sbin S.beq S.neg1 S.com1 S.not1 S.cvt S.str1 S.lenS S.len S.cap S.lenM S.mx S.mn S.mkM S.cond S.gd S.fa S.dr S.rck S.join S.loop S.cvv S.eqv S.slc S.slcS S.b2s S.lk V U CF Gives E cel mpb osl ros dct dit itr lpo dfo
set_option maxRecDepth 4000
attribute [local irreducible] mo ansH rmo
/-- A buffer's bytes, each changed. -/
theorem flip {K2 : Kn 4} {v1 v7 v8 v9 bv hv : Value} {bs : List UInt8} {b : Nat} {e m : Int} [CellI bv] (hl : bs.length ≤ 140737488355328) (h : E B H (app 4 K2 [v1, v7, v8, v9])) :
    E B (sls cB 5 1 bv bs :: cel true b 33 [I e, I m, bv, hv] :: H) (flipC v1 v7 v8 v9 (ptr b) K2) := by
  unfold flipC
  refine E_loop (n := 6) (σ := Nat × List UInt8) (fun s => s.1 ≤ bs.length ∧ s.2.length = bs.length) (fun s => [v1, v7, v8, v9, ptr b, I s.1]) (fun s => sls cB 5 1 bv s.2 :: cel true b 33 [I e, I m, bv, hv] :: H) (fun s => bs.length - s.1) (0, bs) (fun _ => rfl) rfl ⟨Nat.zero_le _, rfl⟩ (fun W hW => hW) ?_
  rintro ⟨i, cs⟩ K0 ⟨hi, hcs⟩ hk
  simp only at hi hcs hk ⊢
  refine E_fa fun _ => ?_
  (repeat first | refine gS ?_ | refine gA fun _ => ?_ | refine gX fun _ _ => ?_ | refine gT ?_ | refine gF ?_ | refine gI ?_)
  rw [hcs]
  refine E_if (fun hc => ?_) (fun hc => ?_)
  · have hx : cs[i]? = some cs[i] := List.getElem?_eq_getElem (by omega)
    generalize cs[i] = x at hx
    refine E_fad0 ?_
    refine E_ld ?_
    refine E_rsix (v := bv) (l := cs) hx fun _ _ => ?_
    refine E_ptld ?_
    refine E_xor8 (b := 1) ?_
    refine E_sset (enc := cB) (x ^^^ 1) (by omega) rfl ?_
    refine E_addI (by omega) (by omega) ?_
    exact hk (i + 1, cs.set i (x ^^^ 1)) ⟨by simp only; omega, by simp only [List.length_set]; exact hcs⟩ (by simp only; omega)
  · exact sm h
end Go.Proofs.YtabpaknfenpkoaaGreat.Mod
