/-
  Names: types; small functions.
-/
import Derived.Test.YtjafpncngmbcdaaGreatSlB
import Derived.Test.YtjafpncngmbcdaaGreatShU
import Derived.Test.YtjafpncngmbcdaaGreatShelf
import Derived.Test.YtjafpncngmbcdaaGreatNmS
set_option linter.unusedSimpArgs false
set_option linter.unusedVariables false
set_option linter.unusedSectionVars false
namespace Go.Proofs.YtjafpncngmbcdaaGreat.Nam
open Go Go.SL Go.Proofs Go.Proofs.YtjafpncngmbcdaaGreat.Sh
abbrev I (n : Int) : Value := .int .i64 n
abbrev ptr (a : Nat) : Value := .pointer (some ⟨a, 0, none⟩)
abbrev nil : Value := .slice none 0 0
abbrev Cv := { v : Value // isCell v = true }
instance {v : Cv} : CellI v.1 := ⟨v.2⟩
theorem u_int : Tryz.prog.underlying 3 = some (.int .i64) := by kernel_rfl
theorem u_string : Tryz.prog.underlying 9 = some .string := by kernel_rfl
theorem u_bytes : Tryz.prog.underlying 157 = some (.slice 5) := by kernel_rfl
theorem u_byte : Tryz.prog.underlying 5 = some (.int .u8) := by kernel_rfl
theorem u_ints : Tryz.prog.underlying 141 = some (.slice 3) := by kernel_rfl
theorem u_kinds : Tryz.prog.underlying 175 = some (.slice 51) := by kernel_rfl
theorem elt_int : Elt Tryz.prog 3 1 8 [.int .i64 0] := elt_of (zv := .int .i64 0) (by kernel_rfl) rfl rfl
theorem elt_kind : Elt Tryz.prog 51 1 8 [.int .i64 0] := elt_of (zv := .int .i64 0) (by kernel_rfl) rfl rfl
theorem elt_byte : Elt Tryz.prog 5 1 1 [.int .u8 0] := elt_of (zv := .int .u8 0) (by kernel_rfl) rfl rfl
/-- A ref's cells. -/
def rfC (r : Rf) : List Value := bcs r.sum.1 ++ [I r.len, I r.bin, I r.slot]
theorem rfC_len (r : Rf) : (rfC r).length = 35 := by simp [rfC, r.sum.2]
instance : Enc rfC 35 := ⟨rfC_len, fun r y hy => by
  unfold rfC at hy
  rcases List.mem_append.1 hy with h | h
  · obtain ⟨b, _, rfl⟩ := List.mem_map.1 h; rfl
  · simp at h; rcases h with rfl | rfl | rfl <;> rfl⟩
instance {r : Rf} : AtLen (rfC r) 35 := ⟨rfC_len r⟩
theorem rfC_at (r : Rf) (i : Nat) : (rfC r)[32 + i]? = [I r.len, I r.bin, I r.slot][i]? := by
  unfold rfC
  rw [List.getElem?_append_right (by simp [r.sum.2])]
  simp [r.sum.2]
instance {r : Rf} : AtI (rfC r) 32 (I r.len) := ⟨rfC_at r 0⟩
instance {r : Rf} : AtI (rfC r) 33 (I r.bin) := ⟨rfC_at r 1⟩
instance {r : Rf} : AtI (rfC r) 34 (I r.slot) := ⟨rfC_at r 2⟩
def hC (h : List UInt8 × Int) : List Value := [str h.1, I h.2]
instance : Enc hC 2 := ⟨fun _ => rfl, fun _ y hy => by simp [hC] at hy; rcases hy with rfl | rfl <;> rfl⟩
instance {h : List UInt8 × Int} : AtLen (hC h) 2 := ⟨rfl⟩
instance {h : List UInt8 × Int} : AtI (hC h) 0 (str h.1) := ⟨rfl⟩
instance {h : List UInt8 × Int} : AtI (hC h) 1 (I h.2) := ⟨rfl⟩
def mvC (m : Mv) : List Value := [I m.fb, I m.fs, I m.tb, I m.ts]
instance : Enc mvC 4 := ⟨fun _ => rfl, fun _ y hy => by simp [mvC] at hy; rcases hy with rfl | rfl | rfl | rfl <;> rfl⟩
instance {m : Mv} : AtLen (mvC m) 4 := ⟨rfl⟩
instance {m : Mv} : AtI (mvC m) 0 (I m.fb) := ⟨rfl⟩
instance {m : Mv} : AtI (mvC m) 1 (I m.fs) := ⟨rfl⟩
instance {m : Mv} : AtI (mvC m) 2 (I m.tb) := ⟨rfl⟩
instance {m : Mv} : AtI (mvC m) 3 (I m.ts) := ⟨rfl⟩
instance {m : Mv} : SubI (mvC m) 0 2 [I m.fb, I m.fs] := ⟨rfl, rfl⟩
instance {m : Mv} : SubI (mvC m) 2 2 [I m.tb, I m.ts] := ⟨rfl, rfl⟩
/-- A fact's cells. -/
def faL (f : Fa) (rv hv mv : Value) : List Value := [I f.k, I f.bin, I f.at_, I f.n, str f.name, I f.gen, I f.time, rv, hv, mv, I f.last, I f.young, I f.step, I f.count]
section
variable {f : Fa} {rv hv mv : Value}
instance : AtLen (faL f rv hv mv) 14 := ⟨rfl⟩
instance : AtI (faL f rv hv mv) 0 (I f.k) := ⟨rfl⟩
instance : AtI (faL f rv hv mv) 1 (I f.bin) := ⟨rfl⟩
instance : AtI (faL f rv hv mv) 2 (I f.at_) := ⟨rfl⟩
instance : AtI (faL f rv hv mv) 3 (I f.n) := ⟨rfl⟩
instance : AtI (faL f rv hv mv) 4 (str f.name) := ⟨rfl⟩
instance : AtI (faL f rv hv mv) 5 (I f.gen) := ⟨rfl⟩
instance : AtI (faL f rv hv mv) 6 (I f.time) := ⟨rfl⟩
instance : AtI (faL f rv hv mv) 7 rv := ⟨rfl⟩
instance : AtI (faL f rv hv mv) 8 hv := ⟨rfl⟩
instance : AtI (faL f rv hv mv) 9 mv := ⟨rfl⟩
instance : AtI (faL f rv hv mv) 10 (I f.last) := ⟨rfl⟩
instance : AtI (faL f rv hv mv) 11 (I f.young) := ⟨rfl⟩
instance : AtI (faL f rv hv mv) 12 (I f.step) := ⟨rfl⟩
instance : AtI (faL f rv hv mv) 13 (I f.count) := ⟨rfl⟩
instance : AtI (faL f rv hv mv) (1 + 0) (I f.bin) := ⟨rfl⟩
instance : AtI (faL f rv hv mv) (1 + 1 + 0) (I f.at_) := ⟨rfl⟩
instance : AtI (faL f rv hv mv) (1 + 1 + 1) (I f.n) := ⟨rfl⟩
instance : AtI (faL f rv hv mv) (10 + 0) (I f.last) := ⟨rfl⟩
instance : AtI (faL f rv hv mv) (10 + 1) (I f.young) := ⟨rfl⟩
instance : AtI (faL f rv hv mv) (10 + 2) (I f.step) := ⟨rfl⟩
instance : AtI (faL f rv hv mv) (10 + 3) (I f.count) := ⟨rfl⟩
instance : SubI (faL f rv hv mv) (1 + 1) 2 [I f.at_, I f.n] := ⟨rfl, rfl⟩
instance : SubI (faL f rv hv mv) 1 3 [I f.bin, I f.at_, I f.n] := ⟨rfl, rfl⟩
instance : SubI (faL f rv hv mv) 2 2 [I f.at_, I f.n] := ⟨rfl, rfl⟩
instance : SubI (faL f rv hv mv) 10 4 [I f.last, I f.young, I f.step, I f.count] := ⟨rfl, rfl⟩
end
attribute [local irreducible] S.pick S.ld S.ldN S.st S.box S.nc S.fad S.ixS S.ixA S.chr S.prt S.ext S.bin S.sh S.sbin S.beq S.neg1 S.com1 S.not1 S.cvt S.str1 S.lenS S.len S.cap S.lenM S.mx S.mn S.mkM S.cond S.gd S.fa S.dr S.rck S.join S.loop S.cvv S.eqv S.slc S.slcS S.b2s S.lk V U CF Gives E cel mpb osl ros dct dit itr lpo dfo
set_option maxRecDepth 4000
variable {B : World} {H : List Asrt} {K : Value → WT} {W : WT} {c : Bool} {x y z : Value}
/-! ### small functions -/
theorem number [Amb] {n : Int} (h : E B H (K (.bool (numB n)))) : E B H (CF Tryz.prog 114 [I n] K) := by
  refine E_mono (W := s114 _ K) ?_ fun _ => c114
  unfold s114
  (repeat first | refine gS ?_ | refine gY ?_ | refine gA fun _ => ?_ | refine gX fun _ _ => ?_ | refine gI ?_)
  exact h
theorem inBin [Amb] {n : Int} (h : E B H (K (.bool (inBinB n)))) : E B H (CF Tryz.prog 136 [I n] K) := by
  refine E_mono (W := s136 _ K) ?_ fun _ => c136
  unfold s136
  (repeat first | refine gS ?_ | refine gY ?_ | refine gA fun _ => ?_ | refine gX fun _ _ => ?_ | refine gI ?_)
  exact h
instance [Amb] {n : Int} [h : Un c x (I n)] : Pb B H c (CF Tryz.prog 114 [x]) (.bool (numB n)) := ⟨fun e K k => by rw [h.pf e]; exact number k⟩
instance [Amb] {n : Int} [h : Un c x (I n)] : Pb B H c (CF Tryz.prog 136 [x]) (.bool (inBinB n)) := ⟨fun e K k => by rw [h.pf e]; exact inBin k⟩
theorem spot [Amb] {b s : Int} (h : E B H (K (.bool (spotB b s)))) : E B H (CF Tryz.prog 111 [.agg #[I b, I s]] K) := by
  refine E_mono (W := s111 _ K) ?_ fun _ => c111
  unfold s111
  (repeat first | refine gS ?_ | refine gY ?_ | refine gA fun _ => ?_ | refine gX fun _ _ => ?_ | refine gI ?_)
  refine inBin ?_
  (repeat first | refine gS ?_ | refine gY ?_ | refine gA fun _ => ?_ | refine gX fun _ _ => ?_ | refine gI ?_)
  exact sm h
theorem right [Amb] {r : Rf} (h : E B H (K (.bool (rightB r)))) : E B H (CF Tryz.prog 140 [.agg (rfC r).toArray] K) := by
  refine E_mono (W := s140 _ K) ?_ fun _ => c140
  unfold s140
  (repeat first | refine gS ?_ | refine gY ?_ | refine gA fun _ => ?_ | refine gX fun _ _ => ?_ | refine gI ?_)
  exact sm h
theorem rule [Amb] {f : Fa} (h : E B H (K (.bool (ruleB f)))) : E B H (CF Tryz.prog 137 [.agg #[I f.last, I f.young, I f.step, I f.count]] K) := by
  refine E_mono (W := s137 _ K) ?_ fun _ => c137
  unfold s137
  (repeat first | refine gS ?_ | refine gY ?_ | refine gA fun _ => ?_ | refine gX fun _ _ => ?_ | refine gI ?_)
  refine number ?_
  (repeat first | refine gS ?_ | refine gY ?_ | refine gA fun _ => ?_ | refine gX fun _ _ => ?_ | refine gI ?_)
  exact sm h
theorem number2 [Amb] {n : Int} (h : E B H (K (.bool (numB n)))) : E B H (CF Tryz.prog 122 [I n] K) := by
  refine E_mono (W := s122 _ K) ?_ fun _ => c122
  unfold s122
  (repeat first | refine gS ?_ | refine gY ?_ | refine gA fun _ => ?_ | refine gX fun _ _ => ?_ | refine gI ?_)
  exact h
theorem spot2 [Amb] {b s : Int} (h : E B H (K (.bool (spotB b s)))) : E B H (CF Tryz.prog 124 [.agg #[I b, I s]] K) := by
  refine E_mono (W := s124 _ K) ?_ fun _ => c124
  unfold s124
  (repeat first | refine gS ?_ | refine gY ?_ | refine gA fun _ => ?_ | refine gX fun _ _ => ?_ | refine gI ?_)
  have e : (decide (0 ≤ b) && decide (b ≤ 4095) && decide (0 ≤ s) && decide (s ≤ 63)) = spotB b s := by
    rw [Bool.eq_iff_iff]; simp [spotB, inBinB]; omega
  rw [e]
  exact sm h
theorem right2 [Amb] {r : Rf} (h : E B H (K (.bool (rightB r)))) : E B H (CF Tryz.prog 125 [.agg (rfC r).toArray] K) := by
  refine E_mono (W := s125 _ K) ?_ fun _ => c125
  unfold s125
  (repeat first | refine gS ?_ | refine gY ?_ | refine gA fun _ => ?_ | refine gX fun _ _ => ?_ | refine gI ?_)
  have e : (decide (1 ≤ r.len) && decide (r.len ≤ 512) && decide (0 ≤ r.bin) && decide (r.bin ≤ 4095) && decide (0 ≤ r.slot) && decide (r.slot ≤ 63)) = rightB r := by
    rw [Bool.eq_iff_iff]; simp [rightB]; omega
  rw [e]
  exact sm h
theorem hasName [Amb] {k : Int} (h : E B H (K (.bool (nName k)))) : E B H (CF Tryz.prog 120 [I k] K) := by
  refine E_mono (W := s120 _ K) ?_ fun _ => c120
  unfold s120
  (repeat first | refine gS ?_ | refine gY ?_ | refine gA fun _ => ?_ | refine gX fun _ _ => ?_ | refine gI ?_)
  have e : (decide (k = 3) || decide (k = 4) || decide (k = 5) || decide (k = 6)) = nName k := by
    rw [Bool.eq_iff_iff]; simp [nName, or_assoc]
  rw [e]
  exact h
theorem hasTime [Amb] {k : Int} (h : E B H (K (.bool (nTime k)))) : E B H (CF Tryz.prog 121 [I k] K) := by
  refine E_mono (W := s121 _ K) ?_ fun _ => c121
  unfold s121
  (repeat first | refine gS ?_ | refine gY ?_ | refine gA fun _ => ?_ | refine gX fun _ _ => ?_ | refine gI ?_)
  have e : (decide (k = 3) || decide (k = 5) || decide (k = 8)) = nTime k := by
    rw [Bool.eq_iff_iff]; simp [nTime, or_assoc]
  rw [e]
  exact h
instance [Amb] {n : Int} [h : Un c x (I n)] : Pb B H c (CF Tryz.prog 122 [x]) (.bool (numB n)) := ⟨fun e K k => by rw [h.pf e]; exact number2 k⟩
instance [Amb] {b s : Int} [h : Un c x (.agg #[I b, I s])] : Pb B H c (CF Tryz.prog 111 [x]) (.bool (spotB b s)) := ⟨fun e K k => by rw [h.pf e]; exact spot k⟩
instance [Amb] {b s : Int} [h : Un c x (.agg #[I b, I s])] : Pb B H c (CF Tryz.prog 124 [x]) (.bool (spotB b s)) := ⟨fun e K k => by rw [h.pf e]; exact spot2 k⟩
instance [Amb] {n : Int} [h : Un c x (I n)] : Pb B H c (CF Tryz.prog 120 [x]) (.bool (nName n)) := ⟨fun e K k => by rw [h.pf e]; exact hasName k⟩
instance [Amb] {n : Int} [h : Un c x (I n)] : Pb B H c (CF Tryz.prog 121 [x]) (.bool (nTime n)) := ⟨fun e K k => by rw [h.pf e]; exact hasTime k⟩
end Go.Proofs.YtjafpncngmbcdaaGreat.Nam
