/-
  Part 10: CdW, CdX, CdZ, CeA, CeB, CeC, CeD, CeE, CeF, CeG, CeH, CeI, CeJ, CeK, CeL, CeM, RowBaseT.
-/
import Derived.Test.YtblgkgobakhigaaPkCodeBackh
import Derived.Test.YtblgkgobakhigaaPkCodeBacki
set_option linter.unusedSimpArgs false
set_option linter.unusedVariables false
set_option linter.unusedSectionVars false
section
namespace Go.Proofs.Ytblgkgobakhigaa.Cod
open Go Go.SL Go.SL.Stb
theorem bits_split (x k j : Nat) : ∃ t : List UInt8, t.length = j ∧ bitsN x (k + j) = bitsN (x / 2 ^ j) k ++ t := by
  induction j generalizing x with
  | zero => exact ⟨[], rfl, by simp⟩
  | succ j ih =>
    obtain ⟨t, h1, h2⟩ := ih (x / 2)
    refine ⟨t ++ [UInt8.ofNat (48 + x % 2)], by simp [h1], ?_⟩
    show bitsN (x / 2) (k + j) ++ _ = _
    rw [h2, List.append_assoc, Nat.div_div_eq_div_mul, ← Nat.pow_succ']
theorem bits_take (x k j : Nat) : (bitsN x (k + j)).take k = bitsN (x / 2 ^ j) k := by
  obtain ⟨t, _, h⟩ := bits_split x k j
  rw [h, List.take_left' (bitsN_len _ _)]
theorem bits_inj {x y k : Nat} (hx : x < 2 ^ k) (hy : y < 2 ^ k) (h : bitsN x k = bitsN y k) : x = y := by
  induction k generalizing x y with
  | zero => simp at hx hy; omega
  | succ k ih =>
    have h' : bitsN (x / 2) k ++ [UInt8.ofNat (48 + x % 2)] = bitsN (y / 2) k ++ [UInt8.ofNat (48 + y % 2)] := h
    obtain ⟨h1, h2⟩ := List.append_inj h' (by rw [bitsN_len, bitsN_len])
    rw [Nat.pow_succ] at hx hy
    have e1 := ih (by omega) (by omega) h1
    have e2 := (List.cons.inj h2).1
    have hx2 : x % 2 = 0 ∨ x % 2 = 1 := by omega
    have hy2 : y % 2 = 0 ∨ y % 2 = 1 := by omega
    have e3 : x % 2 = y % 2 := by
      rcases hx2 with a | a <;> rcases hy2 with b | b <;> rw [a, b] at e2 ⊢ <;> exact absurd e2 (by decide)
    omega
theorem sumW_mono (ls : List Int) {i j : Nat} (h : i ≤ j) : sumW ls ((ordL ls).take i) ≤ sumW ls ((ordL ls).take j) := by
  have e : (ordL ls).take i = ((ordL ls).take j).take i := by rw [List.take_take, Nat.min_eq_left h]
  rw [e]
  unfold sumW
  rw [List.map_take]
  exact sumN_take _
theorem sumB_lt {ls : List Int} {i j b c : Nat} (hij : i < j) (hb : (ordL ls)[i]? = some b) (hc : (ordL ls)[j]? = some c) : sumB ls b + wtB ls b ≤ sumB ls c := by
  rw [sumB_at hb, sumB_at hc, ← sumW_suc hb]
  exact sumW_mono ls hij
theorem ord_at {ls : List Int} (ho : LOk ls) {b : Nat} (hb : b < 256) (h : 0 < ls.getD b 0) : ∃ k : Nat, (ordL ls)[k]? = some b :=
  by
  obtain ⟨k, hk, e⟩ := List.mem_iff_getElem.1 ((ordL_mem ho.rg).2 ⟨hb, h⟩)
  exact ⟨k, by rw [List.getElem?_eq_getElem hk, e]⟩
theorem num_at {ls : List Int} (ho : LOk ls) {k : Nat} (hk : k ≤ (ordL ls).length) : ∃ n long, Num ls k n long := by
  induction k with
  | zero => exact ⟨0, 0, fun _ => ⟨rfl, rfl⟩, fun e => (e rfl).elim⟩
  | succ k ih =>
    obtain ⟨n, long, h⟩ := ih (by omega)
    have hb : (ordL ls)[k]? = some (ordL ls)[k] := List.getElem?_eq_getElem (by omega)
    exact ⟨_, _, (h.next ho hb).2.2.1⟩
theorem word_lt {ls : List Int} (ho : LOk ls) {k b : Nat} (hb : (ordL ls)[k]? = some b) : sumB ls b / wtB ls b < 2 ^ (ls.getD b 0).toNat := by
  obtain ⟨n, long, h⟩ := num_at ho (Nat.le_of_lt (List.getElem?_eq_some_iff.1 hb).1)
  exact (h.next ho hb).2.2.2
theorem prefix_free {ls : List Int} (ho : LOk ls) {b c : Nat} (hb : b < 256) (hc : c < 256) (hbc : b ≠ c) (h0 : 0 < ls.getD b 0) (hle : ls.getD b 0 ≤ ls.getD c 0) : (wordL ls c).take (ls.getD b 0).toNat ≠ wordL ls b := by
  obtain ⟨i, hi⟩ := ord_at ho hb h0
  obtain ⟨j, hj⟩ := ord_at ho hc (by omega)
  have hxi := word_lt ho hi
  have hxj := word_lt ho hj
  rw [wordL_at ho hi, wordL_at ho hj]
  have hrb := ho.rg b hb
  have hrc := ho.rg c hc
  have hsb : wtB ls b = 2 ^ (60 - (ls.getD b 0).toNat) := rfl
  have hsc : wtB ls c = 2 ^ (60 - (ls.getD c 0).toNat) := rfl
  obtain ⟨lb, elb⟩ : ∃ n, (ls.getD b 0).toNat = n := ⟨_, rfl⟩
  obtain ⟨d, eld⟩ : ∃ d, (ls.getD c 0).toNat = lb + d := ⟨(ls.getD c 0).toNat - lb, by omega⟩
  rw [elb] at hsb hxi ⊢
  rw [eld] at hsc hxj ⊢
  rw [bits_take]
  intro he
  have hw : 2 ^ (60 - (lb + d)) * 2 ^ d = 2 ^ (60 - lb) := by rw [← Nat.pow_add]; congr 1; omega
  have hdiv : sumB ls c / wtB ls c / 2 ^ d = sumB ls c / 2 ^ (60 - lb) := by rw [hsc, Nat.div_div_eq_div_mul, hw]
  have hlt : sumB ls c / wtB ls c / 2 ^ d < 2 ^ lb := by
    rw [Nat.div_lt_iff_lt_mul (Nat.pow_pos (by omega)), ← Nat.pow_add]; exact hxj
  have e := bits_inj hlt hxi he
  rw [hdiv, hsb] at e
  have hp : 0 < 2 ^ (60 - lb) := Nat.pow_pos (by omega)
  have key : ∀ x y : Nat, x + 2 ^ (60 - lb) ≤ y → x / 2 ^ (60 - lb) ≠ y / 2 ^ (60 - lb) := fun x y hxy heq => by
    have h1 := Nat.div_le_div_right (c := 2 ^ (60 - lb)) hxy
    rw [Nat.add_div_right _ hp] at h1
    omega
  rcases Nat.lt_trichotomy i j with h | h | h
  · have := sumB_lt h hi hj
    rw [hsb] at this
    exact key _ _ this e.symm
  · subst h
    rw [hi] at hj
    exact hbc (Option.some.inj hj)
  · have h1 := ord_le (Nat.le_of_lt h) hj hi
    have hd : d = 0 := by omega
    subst hd
    have := sumB_lt h hj hi
    rw [hsc, Nat.add_zero] at this
    exact key _ _ this e
end Go.Proofs.Ytblgkgobakhigaa.Cod
end
section
namespace Go.Proofs.Ytblgkgobakhigaa.Cod
open Go Go.SL Go.SL.Stb Go.Proofs Go.Proofs.Ytblgkgobakhigaa.Sh
variable {B : World} {H : List Asrt} {K : Value → WT} {W : WT}
structure Ones (n k j : Nat) : Prop where
  le : j ≤ k
  n1 : n + 1 = (n / 2 ^ j + 1) * 2 ^ j
  bits : bitsN n k = bitsN (n / 2 ^ j) (k - j) ++ os j
theorem Ones.zero (n k : Nat) : Ones n k 0 := ⟨Nat.zero_le _, by simp, by simp [os]⟩
attribute [local irreducible] S.pick S.ld S.ldN S.st S.box S.nc S.fad S.ixS S.ixA S.chr S.prt S.ext S.bin S.sh S.sbin S.beq S.neg1 S.com1 S.not1 S.cvt S.str1 S.lenS S.len S.cap S.lenM S.mx S.mn S.mkM S.cond S.gd S.fa S.dr S.rck S.join S.loop S.cvv S.eqv S.slc S.slcS S.b2s S.lk V U CF Gives E cel mpb osl ros dct dit itr
set_option maxRecDepth 100000
end Go.Proofs.Ytblgkgobakhigaa.Cod
end
section
namespace Go.Proofs.Ytblgkgobakhigaa.Cod
open Go Go.SL Go.SL.Stb Go.Proofs Go.Proofs.Ytblgkgobakhigaa.Sh
variable {B : World} {H : List Asrt} {K : Value → WT} {W : WT}
theorem step_out {s : PS} {c : UInt8} (h : s.n = 7) : s.step c = ⟨s.out ++ [UInt8.ofNat (2 * s.acc + dig c)], 0, 0⟩ := if_pos h
theorem step_in {s : PS} {c : UInt8} (h : ¬ s.n = 7) : s.step c = ⟨s.out, 2 * s.acc + dig c, s.n + 1⟩ := if_neg h
attribute [local irreducible] S.pick S.ld S.ldN S.st S.box S.nc S.fad S.ixS S.ixA S.chr S.prt S.ext S.bin S.sh S.sbin S.beq S.neg1 S.com1 S.not1 S.cvt S.str1 S.lenS S.len S.cap S.lenM S.mx S.mn S.mkM S.cond S.gd S.fa S.dr S.rck S.join S.loop S.cvv S.eqv S.slc S.slcS S.b2s S.lk V U CF Gives E cel mpb osl ros dct dit itr
section
variable {P : Program}
end
set_option maxRecDepth 100000
end Go.Proofs.Ytblgkgobakhigaa.Cod
end
section
namespace Go.Proofs.Ytblgkgobakhigaa.Cod
open Go Go.SL Go.SL.Stb Go.Proofs Go.Proofs.Ytblgkgobakhigaa.Sh
variable {B : World} {H : List Asrt} {K : Value → WT} {W : WT}
theorem orI_of {a b r : Int} (e : IntKind.wrap .i64 (((BitVec.ofInt 64 a ||| BitVec.ofInt 64 b).toNat : Nat) : Int) = r) (h : E B H (K (I r))) : E B H (S.bin .or (I a) (I b) K) := fun w hw => ⟨rfl, by
  have := h w hw
  rw [← e] at this
  exact this⟩
theorem E_shlI {n c : Nat} (hc : c ≤ 64) (hn : n * 2 ^ c ≤ 9223372036854775807) (h : E B H (K (I ((n * 2 ^ c : Nat) : Int)))) : E B H (S.sh .shl (I n) (.int .i64 (c : Int)) K) := fun w hw => ⟨by omega, by
  have := h w hw
  show K (.int .i64 (IntKind.wrap .i64 ((n : Int) * 2 ^ min ((c : Int).toNat) 64))) w
  have e : (n : Int) * 2 ^ c = ((n * 2 ^ c : Nat) : Int) := by simp
  rw [Int.toNat_natCast, Nat.min_eq_left hc, e, wrapI (by omega) (by omega)]
  exact this⟩
theorem numL_sml {n : Nat} (h : n < 128) : numL n = [UInt8.ofNat n] := numF_lt h
theorem numL_big {n : Nat} (h : ¬ n < 128) (h2 : n ≤ 8192) : numL n = [UInt8.ofNat (n % 128 + 128), UInt8.ofNat (n / 128)] := by
  unfold numL
  rw [numF_ge (k := 8) h, numF_lt (by omega)]
attribute [local irreducible] S.pick S.ld S.ldN S.st S.box S.nc S.fad S.ixS S.ixA S.chr S.prt S.ext S.bin S.sh S.sbin S.beq S.neg1 S.com1 S.not1 S.cvt S.str1 S.lenS S.len S.cap S.lenM S.mx S.mn S.mkM S.cond S.gd S.fa S.dr S.rck S.join S.loop S.cvv S.eqv S.slc S.slcS S.b2s S.lk V U CF Gives E cel mpb osl ros dct dit itr
theorem E_orI {a b : Nat} (ha : a ||| b ≤ 9223372036854775807) (ha2 : a ≤ 9223372036854775807) (hb : b ≤ 9223372036854775807) (h : E B H (K (I ((a ||| b : Nat) : Int)))) : E B H (S.bin .or (I a) (I b) K) := by
  refine orI_of ?_ h
  have e1 : ∀ x : Nat, BitVec.ofInt 64 (x : Int) = BitVec.ofNat 64 x := fun x => BitVec.ofInt_natCast ..
  rw [e1, e1, BitVec.toNat_or, BitVec.toNat_ofNat, BitVec.toNat_ofNat, Nat.mod_eq_of_lt (by omega), Nat.mod_eq_of_lt (by omega)]
  exact wrapI (by omega) (by omega)
theorem takeNum {bv : Value} {bs pre post : List UInt8} {n : Nat} [hr : Rb B H bv bs] (hbs : bs = pre ++ (numL n ++ post)) (hn : n ≤ 8192) (hl : bs.length ≤ 1000000000) (h : E B H (K (.tuple #[I n, I (pre.length + (numL n).length : Nat), I 0]))) : E B H (CF Try.prog 33 [bv, I pre.length] K) := by
  have hbl : bs.length = pre.length + (numL n ++ post).length := by rw [hbs, List.length_append]
  refine E_mono (W := s33 _ _ K) ?_ fun _ => c33
  unfold s33
  refine E_join1 [bv, I pre.length, .bool false] H (fun q hq => ?_) ?_
  · refine E_lss ?_
    rw [decide_eq_false (by omega)]
    refine E_gft ?_
    refine E_gft ?_
    refine E_gft ?_
    refine E_rslen (v := bv) (l := bs) ?_
    refine E_gft ?_
    refine E_gtr ?_
    rw [decide_eq_false (by omega)]
    refine E_pff ?_
    exact hq
  refine E_fa fun _ => ?_
  refine E_ff ?_
  refine E_slcB (v := bv) (bs := bs) (l := pre.length) (hh := bs.length) rfl (by simp [S.bound]) (by omega) (Nat.le_refl _) fun v20 hr20 _ => ?_
  have e20 : (bs.drop pre.length).take (bs.length - pre.length) = numL n ++ post := by
    rw [hbs, List.drop_left, List.take_of_length_le (by simp)]
  rw [e20] at hr20
  have h20 : Rb B H v20 (numL n ++ post) := hr20 H
  clear hr20 hr
  refine E_rslen (v := v20) (l := numL n ++ post) ?_
  refine E_loop (n := 5) (σ := Nat) (fun i => i = 0 ∨ (i = 1 ∧ 128 ≤ n)) (fun i => [I pre.length, I ((if i = 0 then 0 else n % 128 : Nat) : Int), v20, I (numL n ++ post).length, I i]) (fun _ => H) (fun i => 1 - i) 0 (fun _ => rfl) rfl (.inl rfl) (fun W hW => hW) ?_
  rintro i K0 hi hk
  refine E_fa fun _ => ?_
  refine E_lss ?_
  have hstep : ∀ (c : UInt8), (numL n ++ post)[i]? = some c → i < (numL n ++ post).length := fun c hc => (List.getElem?_eq_some_iff.1 hc).1
  by_cases hsm : n < 128
  · rw [numL_sml hsm] at *
    have hi0 : i = 0 := by omega
    subst hi0
    refine E_ifT (by simp <;> omega) ?_
    refine E_rsix (v := v20) (l := [UInt8.ofNat n] ++ post) (i := 0) (x := UInt8.ofNat n) rfl fun _ _ => ?_
    refine E_ptld ?_
    rw [u8n (by omega)]
    refine E_join1 [I pre.length, I 0, I 0, .int .u8 (n : Int), v20, I ([UInt8.ofNat n] ++ post).length, I 0, .bool false] H (fun q hq => ?_) ?_
    · refine E_eql ?_
      rw [decide_eq_false (by decide)]
      refine E_gff ?_
      refine E_gff ?_
      refine E_pff ?_
      exact hq
    refine E_fa fun _ => ?_
    refine E_ff ?_
    refine E_rem (by decide) ?_
    rw [show (n : Int).tmod 128 = (n : Int) by rw [Int.tmod_eq_emod_of_nonneg (by omega)]; omega]
    refine E_cvtI (by omega) (by omega) ?_
    refine E_mulI (by decide) (by decide) ?_
    refine E_shlI (c := 0) (by omega) (by omega) ?_
    refine E_orI (a := 0) (by simp; omega) (by omega) (by omega) ?_
    refine E_geq ?_
    refine E_ifF (by omega) ?_
    refine E_join1 [I pre.length, I ((0 ||| n * 2 ^ 0 : Nat) : Int), I 0, .bool false] H (fun q hq => ?_) ?_
    · refine E_eql ?_
      by_cases h0 : (n : Int) = 0
      · rw [decide_eq_true h0]
        refine E_gtf ?_
        refine E_gtf ?_
        refine E_gtr ?_
        rw [decide_eq_false (by decide)]
        refine E_ptt ?_
        exact hq
      · rw [decide_eq_false h0]
        refine E_gff ?_
        refine E_gff ?_
        refine E_pff ?_
        exact hq
    refine E_fa fun _ => ?_
    refine E_ff ?_
    refine E_addI (by omega) (by omega) ?_
    refine E_addI (by omega) (by omega) ?_
    rw [show (pre.length : Int) + 0 + 1 = ((pre.length + [UInt8.ofNat n].length : Nat) : Int) by simp]
    rw [show (0 ||| n * 2 ^ 0 : Nat) = n by simp]
    exact h
  · rw [numL_big hsm hn] at *
    rcases hi with rfl | ⟨rfl, _⟩
    · refine E_ifT (by simp <;> omega) ?_
      refine E_rsix (v := v20) (l := [UInt8.ofNat (n % 128 + 128), UInt8.ofNat (n / 128)] ++ post) (i := 0) (x := UInt8.ofNat (n % 128 + 128)) rfl fun _ _ => ?_
      refine E_ptld ?_
      rw [u8n (by omega)]
      refine E_join1 [I pre.length, I 0, I 0, .int .u8 ((n % 128 + 128 : Nat) : Int), v20, I ([UInt8.ofNat (n % 128 + 128), UInt8.ofNat (n / 128)] ++ post).length, I 0, .bool false] H (fun q hq => ?_) ?_
      · refine E_eql ?_
        rw [decide_eq_false (by decide)]
        refine E_gff ?_
        refine E_gff ?_
        refine E_pff ?_
        exact hq
      refine E_fa fun _ => ?_
      refine E_ff ?_
      refine E_rem (by decide) ?_
      rw [show ((n % 128 + 128 : Nat) : Int).tmod 128 = ((n % 128 : Nat) : Int) by rw [Int.tmod_eq_emod_of_nonneg (by omega)]; omega]
      refine E_cvtI (by omega) (by omega) ?_
      refine E_mulI (by decide) (by decide) ?_
      refine E_shlI (c := 0) (by omega) (by omega) ?_
      refine E_orI (a := 0) (by simp; omega) (by omega) (by omega) ?_
      refine E_geq ?_
      refine E_ifT (by omega) ?_
      refine E_addI (by decide) (by decide) ?_
      have := hk 1 (.inr ⟨rfl, by omega⟩) (by decide)
      rw [if_neg (by decide)] at this
      rw [show (0 ||| n % 128 * 2 ^ 0 : Nat) = n % 128 by simp]
      exact this
    · refine E_ifT (by simp <;> omega) ?_
      refine E_rsix (v := v20) (l := [UInt8.ofNat (n % 128 + 128), UInt8.ofNat (n / 128)] ++ post) (i := 1) (x := UInt8.ofNat (n / 128)) rfl fun _ _ => ?_
      refine E_ptld ?_
      rw [u8n (by omega), if_neg (by decide)]
      refine E_join1 [I pre.length, I ((n % 128 : Nat) : Int), I 1, .int .u8 ((n / 128 : Nat) : Int), v20, I ([UInt8.ofNat (n % 128 + 128), UInt8.ofNat (n / 128)] ++ post).length, I 1, .bool false] H (fun q hq => ?_) ?_
      · refine E_eql ?_
        rw [decide_eq_false (by decide)]
        refine E_gff ?_
        refine E_gff ?_
        refine E_pff ?_
        exact hq
      refine E_fa fun _ => ?_
      refine E_ff ?_
      refine E_rem (by decide) ?_
      rw [show ((n / 128 : Nat) : Int).tmod 128 = ((n / 128 : Nat) : Int) by rw [Int.tmod_eq_emod_of_nonneg (by omega)]; omega]
      refine E_cvtI (by omega) (by omega) ?_
      refine E_mulI (by decide) (by decide) ?_
      have hor : n % 128 ||| n / 128 * 2 ^ 7 = n := by
        have h1 := Nat.two_pow_add_eq_or_of_lt (show n % 128 < 2 ^ 7 by omega) (n / 128)
        rw [Nat.or_comm, Nat.mul_comm, ← h1]
        omega
      refine E_shlI (c := 7) (by omega) (by omega) ?_
      refine E_orI (by rw [hor]; omega) (by omega) (by omega) ?_
      rw [hor]
      refine E_geq ?_
      refine E_ifF (by omega) ?_
      refine E_join1 [I pre.length, I n, I 1, .bool false] H (fun q hq => ?_) ?_
      · refine E_eql ?_
        rw [decide_eq_false (by omega)]
        refine E_gff ?_
        refine E_gff ?_
        refine E_pff ?_
        exact hq
      refine E_fa fun _ => ?_
      refine E_ff ?_
      refine E_addI (by omega) (by omega) ?_
      refine E_addI (by omega) (by omega) ?_
      rw [show (pre.length : Int) + 1 + 1 = ((pre.length + [UInt8.ofNat (n % 128 + 128), UInt8.ofNat (n / 128)].length : Nat) : Int) by simp; omega]
      exact h
end Go.Proofs.Ytblgkgobakhigaa.Cod
end
section
namespace Go.Proofs.Ytblgkgobakhigaa.Cod
open Go Go.SL Go.SL.Stb Go.Proofs Go.Proofs.Ytblgkgobakhigaa.Sh
variable {B : World} {H : List Asrt} {K : Value → WT} {W : WT}
def bitsOf (bs : List UInt8) : List UInt8 := bs.flatMap fun b => bitsN b.toNat 8
theorem bitsOf_app (a b : List UInt8) : bitsOf (a ++ b) = bitsOf a ++ bitsOf b := List.flatMap_append ..
theorem bitsOf_len (bs : List UInt8) : (bitsOf bs).length = 8 * bs.length := by
  unfold bitsOf
  induction bs with
  | nil => rfl
  | cons b bs ih => rw [List.flatMap_cons, List.length_append, ih, bitsN_len, List.length_cons]; omega
theorem bit_dig {c : UInt8} (h : isBit c) : UInt8.ofNat (48 + dig c % 2) = c := by
  rcases h with rfl | rfl <;> decide
theorem bits_snoc {n k : Nat} {c : UInt8} (h : isBit c) : bitsN (2 * n + dig c) (k + 1) = bitsN n k ++ [c] := by
  have hd := (dig_lt h).1
  show bitsN ((2 * n + dig c) / 2) k ++ [UInt8.ofNat (48 + (2 * n + dig c) % 2)] = _
  rw [show (2 * n + dig c) / 2 = n by omega, show (2 * n + dig c) % 2 = dig c % 2 by omega, bit_dig h]
theorem PS.back {s : PS} (h : s.ok) {w : List UInt8} (hw : ∀ c ∈ w, isBit c) : bitsOf (w.foldl PS.step s).out ++ bitsN (w.foldl PS.step s).acc (w.foldl PS.step s).n = bitsOf s.out ++ bitsN s.acc s.n ++ w := by
  induction w generalizing s with
  | nil => simp
  | cons c w ih =>
    have hc := hw c (by simp)
    rw [List.foldl_cons, ih (PS.step_ok h hc) fun x hx => hw x (List.mem_cons_of_mem _ hx)]
    have hd := (dig_lt hc).1
    obtain ⟨h1, h2⟩ := h
    have e : bitsOf (s.step c).out ++ bitsN (s.step c).acc (s.step c).n = bitsOf s.out ++ bitsN s.acc s.n ++ [c] := by
      by_cases h7 : s.n = 7
      · rw [step_out h7]
        rw [h7] at h2
        show bitsOf (s.out ++ [UInt8.ofNat (2 * s.acc + dig c)]) ++ bitsN 0 0 = _
        rw [bitsOf_app, h7, List.append_assoc, List.append_assoc]
        congr 1
        show bitsN (UInt8.ofNat (2 * s.acc + dig c)).toNat (7 + 1) ++ [] ++ [] = _
        rw [u8n (by omega), bits_snoc hc, List.append_nil, List.append_nil]
      · rw [step_in h7]
        show bitsOf s.out ++ bitsN (2 * s.acc + dig c) (s.n + 1) = _
        rw [bits_snoc hc, List.append_assoc]
    rw [e, List.append_assoc]; rfl
theorem PS.bits {s : PS} (h : s.ok) : bitsOf s.bytes = bitsOf s.out ++ bitsN s.acc s.n ++ zs (if s.n = 0 then 0 else 8 - s.n) := by
  obtain ⟨h1, h2⟩ := h
  unfold PS.bytes PS.tail
  rw [bitsOf_app, List.append_assoc]
  congr 1
  by_cases h0 : s.n = 0
  · rw [if_pos h0, if_pos h0, h0]; rfl
  · rw [if_neg h0, if_neg h0]
    have hp8 : 2 ^ (s.n) * 2 ^ (8 - s.n) = 256 := by rw [← Nat.pow_add, show s.n + (8 - s.n) = 8 by omega]
    have ha : s.acc * 2 ^ (8 - s.n) < 256 := by
      rw [← hp8]; exact (Nat.mul_lt_mul_right (Nat.pow_pos (by omega))).2 h2
    show bitsN (UInt8.ofNat (s.acc * 2 ^ (8 - s.n))).toNat 8 ++ [] = _
    rw [List.append_nil, u8n ha]
    have := bits_shl s.acc s.n (8 - s.n)
    rwa [show s.n + (8 - s.n) = 8 by omega] at this
theorem putB_bits (ls : List Int) (p : List UInt8) : ∃ k, k < 8 ∧ bitsOf (putB ls p).bytes = p.flatMap (fun c => wordL ls c.toNat) ++ zs k ∧ ((p.flatMap fun c => wordL ls c.toNat).length + k) % 8 = 0 := by
  have ho := putB_ok ls p
  have h1 := PS.bits ho
  have h2 := PS.back ps0_ok (bits_all ls p)
  have e0 : bitsOf ps0.out ++ bitsN ps0.acc ps0.n = [] := rfl
  rw [e0, List.nil_append] at h2
  unfold putB at h1 ho ⊢
  rw [h2] at h1
  refine ⟨_, ?_, h1, ?_⟩
  · split
    · decide
    · omega
  · have h3 := congrArg List.length h1
    rw [bitsOf_len, List.length_append] at h3
    have h4 : ∀ k, (zs k).length = k := fun k => by simp [zs]
    rw [h4] at h3
    omega
theorem bitsN_at (n : Nat) : ∀ (k j : Nat), j < k → (bitsN n k)[j]? = some (UInt8.ofNat (48 + n / 2 ^ (k - 1 - j) % 2)) := fun k => by
  induction k generalizing n with
  | zero => intro j hj; omega
  | succ k ih =>
    intro j hj
    show (bitsN (n / 2) k ++ [UInt8.ofNat (48 + n % 2)])[j]? = _
    by_cases h : j < k
    · rw [List.getElem?_append_left (by rw [bitsN_len]; exact h), ih _ j h, Nat.div_div_eq_div_mul, ← Nat.pow_succ', show (k - 1 - j).succ = k + 1 - 1 - j by omega]
    · have : j = k := by omega
      subst this
      rw [List.getElem?_append_right (by rw [bitsN_len]; omega), bitsN_len, Nat.sub_self]
      simp
theorem bitsOf_at {bs : List UInt8} {i : Nat} {b : UInt8} (h : bs[i / 8]? = some b) : (bitsOf bs)[i]? = some (UInt8.ofNat (48 + b.toNat / 2 ^ (7 - i % 8) % 2)) := by
  have hlt := (List.getElem?_eq_some_iff.1 h).1
  have e : bs = bs.take (i / 8) ++ b :: bs.drop (i / 8 + 1) := by
    have : b = bs[i / 8] := by
      rw [List.getElem?_eq_getElem hlt] at h
      exact (Option.some.inj h).symm
    rw [this, List.getElem_cons_drop, List.take_append_drop]
  rw [e, bitsOf_app]
  have hl : (bitsOf (bs.take (i / 8))).length = 8 * (i / 8) := by rw [bitsOf_len, List.length_take, Nat.min_eq_left (by omega)]
  rw [List.getElem?_append_right (by omega), hl]
  show (bitsN b.toNat 8 ++ _)[i - 8 * (i / 8)]? = _
  rw [List.getElem?_append_left (by rw [bitsN_len]; omega), bitsN_at _ _ _ (by omega), show i - 8 * (i / 8) = i % 8 by omega, show 8 - 1 - i % 8 = 7 - i % 8 by omega]
end Go.Proofs.Ytblgkgobakhigaa.Cod
end
section
namespace Go.Proofs.Ytblgkgobakhigaa.Cod
open Go Go.SL Go.SL.Stb Go.Proofs Go.Proofs.Ytblgkgobakhigaa.Sh
variable {B : World} {H : List Asrt} {K : Value → WT} {W : WT}
theorem and8_of {a b r : Int} (e : IntKind.wrap .u8 (((BitVec.ofInt 8 a &&& BitVec.ofInt 8 b).toNat : Nat) : Int) = r) (h : E B H (K (.int .u8 r))) : E B H (S.bin .and (.int .u8 a) (.int .u8 b) K) := fun w hw => ⟨rfl, by
  have := h w hw
  rw [← e] at this
  exact this⟩
theorem dig_bit (m : Nat) : dig (UInt8.ofNat (48 + m % 2)) = m % 2 := by
  have : m % 2 = 0 ∨ m % 2 = 1 := by omega
  rcases this with e | e <;> rw [e] <;> decide
def tabTo (ls : List Int) (u : List Nat) : List Int := (List.range 256).map fun b => if b ∈ u then ls.getD b 0 else 0
theorem tabTo_len (ls : List Int) (u : List Nat) : (tabTo ls u).length = 256 := by
  unfold tabTo
  rw [List.length_map, List.length_range]
theorem tabTo_nil (ls : List Int) : tabTo ls [] = zeros := by
  unfold tabTo zeros
  rw [show (fun b => if b ∈ ([] : List Nat) then ls.getD b 0 else 0) = fun _ => (0 : Int) from funext fun b => if_neg (by simp)]
  rw [List.map_const', List.length_range]
theorem tabTo_suc {ls : List Int} {u : List Nat} {k b : Nat} (hb : u[k]? = some b) (hlt : b < 256) : tabTo ls (u.take (k + 1)) = (tabTo ls (u.take k)).set b (ls.getD b 0) := by
  have htk : u.take (k + 1) = u.take k ++ [b] := by rw [List.take_add_one, hb]; rfl
  refine List.ext_getElem? fun i => ?_
  rw [List.getElem?_set, tabTo_len, htk]
  unfold tabTo
  by_cases h : b = i
  · subst h
    rw [if_pos rfl, if_pos hlt, List.getElem?_map, List.getElem?_range hlt]
    simp
  · rw [if_neg h, List.getElem?_map, List.getElem?_map]
    by_cases hi : i < 256
    · rw [List.getElem?_range hi]
      have : (i ∈ u.take k ++ [b]) ↔ i ∈ u.take k := by
        rw [List.mem_append, List.mem_singleton]
        exact ⟨fun h' => h'.elim id fun e => (h e.symm).elim, .inl⟩
      simp only [Option.map_some, this]
    · rw [List.getElem?_eq_none (by rw [List.length_range]; omega)]; rfl
theorem tabTo_all {ls : List Int} (ho : LOk ls) : tabTo ls (usedL ls) = ls := by
  refine List.ext_getElem? fun i => ?_
  by_cases hi : i < 256
  · rw [at256 ho.ln hi]
    unfold tabTo
    rw [List.getElem?_map, List.getElem?_range hi]
    have h0 := ho.rg i hi
    by_cases h : i ∈ usedL ls
    · simp only [Option.map_some, if_pos h]
    · simp only [Option.map_some, if_neg h]
      have : ¬ 0 < ls.getD i 0 := fun hp => h (List.mem_filter.2 ⟨List.mem_range.2 hi, decide_eq_true hp⟩)
      congr 1; omega
  · rw [List.getElem?_eq_none (by rw [tabTo_len]; omega), List.getElem?_eq_none (by rw [ho.ln]; omega)]
theorem tab_at (ls : List Int) {u : List Nat} {k b : Nat} (h : u[k]? = some b) : (tabL ls u)[2 * k]? = some (UInt8.ofNat b) ∧ (tabL ls u)[2 * k + 1]? = some (UInt8.ofNat (ls.getD b 0).toNat) := by
  have hlt := (List.getElem?_eq_some_iff.1 h).1
  have e : u = u.take k ++ b :: u.drop (k + 1) := by
    have : b = u[k] := by
      rw [List.getElem?_eq_getElem hlt] at h
      exact (Option.some.inj h).symm
    rw [this, List.getElem_cons_drop, List.take_append_drop]
  have hl : (tabL ls (u.take k)).length = 2 * k := by rw [tab_len, List.length_take, Nat.min_eq_left (by omega)]
  have et : tabL ls u = tabL ls (u.take k) ++ (UInt8.ofNat b :: UInt8.ofNat (ls.getD b 0).toNat :: tabL ls (u.drop (k + 1))) := by
    conv => lhs; rw [e]
    unfold tabL
    rw [List.flatMap_append]; simp
  rw [et, List.getElem?_append_right (by omega), List.getElem?_append_right (by omega), hl]
  simp
attribute [local irreducible] S.pick S.ld S.ldN S.st S.box S.nc S.fad S.ixS S.ixA S.chr S.prt S.ext S.bin S.sh S.sbin S.beq S.neg1 S.com1 S.not1 S.cvt S.str1 S.lenS S.len S.cap S.lenM S.mx S.mn S.mkM S.cond S.gd S.fa S.dr S.rck S.join S.loop S.cvv S.eqv S.slc S.slcS S.b2s S.lk V U CF Gives E cel mpb osl ros dct dit itr
theorem E_and8 {a : Nat} (ha : a < 256) (h : E B H (K (.int .u8 ((a % 2 : Nat) : Int)))) : E B H (S.bin .and (.int .u8 (a : Int)) (.int .u8 1) K) := by
  refine and8_of ?_ h
  have e1 : BitVec.ofInt 8 (a : Int) = BitVec.ofNat 8 a := BitVec.ofInt_natCast ..
  have e2 : (BitVec.ofInt 8 1).toNat = 1 := by decide
  rw [e1, BitVec.toNat_and, BitVec.toNat_ofNat, Nat.mod_eq_of_lt (by exact ha), e2, Nat.and_one_is_mod]
  rw [wrap8 _ (by omega), Int.toNat_natCast, u8n (by omega)]
theorem nextBit {x at_ : Nat} {bv : Value} {bs : List UInt8} {c : UInt8} [hr : Rb B H bv bs] [CellI bv] (hl : bs.length ≤ 100000000) (hc : (bitsOf bs)[at_]? = some c) (h : E B (cel true x 75 [bv, I (at_ + 1 : Nat)] :: H) (K (.tuple #[.int .u8 (dig c : Int), .bool true]))) : E B (cel true x 75 [bv, I at_] :: H) (CF Try.prog 49 [ptr x] K) := by
  have hlt := (List.getElem?_eq_some_iff.1 hc).1
  rw [bitsOf_len] at hlt
  have hb : bs[at_ / 8]? = some bs[at_ / 8] := List.getElem?_eq_getElem (by omega)
  have hcb := bitsOf_at hb
  rw [hc] at hcb
  have hcd := Option.some.inj hcb
  rw [hcd, dig_bit] at h
  generalize bs[at_ / 8] = b at hb h
  have hbl : b.toNat < 256 := b.toNat_lt
  refine E_mono (W := s49 _ K) ?_ fun _ => c49
  unfold s49
  have hq : ∀ {G : List Asrt} {K : Value → WT}, E B G (K (I ((at_ / 8 : Nat) : Int))) → E B G (S.bin .quo (I at_) (I 8) K) := fun hh => E_quoI (by omega) (by omega) (by omega) (by rw [show (at_ : Int) / 8 = ((at_ / 8 : Nat) : Int) by omega]; exact hh)
  refine E_dr ?_
  refine gS ?_
  refine gS ?_
  refine gS ?_
  refine hq ?_
  refine gS ?_
  refine gS ?_
  refine gS ?_
  refine E_rslen (v := bv) (l := bs) ?_
  refine E_geq ?_
  refine E_ifF (by omega) ?_
  refine E_dr ?_
  refine gS ?_
  refine gS ?_
  refine gS ?_
  refine gS ?_
  refine gS ?_
  refine gS ?_
  refine hq ?_
  refine E_rsix (v := bv) (l := bs) hb fun _ _ => ?_
  refine E_ptld ?_
  refine gS ?_
  refine gS ?_
  refine gS ?_
  refine E_remI (by omega) (by omega) ?_
  refine E_subI (by omega) (by omega) ?_
  rw [show (7 : Int) - (at_ : Int) % 8 = ((7 - at_ % 8 : Nat) : Int) by omega]
  refine E_shrI (by omega) (by omega) (by rw [Int.toNat_natCast]; show 7 - at_ % 8 ≤ 8; omega) ?_
  rw [Int.toNat_natCast]
  have e2 : (b.toNat : Int) / 2 ^ (7 - at_ % 8) = ((b.toNat / 2 ^ (7 - at_ % 8) : Nat) : Int) := by simp
  rw [e2]
  refine E_and8 (Nat.lt_of_le_of_lt (Nat.div_le_self _ _) hbl) ?_
  refine gS ?_
  refine gS ?_
  refine gS ?_
  refine E_addI (by omega) (by omega) ?_
  refine gS ?_
  refine gS ?_
  refine E_st' (by simp) ?_
  exact h
theorem over {x at_ : Nat} {bv : Value} {bs : List UInt8} [hr : Rb B H bv bs] [CellI bv] (hl : bs.length ≤ 100000000) (h1 : at_ ≤ 8 * bs.length) (h2 : 8 * bs.length < at_ + 8) (hz : ∀ i, at_ ≤ i → i < 8 * bs.length → (bitsOf bs)[i]? = some 48) (h : E B H (K (.bool true))) : E B (cel true x 75 [bv, I at_] :: H) (CF Try.prog 37 [ptr x] K) := by
  refine E_mono (W := s37 _ K) ?_ fun _ => c37
  unfold s37
  refine E_loop (n := 1) (σ := Nat) (fun i => at_ ≤ i ∧ i ≤ 8 * bs.length) (fun i => [ptr x]) (fun i => cel true x 75 [bv, I i] :: H) (fun i => 8 * bs.length - i) at_ (fun _ => rfl) rfl ⟨Nat.le_refl _, h1⟩ (fun W hW => hW) ?_
  rintro i K0 ⟨hi1, hi2⟩ hk
  refine E_fa fun _ => ?_
  refine gS ?_
  refine gS ?_
  refine gS ?_
  refine E_remI (by omega) (by omega) ?_
  refine E_gtr ?_
  refine E_if (fun hc => ?_) (fun hc => ?_)
  · have hlt : i < 8 * bs.length := by omega
    refine nextBit hl (hz i hi1 hlt) ?_
    refine E_ext ?_
    refine E_ext ?_
    refine E_neq ?_
    refine E_ifF (by decide) ?_
    exact hk (i + 1) ⟨by omega, by omega⟩ (by omega)
  · refine E_dr ?_
    refine gS ?_
    refine gS ?_
    refine gS ?_
    refine E_quoI (by omega) (by omega) (by omega) ?_
    refine gS ?_
    refine gS ?_
    refine gS ?_
    refine E_rslen (v := bv) (l := bs) ?_
    refine E_eql ?_
    rw [decide_eq_true (by omega)]
    exact sm (G := H) h
end Go.Proofs.Ytblgkgobakhigaa.Cod
end
section
namespace Go.Proofs.Ytblgkgobakhigaa.Cod
open Go Go.SL Go.SL.Stb Go.Proofs Go.Proofs.Ytblgkgobakhigaa.Sh
variable {B : World} {H : List Asrt} {K : Value → WT} {W : WT}
theorem used_lt {ls : List Int} {k b c : Nat} (hb : (usedL ls)[k]? = some b) (hc : (usedL ls)[k + 1]? = some c) : b < c := by
  have hp : (usedL ls).Pairwise (· < ·) := List.pairwise_lt_range.filter _
  obtain ⟨h1, e1⟩ := List.getElem?_eq_some_iff.1 hb
  obtain ⟨h2, e2⟩ := List.getElem?_eq_some_iff.1 hc
  have := List.pairwise_iff_getElem.1 hp k (k + 1) h1 h2 (by omega)
  rwa [e1, e2] at this
set_option maxRecDepth 100000
attribute [local irreducible] S.pick S.ld S.ldN S.st S.box S.nc S.fad S.ixS S.ixA S.chr S.prt S.ext S.bin S.sh S.sbin S.beq S.neg1 S.com1 S.not1 S.cvt S.str1 S.lenS S.len S.cap S.lenM S.mx S.mn S.mkM S.cond S.gd S.fa S.dr S.rck S.join S.loop S.cvv S.eqv S.slc S.slcS S.b2s S.lk V U CF Gives E cel mpb osl ros dct dit itr
theorem table {bv : Value} {bs hd post : List UInt8} {ls : List Int} [hr : Rb B H bv bs] (hbs : bs = hd ++ (tabL ls (usedL ls) ++ post)) (hl : bs.length ≤ 100000000) (ho : LOk ls) (h : E B H (K (.tuple #[.agg (ints ls).toArray, I (hd.length + 2 * (usedL ls).length : Nat), I 0]))) : E B H (CF Try.prog 34 [bv, I hd.length, I (usedL ls).length] K) := by
  have hz : (ints zeros).length = 256 := by simp [ints, zeros_len]
  have hil : ∀ u, (ints (tabTo ls u)).length = 256 := fun u => by rw [ints, List.length_map, tabTo_len]
  have htn := tab_len ls (usedL ls)
  have hbl : bs.length = hd.length + (2 * (usedL ls).length + post.length) := by rw [hbs, List.length_append, List.length_append, htn]
  refine E_mono (W := s34 _ _ _ K) ?_ fun _ => c34
  unfold s34
  refine E_box (vs := ints zeros) fun v6 => ?_
  refine E_box (vs := ints zeros) fun v9 => ?_
  refine E_loop (n := 7) (σ := Nat × Int) (fun s => s.1 ≤ (usedL ls).length ∧ ∀ b : Nat, (usedL ls)[s.1]? = some b → s.2 < (b : Int)) (fun s => [bv, I (hd.length + 2 * s.1 : Nat), ptr v6, ptr v9, I s.2, I (usedL ls).length, I s.1]) (fun s => cel true v9 22 (ints (tabTo ls ((usedL ls).take s.1))) :: cel true v6 22 (ints zeros) :: H) (fun s => (usedL ls).length - s.1) (0, -1) (fun _ => rfl) rfl ⟨Nat.zero_le _, fun b _ => by simp only; omega⟩ (fun W hW => by
    simp only [List.take_zero, tabTo_nil] at hW
    exact hW) ?_
  rintro ⟨k, last⟩ K0 ⟨hk1, hlast⟩ hk
  simp only at hk1 hlast hk ⊢
  refine E_fa fun _ => ?_
  refine E_lss ?_
  refine E_if (fun hc => ?_) (fun hc => ?_)
  · have hb : (usedL ls)[k]? = some (usedL ls)[k] := List.getElem?_eq_getElem (by omega)
    generalize (usedL ls)[k] = b at hb
    have hblt := usedL_lt (List.mem_of_getElem? hb)
    have hlb := hlast b hb
    have hpos : 0 < ls.getD b 0 := of_decide_eq_true (List.mem_filter.1 (List.mem_of_getElem? hb)).2
    have hrg := ho.rg b hblt
    obtain ⟨t1, t2⟩ := tab_at ls hb
    have g1 : bs[hd.length + 2 * k]? = some (UInt8.ofNat b) := by
      rw [hbs, List.getElem?_append_right (by omega), show hd.length + 2 * k - hd.length = 2 * k by omega, List.getElem?_append_left (by rw [htn]; omega)]
      exact t1
    have g2 : bs[hd.length + 2 * k + 1]? = some (UInt8.ofNat (ls.getD b 0).toNat) := by
      rw [hbs, List.getElem?_append_right (by omega), show hd.length + 2 * k + 1 - hd.length = 2 * k + 1 by omega, List.getElem?_append_left (by rw [htn]; omega)]
      exact t2
    have e0 : 0 + b * 1 = b := by omega
    have hk2 := hk (k + 1, (b : Int)) ⟨by simp only; omega, fun c hc => by
      have := used_lt hb hc
      simp only; omega⟩ (by simp only; omega)
    simp only at hk2
    rw [tabTo_suc hb hblt, ← ints_set] at hk2
    refine E_rslen (v := bv) (l := bs) ?_
    refine E_subI (by omega) (by omega) ?_
    refine E_lss ?_
    refine E_ifF (by omega) ?_
    refine E_dr ?_
    refine E_rsix (v := bv) (l := bs) g1 fun _ _ => ?_
    refine E_ptld ?_
    rw [u8n hblt]
    refine E_cvtI (by omega) (by omega) ?_
    refine E_addI (by omega) (by omega) ?_
    rw [show ((hd.length + 2 * k : Nat) : Int) + 1 = ((hd.length + 2 * k + 1 : Nat) : Int) by omega]
    refine E_rsix (v := bv) (l := bs) g2 fun _ _ => ?_
    refine E_ptld ?_
    rw [u8n (by omega : (ls.getD b 0).toNat < 256)]
    refine E_cvtI (by omega) (by omega) ?_
    rw [show (((ls.getD b 0).toNat : Nat) : Int) = ls.getD b 0 by omega]
    refine E_leq ?_
    refine E_ifF (by omega) ?_
    refine E_eql ?_
    refine E_ifF (by omega) ?_
    refine E_ixA hblt ?_
    rw [e0]
    refine E_st' (by rw [hil]; omega) ?_
    refine E_addI (by omega) (by omega) ?_
    refine E_addI (by omega) (by omega) ?_
    rw [show ((hd.length + 2 * k : Nat) : Int) + 2 = ((hd.length + 2 * (k + 1) : Nat) : Int) by omega]
    exact hk2
  · have hke : k = (usedL ls).length := by omega
    subst hke
    rw [List.take_length, tabTo_all ho]
    have hll : (ints ls).length = 256 := by rw [ints, List.length_map, ho.ln]
    have al : AtLen (ints ls) 256 := ⟨hll⟩
    refine E_ldNA (l := ints ls) ?_
    refine fd (a := cel true v6 22 (ints zeros)) ?_
    refine E_stW (vs := ints ls) (hc := allc_ints _) hll hz ?_
    refine E_ldNA (l := ints ls) ?_
    exact sm (G := H) h
end Go.Proofs.Ytblgkgobakhigaa.Cod
end
section
namespace Go.Proofs.Ytblgkgobakhigaa.Cod
open Go Go.SL Go.SL.Stb Go.Proofs Go.Proofs.Ytblgkgobakhigaa.Sh
variable {B : World} {H : List Asrt} {K : Value → WT} {W : WT}
abbrev NL := List (List UInt8 × Nat)
abbrev WL := List (List UInt8 × UInt8)
def pvN : Option Nat → Value
  | none => .pointer none
  | some a => ptr a
def nodeC (L : NL) (D : WL) (q : List UInt8) : List Value := [pvN (L.lookup (q ++ [48])), pvN (L.lookup (q ++ [49])), .bool (D.lookup q).isSome, .int .u8 (((D.lookup q).getD 0).toNat : Int)]
def nds (f : List UInt8 → List Value) (L : NL) : Asrt := all (L.map fun e => cel true e.2 101 (f e.1))
theorem lookup_mem {α : Type} {L : List (List UInt8 × α)} {q : List UInt8} {a : α} (h : L.lookup q = some a) : (q, a) ∈ L := by
  induction L with
  | nil => cases h
  | cons e L ih =>
    rw [List.lookup_cons] at h
    by_cases hq : q = e.1
    · subst hq
      simp only [beq_self_eq_true] at h
      cases h
      exact List.mem_cons_self
    · rw [show (q == e.1) = false by simpa using hq] at h
      exact List.mem_cons_of_mem _ (ih h)
theorem lookup_new {α : Type} {L : List (List UInt8 × α)} {q r : List UInt8} {a : α} : ((q, a) :: L).lookup r = if r = q then some a else L.lookup r := by
  rw [List.lookup_cons]
  by_cases h : r = q
  · subst h; simp
  · rw [if_neg h, show (r == q) = false by simpa using h]
structure Tri (L : NL) (D : WL) (top : Nat) : Prop where
  nd : (L.map (·.1)).Nodup
  root : L.lookup [] = some top
  up : ∀ q c, (L.lookup (q ++ [c])).isSome → (L.lookup q).isSome
  dom : ∀ w, (D.lookup w).isSome → (L.lookup w).isSome
theorem E_nd {f : List UInt8 → List Value} {L : NL} {x : List UInt8 × Nat} (hx : x ∈ L) (h : E B (cel true x.2 101 (f x.1) :: nds f (L.erase x) :: H) W) : E B (nds f L :: H) W := by
  refine E_all ?_
  have p1 := ((List.perm_cons_erase hx).map fun e : List UInt8 × Nat => cel true e.2 101 (f e.1)).append_right H
  refine E_perm (p1.trans List.perm_middle.symm) ?_
  refine E_all' ?_
  exact E_perm (.swap ..) h
theorem E_ndS {f g : List UInt8 → List Value} {L M : NL} {x : List UInt8 × Nat} (hp : L.Perm (x :: M)) (hf : ∀ e ∈ M, g e.1 = f e.1) (h : E B (nds g L :: H) W) : E B (cel true x.2 101 (g x.1) :: nds f M :: H) W := by
  have e : nds f M = nds g M := by
    unfold nds
    congr 1
    exact List.map_congr_left fun e he => by rw [hf e he]
  rw [e]
  refine E_perm (.swap ..) ?_
  refine E_all ?_
  have p1 := (hp.map fun e : List UInt8 × Nat => cel true e.2 101 (g e.1)).append_right H
  refine E_perm (List.perm_middle.trans p1.symm) ?_
  exact E_all' h
end Go.Proofs.Ytblgkgobakhigaa.Cod
end
section
namespace Go.Proofs.Ytblgkgobakhigaa.Cod
open Go Go.SL Go.SL.Stb Go.Proofs Go.Proofs.Ytblgkgobakhigaa.Sh
variable {B : World} {H : List Asrt} {K : Value → WT} {W : WT}
theorem erase_ne {L : NL} (hn : (L.map (·.1)).Nodup) {x : List UInt8 × Nat} (hx : x ∈ L) {e : List UInt8 × Nat} (he : e ∈ L.erase x) : e.1 ≠ x.1 := by
  have hp := (List.perm_cons_erase hx).map fun e : List UInt8 × Nat => e.1
  have h2 := (hp.nodup_iff).1 hn
  rw [List.map_cons] at h2
  intro h
  exact (List.nodup_cons.1 h2).1 (List.mem_map.2 ⟨e, he, h⟩)
def dTo (w : List (List UInt8)) : Nat → WL
  | 0 => []
  | n + 1 => if w.getD n [] = [] then dTo w n else (w.getD n [], UInt8.ofNat n) :: dTo w n
theorem snoc_inj {p q : List UInt8} {c d : UInt8} (h : p ++ [c] = q ++ [d]) : p = q ∧ c = d := by
  obtain ⟨h1, h2⟩ := List.append_inj' h rfl
  exact ⟨h1, (List.cons.inj h2).1⟩
theorem Tri.new {L : NL} {D : WL} {top a xa : Nat} {q : List UInt8} {c : UInt8} (h : Tri L D top) (hq : L.lookup q = some xa) (hc : L.lookup (q ++ [c]) = none) : Tri ((q ++ [c], a) :: L) D top := by
  refine ⟨?_, ?_, ?_, ?_⟩
  · rw [List.map_cons]
    refine List.nodup_cons.2 ⟨fun hm => ?_, h.nd⟩
    obtain ⟨e, he, e1⟩ := List.mem_map.1 hm
    have : (L.lookup (q ++ [c])).isSome := by
      rw [List.lookup_isSome_iff]
      exact ⟨e, he, by simp only at e1; rw [e1]; simp⟩
    rw [hc] at this
    cases this
  · rw [lookup_new, if_neg (by simp)]
    exact h.root
  · intro r d hr
    rw [lookup_new] at hr ⊢
    by_cases hrq : r = q ++ [c]
    · rw [if_pos hrq]; rfl
    · rw [if_neg hrq]
      by_cases h1 : r ++ [d] = q ++ [c]
      · rw [(snoc_inj h1).1, hq]; rfl
      · rw [if_neg h1] at hr
        exact h.up r d hr
  · intro w hw
    rw [lookup_new]
    split
    · rfl
    · exact h.dom w hw
theorem Tri.leaf {L : NL} {D : WL} {top xa : Nat} {w : List UInt8} {b : UInt8} (h : Tri L D top) (hw : L.lookup w = some xa) : Tri L ((w, b) :: D) top :=
  ⟨h.nd, h.root, h.up, fun r hr => by
    rw [lookup_new] at hr
    by_cases e : r = w
    · rw [e, hw]; rfl
    · rw [if_neg e] at hr
      exact h.dom r hr⟩
theorem node_new {L : NL} {D : WL} {a : Nat} {q r : List UInt8} {c : UInt8} (hr : r ≠ q) : nodeC ((q ++ [c], a) :: L) D r = nodeC L D r := by
  unfold nodeC
  rw [lookup_new, lookup_new, if_neg fun e => hr (snoc_inj e).1, if_neg fun e => hr (snoc_inj e).1]
theorem node_leaf {L : NL} {D : WL} {w r : List UInt8} {b : UInt8} (hr : r ≠ w) : nodeC L ((w, b) :: D) r = nodeC L D r := by
  unfold nodeC
  rw [lookup_new, if_neg hr]
theorem node_at (L : NL) (D : WL) (q : List UInt8) {c : UInt8} (hc : isBit c) : (nodeC L D q)[dig c]? = some (pvN (L.lookup (q ++ [c]))) := by
  rcases hc with rfl | rfl <;> rfl
theorem node_set {L : NL} {D : WL} {a : Nat} {q : List UInt8} {c : UInt8} (hc : isBit c) : (nodeC L D q).set (dig c) (ptr a) = nodeC ((q ++ [c], a) :: L) D q := by
  rcases hc with rfl | rfl
  · unfold nodeC
    rw [lookup_new, lookup_new, if_pos rfl, if_neg (by simp)]
    rfl
  · unfold nodeC
    rw [lookup_new, lookup_new, if_pos rfl, if_neg (by simp)]
    rfl
theorem node_fresh {L : NL} {D : WL} {top a : Nat} {q : List UInt8} {c : UInt8} (h : Tri L D top) (hc : L.lookup (q ++ [c]) = none) : nodeC ((q ++ [c], a) :: L) D (q ++ [c]) = [.pointer none, .pointer none, .bool false, .int .u8 0] := by
  have hn : ∀ d, L.lookup (q ++ [c] ++ [d]) = none := fun d => by
    cases hl : L.lookup (q ++ [c] ++ [d]) with
    | none => rfl
    | some x =>
      have := h.up (q ++ [c]) d (by rw [hl]; rfl)
      rw [hc] at this; cases this
  have hd : D.lookup (q ++ [c]) = none := by
    cases hl : D.lookup (q ++ [c]) with
    | none => rfl
    | some x =>
      have := h.dom (q ++ [c]) (by rw [hl]; rfl)
      rw [hc] at this; cases this
  unfold nodeC
  rw [lookup_new, lookup_new, if_neg (by simp), if_neg (by simp), hn, hn, hd]
  rfl
end Go.Proofs.Ytblgkgobakhigaa.Cod
end
section
namespace Go.Proofs.Ytblgkgobakhigaa.Cod
open Go Go.SL Go.SL.Stb Go.Proofs Go.Proofs.Ytblgkgobakhigaa.Sh
variable {B : World} {H : List Asrt} {K : Value → WT} {W : WT}
theorem u_pnode : Try.prog.underlying 71 = some (.pointer 101) := by kernel_rfl
theorem build_node (w : World) : (Instr.build 101 #[]).run Try.prog w = .ok (.agg #[.pointer none, .pointer none, .bool false, .int .u8 0]) w := by kernel_rfl
theorem Tri.init (top : Nat) : Tri [([], top)] [] top := by
  refine ⟨by simp, rfl, fun q c hq => ?_, fun w hw => ?_⟩
  · rw [lookup_new, if_neg (by simp)] at hq
    cases hq
  · cases hw
set_option maxRecDepth 100000
attribute [local irreducible] S.pick S.ld S.ldN S.st S.box S.nc S.fad S.ixS S.ixA S.chr S.prt S.ext S.bin S.sh S.sbin S.beq S.neg1 S.com1 S.not1 S.cvt S.str1 S.lenS S.len S.cap S.lenM S.mx S.mn S.mkM S.cond S.gd S.fa S.dr S.rck S.join S.loop S.cvv S.eqv S.slc S.slcS S.b2s S.lk V U CF Gives E cel mpb osl ros dct dit itr
attribute [local irreducible] nds
theorem rootW {ws : List (List UInt8)} (hl : ws.length = 256) (hb : ∀ w ∈ ws, (∀ c ∈ w, isBit c) ∧ w.length ≤ 100) (h : ∀ L top, Tri L (dTo ws 256) top → E B (nds (nodeC L (dTo ws 256)) L :: H) (K (ptr top))) : E B H (CF Try.prog 35 [.agg (strs ws).toArray] K) := by
  have hil : (strs ws).length = 256 := by rw [strs, List.length_map, hl]
  have al1 : AtLen (strs ws) 256 := ⟨hil⟩
  refine E_mono (W := s35 _ K) ?_ fun _ => c35
  unfold s35
  refine E_box (vs := strs ws) fun v1 => ?_
  refine E_vk build_node ?_
  refine E_box (vs := [.pointer none, .pointer none, .bool false, .int .u8 0]) fun top => ?_
  refine E_ldNA (l := strs ws) ?_
  refine E_loop (n := 3) (σ := Nat × NL) (fun s => s.1 ≤ 256 ∧ Tri s.2 (dTo ws s.1) top) (fun s => [ptr top, .agg (strs ws).toArray, I s.1]) (fun s => nds (nodeC s.2 (dTo ws s.1)) s.2 :: H) (fun s => 256 - s.1) (0, [([], top)]) (fun _ => rfl) rfl ⟨Nat.zero_le _, Tri.init top⟩ (fun W hW => by
    have e : cel true top 101 [.pointer none, .pointer none, .bool false, .int .u8 0] = cel true top 101 (nodeC [([], top)] [] []) := rfl
    rw [e]
    refine sm (G := cel true top 101 (nodeC [([], top)] [] []) :: H) ?_
    unfold nds at hW
    exact E_all' (G := [cel true top 101 (nodeC [([], top)] [] [])]) hW) ?_
  rintro ⟨i, L⟩ K0 ⟨hi, ht⟩ hk
  simp only at hi ht hk ⊢
  refine E_fa fun _ => ?_
  refine E_lss ?_
  refine E_if (fun hc => ?_) (fun hc => ?_)
  · have hw : ws[i]? = some (ws.getD i []) := by
      rw [List.getD_eq_getElem?_getD, List.getElem?_eq_getElem (by omega)]; rfl
    have hwb := hb (ws.getD i []) (List.mem_of_getElem? hw)
    have hd : dTo ws (i + 1) = if ws.getD i [] = [] then dTo ws i else (ws.getD i [], UInt8.ofNat i) :: dTo ws i := rfl
    generalize ws.getD i [] = w at hw hwb hd
    obtain ⟨hw1, hw2⟩ := hwb
    refine E_joinC (σ := NL) (fun L' => Tri L' (dTo ws (i + 1)) top) (fun _ => [ptr top, .agg (strs ws).toArray, I i]) (fun L' => nds (nodeC L' (dTo ws (i + 1))) L' :: H) (fun q hq => ?_) (fun L' ht' => ?_)
    · refine E_aix u_wordsA cell_str size_str hil (strs_get hw) ?_
      refine E_streq (b := []) ?_
      refine E_ifb (fun e => ?_) (fun e => ?_)
      · rw [if_pos (of_decide_eq_true e)] at hd
        rw [hd] at hq
        exact hq L ht
      · have hne : w ≠ [] := of_decide_eq_false e
        rw [if_neg hne] at hd
        rw [hd] at hq
        clear hd
        generalize dTo ws i = D at ht hq ⊢
        refine E_lenstr ?_
        refine E_loop (n := 8) (σ := Nat × NL × Nat) (fun s => s.1 ≤ w.length ∧ Tri s.2.1 D top ∧ s.2.1.lookup (w.take s.1) = some s.2.2) (fun s => [ptr top, I i, str w, ptr s.2.2, .agg (strs ws).toArray, I i, I w.length, I s.1]) (fun s => nds (nodeC s.2.1 D) s.2.1 :: H) (fun s => w.length - s.1) (0, L, top) (fun _ => rfl) rfl ⟨Nat.zero_le _, ht, ht.root⟩ (fun W hW => hW) ?_
        clear ht
        rintro ⟨k, L, xa⟩ K1 ⟨hk1, ht, hx⟩ hk2
        simp only at hk1 ht hx hk2 ⊢
        have hxm := lookup_mem hx
        refine E_fa fun _ => ?_
        refine E_lss ?_
        refine E_if (fun hc2 => ?_) (fun hc2 => ?_)
        · have hlt : k < w.length := by omega
          have hcw : w[k]? = some w[k] := List.getElem?_eq_getElem hlt
          have hbt := hw1 w[k] (List.getElem_mem hlt)
          have htk : w.take (k + 1) = w.take k ++ [w[k]] := by rw [List.take_add_one, hcw]; rfl
          obtain ⟨hd1, hd2⟩ := dig_lt hbt
          refine E_chr (by omega) (by rw [Int.toNat_natCast, strSize]; exact hlt) ?_
          simp only [Int.toNat_natCast]
          show E B _ (S.bin .sub (.int .u8 (w[k].toNat : Int)) _ _)
          refine E_sub ?_
          rw [hd2, wrap8 _ (by omega), Int.toNat_natCast, u8n (by omega)]
          have hat := fun L : NL => node_at L D (w.take k) hbt
          rw [← htk] at hat
          have hk3 : ∀ s : NL × Nat, _ := fun s => hk2 (k + 1, s) 
          simp only at hk3
          have u8d : ((dig w[k] : Nat) : Int) = ((dig w[k] : Nat) : Int) := rfl
          rw [htk] at hk3 hat
          generalize w[k] = c at hbt hd1 hat hk3 hcw ⊢
          generalize w.take k = q at hx hxm hat hk3
          refine E_joinC (σ := NL) (fun L' => Tri L' D top ∧ L'.lookup q = some xa ∧ ∃ a, L'.lookup (q ++ [c]) = some a) (fun _ => [ptr top, I i, str w, ptr xa, .int .u8 (dig c : Int), .agg (strs ws).toArray, I i, I w.length, I k]) (fun L' => nds (nodeC L' D) L' :: H) (fun r hr => ?_) (fun L' hL' => ?_)
          · refine E_nd hxm ?_
            have e0 : 0 + dig c * 1 = dig c := by omega
            refine gS ?_
            refine gS ?_
            refine E_ixA hd1 ?_
            rw [e0]
            refine E_ld' (hat L) ?_
            cases hlk : L.lookup (q ++ [c]) with
            | some a =>
              refine E_peq u_pnode ?_
              refine E_ff ?_
              exact E_ndS (x := (q, xa)) (List.perm_cons_erase hxm) (fun e he => rfl) (hr L ⟨ht, hx, a, hlk⟩)
            | none =>
              refine E_peq0 u_pnode ?_
              refine E_tt ?_
              refine E_vk build_node ?_
              refine E_box (vs := [.pointer none, .pointer none, .bool false, .int .u8 0]) fun a => ?_
              refine gS ?_
              refine gS ?_
              refine E_ixA hd1 ?_
              rw [e0]
              refine E_st' (by simp [nodeC]; omega) ?_
              rw [node_set hbt, ← node_fresh (a := a) ht hlk]
              generalize hg : nodeC ((q ++ [c], a) :: L) D = g
              refine E_perm (H' := cel true xa 101 (g q) :: nds (nodeC L D) (L.erase (q, xa)) :: cel true a 101 (g (q ++ [c])) :: H) (.cons _ (.swap ..)) ?_
              refine E_ndS (L := L) (f := nodeC L D) (g := g) (M := L.erase (q, xa)) (x := (q, xa)) (List.perm_cons_erase hxm) (fun e he => by rw [← hg]; exact node_new (erase_ne ht.nd hxm he)) ?_
              refine E_perm (.swap ..) ?_
              refine E_ndS (L := (q ++ [c], a) :: L) (f := g) (g := g) (M := L) (x := (q ++ [c], a)) (.refl _) (fun e he => rfl) ?_
              have hne : q ≠ q ++ [c] := fun e => by
                have := congrArg List.length e
                simp at this
              have := hr ((q ++ [c], a) :: L) ⟨ht.new hx hlk, by rw [lookup_new, if_neg hne]; exact hx, a, by rw [lookup_new, if_pos rfl]⟩
              rw [hg] at this
              exact this
          · obtain ⟨ht', hx', a, ha⟩ := hL'
            have e0 : 0 + dig c * 1 = dig c := by omega
            have hxm' := lookup_mem hx'
            have hat' := hat L'
            rw [ha] at hat'
            refine E_fa fun _ => ?_
            refine E_nd hxm' ?_
            refine gS ?_
            refine gS ?_
            refine E_ixA hd1 ?_
            rw [e0]
            refine E_ld' hat' ?_
            refine E_addI (by omega) (by omega) ?_
            refine E_ndS (x := (q, xa)) (g := nodeC L' D) (List.perm_cons_erase hxm') (fun e he => rfl) ?_
            exact hk3 (L', a) ⟨by omega, ht', ha⟩ (by omega)
        · have hke : k = w.length := by omega
          subst hke
          rw [List.take_length] at hx hxm
          refine E_nd hxm ?_
          refine E_cvt8 (by omega) ?_
          rw [Int.toNat_natCast]
          refine gS ?_
          refine gS ?_
          refine E_st' (by simp [nodeC]) ?_
          refine gS ?_
          refine gS ?_
          refine E_st' (by simp [nodeC]) ?_
          have e : ((nodeC L D w).set 2 (.bool true)).set 3 (.int .u8 ((UInt8.ofNat i).toNat : Int)) = nodeC L ((w, UInt8.ofNat i) :: D) w := by
            unfold nodeC
            rw [lookup_new, if_pos rfl]; rfl
          rw [e]
          exact E_ndS (x := (w, xa)) (List.perm_cons_erase hxm) (fun e he => node_leaf (erase_ne ht.nd hxm he)) (hq L (ht.leaf hx))
    · refine E_fa fun _ => ?_
      refine E_addI (by omega) (by omega) ?_
      exact hk (i + 1, L') ⟨by simp only; omega, ht'⟩ (by simp only; omega)
  · have hie : i = 256 := by omega
    subst hie
    exact h L top ht
end Go.Proofs.Ytblgkgobakhigaa.Cod
end
section
namespace Go.Proofs.Ytblgkgobakhigaa.Cod
open Go Go.SL Go.SL.Stb
theorem dTo_none {ws : List (List UInt8)} {n : Nat} {q : List UInt8} (h : ∀ i, i < n → ws.getD i [] ≠ [] → ws.getD i [] ≠ q) : (dTo ws n).lookup q = none := by
  induction n with
  | zero => rfl
  | succ n ih =>
    have ih := ih fun i hi => h i (by omega)
    unfold dTo
    by_cases hw : ws.getD n [] = []
    · rw [if_pos hw]; exact ih
    · rw [if_neg hw, lookup_new, if_neg fun e => h n (by omega) hw e.symm]; exact ih
theorem dTo_some {ws : List (List UInt8)} {n i : Nat} {q : List UInt8} (hi : i < n) (hq : ws.getD i [] = q) (h0 : q ≠ []) (h : ∀ j, j < n → j ≠ i → ws.getD j [] ≠ q) : (dTo ws n).lookup q = some (UInt8.ofNat i) := by
  induction n with
  | zero => omega
  | succ n ih =>
    unfold dTo
    by_cases hin : i = n
    · subst hin
      rw [hq, if_neg h0, lookup_new, if_pos rfl]
    · have ih := ih (by omega) fun j hj => h j (by omega)
      by_cases hw : ws.getD n [] = []
      · rw [if_pos hw]; exact ih
      · rw [if_neg hw, lookup_new, if_neg fun e => h n (by omega) (fun e => hin e.symm) e.symm]; exact ih
theorem Tri.begins {L : NL} {D : WL} {top : Nat} (h : Tri L D top) {w : List UInt8} (hw : (L.lookup w).isSome) (k : Nat) : (L.lookup (w.take k)).isSome := by
  have key : ∀ d k, k + d = w.length → (L.lookup (w.take k)).isSome := fun d => by
    induction d with
    | zero => intro k hk
              rw [List.take_of_length_le (by omega)]; exact hw
    | succ d ih =>
      intro k hk
      have h1 := ih (k + 1) (by omega)
      have hx : w[k]? = some w[k] := List.getElem?_eq_getElem (by omega)
      rw [List.take_add_one, hx] at h1
      exact h.up _ _ h1
  rcases Nat.lt_or_ge w.length k with hk | hk
  · rw [List.take_of_length_le (by omega)]; exact hw
  · exact key (w.length - k) k (by omega)
end Go.Proofs.Ytblgkgobakhigaa.Cod
end
section
namespace Go.Proofs.Ytblgkgobakhigaa.Cod
open Go Go.SL Go.SL.Stb Go.Proofs Go.Proofs.Ytblgkgobakhigaa.Sh
variable {B : World} {H : List Asrt} {K : Value → WT} {W : WT}
attribute [local irreducible] S.pick S.ld S.ldN S.st S.box S.nc S.fad S.ixS S.ixA S.chr S.prt S.ext S.bin S.sh S.sbin S.beq S.neg1 S.com1 S.not1 S.cvt S.str1 S.lenS S.len S.cap S.lenM S.mx S.mn S.mkM S.cond S.gd S.fa S.dr S.rck S.join S.loop S.cvv S.eqv S.slc S.slcS S.b2s S.lk V U CF Gives E cel mpb osl ros dct dit itr
attribute [local irreducible] nds
theorem byteW {x at_ top : Nat} {bv : Value} {bs w : List UInt8} {L : NL} {D : WL} {b : UInt8} [hr : Rb B H bv bs] [CellI bv] (hl : bs.length ≤ 100000000) (ht : Tri L D top) (h0 : w ≠ []) (hw : ∀ c ∈ w, isBit c) (hb : D.lookup w = some b)
    (hf : ∀ k, k < w.length → D.lookup (w.take k) = none) (hbits : ∀ j, j < w.length → (bitsOf bs)[at_ + j]? = w[j]?)
    (h : E B (cel true x 75 [bv, I (at_ + w.length : Nat)] :: nds (nodeC L D) L :: H) (K (.tuple #[.int .u8 (b.toNat : Int), I 0]))) :
    E B (cel true x 75 [bv, I at_] :: nds (nodeC L D) L :: H) (CF Try.prog 36 [ptr x, ptr top] K) := by
  have hlw : (L.lookup w).isSome := ht.dom w (by rw [hb]; rfl)
  have hpos := List.length_pos_iff.2 h0
  refine E_mono (W := s36 _ _ K) ?_ fun _ => c36
  unfold s36
  refine E_loop (n := 2) (σ := Nat × Nat) (fun s => s.1 < w.length ∧ L.lookup (w.take s.1) = some s.2) (fun s => [ptr x, ptr s.2]) (fun s => cel true x 75 [bv, I (at_ + s.1 : Nat)] :: nds (nodeC L D) L :: H) (fun s => w.length - s.1) (0, top) (fun _ => rfl) rfl ⟨hpos, ht.root⟩ (fun W hW => hW) ?_
  rintro ⟨k, na⟩ K0 ⟨hk, hn⟩ hk0
  simp only at hk hn hk0 ⊢
  have hcw : w[k]? = some w[k] := List.getElem?_eq_getElem hk
  have hbt := hw w[k] (List.getElem_mem hk)
  have htk : w.take (k + 1) = w.take k ++ [w[k]] := by rw [List.take_add_one, hcw]; rfl
  have hnx := hbits k hk
  rw [hcw] at hnx
  have hl1 := ht.begins hlw (k + 1)
  obtain ⟨a, ha⟩ := Option.isSome_iff_exists.1 hl1
  have hat := node_at L D (w.take k) hbt
  rw [← htk, ha] at hat
  replace hat : (nodeC L D (w.take k))[dig w[k]]? = some (ptr a) := hat
  have hd1 := (dig_lt hbt).1
  have e0 : 0 + dig w[k] * 1 = dig w[k] := by omega
  refine E_fa fun _ => ?_
  refine nextBit hl hnx ?_
  refine E_ext ?_
  refine E_ext ?_
  refine E_notb (c := true) ?_
  refine E_ff ?_
  refine E_perm (.swap ..) ?_
  refine E_nd (lookup_mem hn) ?_
  refine gS ?_
  refine gS ?_
  refine E_ixA hd1 ?_
  rw [e0]
  refine E_ld' hat ?_
  refine E_peq u_pnode ?_
  refine E_ff ?_
  refine E_ndS (x := (w.take k, na)) (g := nodeC L D) (List.perm_cons_erase (lookup_mem hn)) (fun e he => rfl) ?_
  refine E_nd (lookup_mem ha) ?_
  refine gS ?_
  refine gS ?_
  refine E_ld' (v := .bool (D.lookup (w.take (k + 1))).isSome) rfl ?_
  by_cases hlast : k + 1 = w.length
  · rw [hlast, List.take_length, hb]
    refine E_tt ?_
    refine gS ?_
    refine gS ?_
    refine E_ld' (v := .int .u8 (b.toNat : Int)) (by simp [nodeC, hb]) ?_
    rw [hlast, List.take_length] at ha
    refine E_ndS (x := (w, a)) (g := nodeC L D) (List.perm_cons_erase (lookup_mem ha)) (fun e he => rfl) ?_
    refine E_perm (.swap ..) ?_
    rw [Nat.add_assoc, hlast]
    exact h
  · rw [hf (k + 1) (by omega)]
    refine E_ff ?_
    refine E_ndS (x := (w.take (k + 1), a)) (g := nodeC L D) (List.perm_cons_erase (lookup_mem ha)) (fun e he => rfl) ?_
    refine E_perm (.swap ..) ?_
    exact hk0 (k + 1, a) ⟨by simp only; omega, ha⟩ (by simp only; omega)
end Go.Proofs.Ytblgkgobakhigaa.Cod
end
section
namespace Go.Proofs.Ytblgkgobakhigaa.Cod
open Go Go.SL Go.SL.Stb Go.Proofs Go.Proofs.Ytblgkgobakhigaa.Sh
variable {B : World} {H : List Asrt} {K : Value → WT} {W : WT}
attribute [local irreducible] S.pick S.ld S.ldN S.st S.box S.nc S.fad S.ixS S.ixA S.chr S.prt S.ext S.bin S.sh S.sbin S.beq S.neg1 S.com1 S.not1 S.cvt S.str1 S.lenS S.len S.cap S.lenM S.mx S.mn S.mkM S.cond S.gd S.fa S.dr S.rck S.join S.loop S.cvv S.eqv S.slc S.slcS S.b2s S.lk V U CF Gives E cel mpb osl ros dct dit itr
theorem putLong {pv : Value} {p : List UInt8} [hr : Rb B H pv p] (hp : 8192 < p.length) (h : E B H (K (.tuple #[nil, I 6]))) : E B H (CF Try.prog 13 [pv] K) := by
  refine E_mono (W := s13 _ K) ?_ fun _ => c13
  unfold s13
  refine E_rslen (v := pv) (l := p) ?_
  refine E_gtr ?_
  refine E_ifT (by omega) ?_
  exact h
theorem takeMore {bv : Value} {p : List UInt8} {m : Int} [hr : Rb B H bv (putL p)] (hp : p.length ≤ 8192) (hl : (putL p).length ≤ 1000000000) (hm : m < p.length) (h : E B H (K (.tuple #[nil, I 6]))) : E B H (CF Try.prog 17 [bv, I m] K) := by
  refine E_mono (W := s17 _ _ K) ?_ fun _ => c17
  unfold s17
  refine takeNum (pre := []) (n := p.length) (post := numL (usedL (lens (tally p))).length ++ (tabL (lens (tally p)) (usedL (lens (tally p))) ++ (putB (lens (tally p)) p).bytes)) (by unfold putL; simp) hp hl ?_
  refine E_ext ?_
  refine E_ext ?_
  refine E_ext ?_
  refine E_neq ?_
  refine E_ifF (by decide) ?_
  refine E_mn ?_
  refine E_gtr ?_
  refine E_ifT (by omega) ?_
  exact h
end Go.Proofs.Ytblgkgobakhigaa.Cod
end
section
namespace Go.Proofs.Ytblgkgobakhigaa.Cod
open Go Go.SL Go.SL.Stb Go.Proofs Go.Proofs.Ytblgkgobakhigaa.Sh
variable {B : World} {H : List Asrt} {K : Value → WT} {W : WT}
theorem wordsL_getD {ls : List Int} (ho : LOk ls) {b : Nat} (hb : b < 256) : (wordsL ls).getD b [] = wordL ls b := by
  rw [List.getD_eq_getElem?_getD, wordsL_at ho hb]; rfl
theorem word_ne {ls : List Int} {b : Nat} (h : 0 < ls.getD b 0) : wordL ls b ≠ [] := by
  intro e
  have := congrArg List.length e
  unfold wordL at this
  rw [if_pos h, bitsN_len] at this
  simp only [List.length_nil] at this
  omega
theorem word_length {ls : List Int} (ho : LOk ls) {b : Nat} (hb : b < 256) : (wordL ls b).length = (ls.getD b 0).toNat := by
  have := ho.rg b hb
  unfold wordL
  split
  · exact bitsN_len _ _
  · rw [List.length_nil]; omega
theorem leaf_at {ls : List Int} (ho : LOk ls) {b : Nat} (hb : b < 256) (h0 : 0 < ls.getD b 0) : (dTo (wordsL ls) 256).lookup (wordL ls b) = some (UInt8.ofNat b) := by
  refine dTo_some hb (wordsL_getD ho hb) (word_ne h0) fun j hj hne e => ?_
  rw [wordsL_getD ho hj] at e
  have hl := congrArg List.length e
  rw [word_length ho hj, word_length ho hb] at hl
  have hrj := ho.rg j hj
  refine prefix_free ho hb hj (fun e => hne e.symm) h0 (by omega) ?_
  rw [e, List.take_of_length_le (by rw [word_length ho hb]; omega)]
theorem leaf_none {ls : List Int} (ho : LOk ls) {b k : Nat} (hb : b < 256) (hk : k < (wordL ls b).length) : (dTo (wordsL ls) 256).lookup ((wordL ls b).take k) = none := by
  refine dTo_none fun j hj hne e => ?_
  rw [wordsL_getD ho hj] at e hne
  have hrj := ho.rg j hj
  have hrb := ho.rg b hb
  have hj0 : 0 < ls.getD j 0 := by
    refine Classical.byContradiction fun hn => hne ?_
    unfold wordL
    rw [if_neg hn]
  have hl := congrArg List.length e
  rw [List.length_take, word_length ho hj] at hl
  rw [word_length ho hb] at hk hl
  have hkj : k = (ls.getD j 0).toNat := by omega
  refine prefix_free ho hj hb (fun e => ?_) hj0 (by omega) ?_
  · subst e; omega
  · rw [← hkj, ← e]
end Go.Proofs.Ytblgkgobakhigaa.Cod
end
section
namespace Go.Proofs.Ytblgkgobakhigaa.Cod
open Go Go.SL Go.SL.Stb Go.Proofs Go.Proofs.Ytblgkgobakhigaa.Sh
variable {B : World} {H : List Asrt} {K : Value → WT} {W : WT}
theorem flat_take {ls : List Int} {p : List UInt8} {i : Nat} {c : UInt8} (h : p[i]? = some c) : p.flatMap (fun c => wordL ls c.toNat) = (p.take i).flatMap (fun c => wordL ls c.toNat) ++ (wordL ls c.toNat ++ (p.drop (i + 1)).flatMap fun c => wordL ls c.toNat) := by
  have hlt := (List.getElem?_eq_some_iff.1 h).1
  have hc : p[i] = c := by
    rw [List.getElem?_eq_getElem hlt] at h
    exact Option.some.inj h
  conv => lhs; rw [← List.take_append_drop i p, List.drop_eq_getElem_cons hlt, hc]
  rw [List.flatMap_append, List.flatMap_cons]
theorem str_bits : Str Try.prog 75 [(0, 1), (1, 1)] [nil, I 0] := str_of (zv := .agg #[nil, I 0]) (by kernel_rfl) (by kernel_rfl) rfl
attribute [local irreducible] S.pick S.ld S.ldN S.st S.box S.nc S.fad S.ixS S.ixA S.chr S.prt S.ext S.bin S.sh S.sbin S.beq S.neg1 S.com1 S.not1 S.cvt S.str1 S.lenS S.len S.cap S.lenM S.mx S.mn S.mkM S.cond S.gd S.fa S.dr S.rck S.join S.loop S.cvv S.eqv S.slc S.slcS S.b2s S.lk V U CF Gives E cel mpb osl ros dct dit itr
attribute [local irreducible] nds
theorem decode {x top : Nat} {v74 : Value} {bs p : List UInt8} {ls : List Int} {L : NL} [hr : Rb B H v74 bs] [CellI v74] (ho : LOk ls) (ht : Tri L (dTo (wordsL ls) 256) top) (hl : bs.length ≤ 100000000) (hlp : p.length ≤ 8192) (hp : ∀ c ∈ p, 0 < ls.getD c.toNat 0)
    (hk : ∃ k, k < 8 ∧ bitsOf bs = p.flatMap (fun c => wordL ls c.toNat) ++ zs k ∧ ((p.flatMap fun c => wordL ls c.toNat).length + k) % 8 = 0)
    (h : ∀ v [CellI v], E B (sls cB 5 1 v p :: H) (K (.tuple #[v, I 0]))) :
    E B (cel true x 75 [v74, I 0] :: nds (nodeC L (dTo (wordsL ls) 256)) L :: H) (
 S.loop 5 (fun K1 => fun v12 v13 v14 v77 v78 => S.fa fun _ =>
 S.bin .lss v78 v77 fun v79 =>
 S.cond v79 (
 CF Try.prog 36 [v13, v12] fun v83 =>
 S.ext v83 0 fun v84 =>
 S.ext v83 1 fun v85 =>
 S.bin .neq v85 (I 0) fun v87 =>
 S.cond v87 (
 K (.tuple #[(.slice none 0 0), v85])) (
 V Try.prog (Instr.buildSlice 31 1 #[(0, v84)]) fun v91 =>
 V Try.prog (Builtin.append_ #[31, 31] 31 #[v14, v91]) fun v92 =>
 S.bin .add v78 (I 1) fun v93 =>
 K1 v12 v13 v92 v77 v93)) (
 CF Try.prog 37 [v13] fun v95 =>
 S.not1 v95 fun v96 =>
 S.cond v96 (
 K (.tuple #[(.slice none 0 0), (I 4)])) (
 K (.tuple #[v14, (I 0)]))))
 [ptr top, ptr x, nil, I p.length, (I 0)]) := by
  obtain ⟨kz, hk1, hk2, hk3⟩ := hk
  have hlen := congrArg List.length hk2
  rw [bitsOf_len, List.length_append, show (zs kz).length = kz by simp [zs]] at hlen
  refine E_loop (n := 5) (σ := Nat × Cv) (fun s => s.1 ≤ p.length) (fun s => [ptr top, ptr x, s.2.1, I p.length, I s.1]) (fun s => sls cB 5 1 s.2.1 (p.take s.1) :: cel true x 75 [v74, I ((p.take s.1).flatMap fun c => wordL ls c.toNat).length] :: nds (nodeC L (dTo (wordsL ls) 256)) L :: H) (fun s => p.length - s.1) (0, ⟨nil, rfl⟩) (fun _ => rfl) rfl (Nat.zero_le _) (fun W hW => by
    refine sls_nil cB 1 (T := 5) ?_
    exact hW) ?_
  rintro ⟨i, ov⟩ K0 hi hk
  simp only at hi hk ⊢
  have iov : CellI ov.1 := ⟨ov.2⟩
  refine E_fa fun _ => ?_
  refine E_lss ?_
  refine E_if (fun hc => ?_) (fun hc => ?_)
  · have hx : p[i]? = some p[i] := List.getElem?_eq_getElem (by omega)
    have hcp := hp p[i] (List.getElem_mem (by omega))
    generalize p[i] = c at hx hcp
    have hcl : c.toNat < 256 := c.toNat_lt
    have hft := flat_take (ls := ls) hx
    have htk : p.take (i + 1) = p.take i ++ [c] := by rw [List.take_add_one, hx]; rfl
    have hlt : (p.take i).length ≤ 8192 := by rw [List.length_take]; omega
    have hk4 : ∀ s : Cv, _ := fun s => hk (i + 1, s) (by simp only; omega) (by simp only; omega)
    simp only at hk4
    rw [htk, List.flatMap_append, List.length_append, show ([c].flatMap fun c => wordL ls c.toNat) = wordL ls c.toNat by simp] at hk4
    generalize (p.take i).flatMap (fun c => wordL ls c.toNat) = pre at hft hk4 ⊢
    refine E_perm (H' := cel true x 75 [v74, I pre.length] :: nds (nodeC L (dTo (wordsL ls) 256)) L :: sls cB 5 1 ov.1 (p.take i) :: H) ((List.Perm.swap ..).trans (.cons _ (.swap ..))) ?_
    refine byteW hl ht (word_ne hcp) (word_bit ls _) (leaf_at ho hcl hcp) (fun k hk => leaf_none ho hcl hk) (fun j hj => ?_) ?_
    · rw [hk2, hft, List.append_assoc, List.getElem?_append_right (by omega), show pre.length + j - pre.length = j by omega, List.append_assoc, List.getElem?_append_left hj]
    · refine E_ext ?_
      refine E_ext ?_
      refine E_neq ?_
      refine E_ifF (by decide) ?_
      rw [show UInt8.ofNat c.toNat = c by simp]
      refine E_perm (H' := sls cB 5 1 ov.1 (p.take i) :: cel true x 75 [v74, I (pre.length + (wordL ls c.toNat).length : Nat)] :: nds (nodeC L (dTo (wordsL ls) 256)) L :: H) ((List.Perm.cons _ (.swap ..)).trans (.swap ..)) ?_
      refine E_sapp1 (enc := cB) c u_bytes elt_byte rfl (by decide) (by omega) (by omega) fun v' hv' => ?_
      refine E_addI (by omega) (by omega) ?_
      exact hk4 ⟨v', hv'.pf⟩
  · have hie : i = p.length := by omega
    subst hie
    rw [List.take_length]
    generalize hpre : p.flatMap (fun c => wordL ls c.toNat) = pre at hk2 hk3 hlen ⊢
    refine E_perm (H' := cel true x 75 [v74, I pre.length] :: sls cB 5 1 ov.1 p :: nds (nodeC L (dTo (wordsL ls) 256)) L :: H) (.swap ..) ?_
    refine over hl (by omega) (by omega) (fun i h1 h2 => ?_) ?_
    · rw [hk2, List.getElem?_append_right h1]
      unfold zs
      rw [List.getElem?_replicate, if_pos (by omega)]
    · refine E_notb (c := true) ?_
      refine E_ff ?_
      exact sm (G := sls cB 5 1 ov.1 p :: H) (h ov.1)
end Go.Proofs.Ytblgkgobakhigaa.Cod
end
section
namespace Go.Proofs.Ytblgkgobakhigaa.Cod
open Go Go.SL Go.SL.Stb Go.Proofs Go.Proofs.Ytblgkgobakhigaa.Sh
variable {B : World} {H : List Asrt} {K : Value → WT} {W : WT}
theorem tally_pos {p : List UInt8} {c : UInt8} (h : c ∈ p) : 0 < (tally p).getD c.toNat 0 := by
  rw [getD_of (tally_at (p := p) c.toNat_lt)]
  have : 0 < p.countP fun d => d.toNat == c.toNat := List.countP_pos_iff.2 ⟨c, h, by simp⟩
  omega
theorem used_none {ls : List Int} : (usedL ls).length = 0 ↔ ∀ b, b < 256 → ¬ 0 < ls.getD b 0 := by
  unfold usedL
  rw [List.length_eq_zero_iff, List.filter_eq_nil_iff]
  constructor
  · intro h b hb
    simpa using h b (List.mem_range.2 hb)
  · intro h b hb
    simpa using h b (List.mem_range.1 hb)
theorem E_bneN {a : Bool} (h : E B H (K (.bool false))) : E B H (S.beq .neq (.bool a) (.bool a) K) := fun w hw => by
  unfold S.beq
  simpa using h w hw
set_option maxRecDepth 100000
attribute [local irreducible] S.pick S.ld S.ldN S.st S.box S.nc S.fad S.ixS S.ixA S.chr S.prt S.ext S.bin S.sh S.sbin S.beq S.neg1 S.com1 S.not1 S.cvt S.str1 S.lenS S.len S.cap S.lenM S.mx S.mn S.mkM S.cond S.gd S.fa S.dr S.rck S.join S.loop S.cvv S.eqv S.slc S.slcS S.b2s S.lk V U CF Gives E cel mpb osl ros dct dit itr
attribute [local irreducible] nds
theorem take {bv : Value} {p : List UInt8} [hr : Rb B H bv (putL p)] (hp : p.length ≤ 8192) (hl : (putL p).length ≤ 100000000) (h : ∀ v [CellI v], E B (sls cB 5 1 v p :: H) (K (.tuple #[v, I 0]))) : E B H (CF Try.prog 17 [bv, I p.length] K) := by
  have hk := lens_ok (tally_len p) (tally_ok hp)
  have ho := hk.ok
  have hpos : ∀ c ∈ p, 0 < (lens (tally p)).getD c.toNat 0 := fun c hc => (hk.up _ c.toNat_lt).1 (tally_pos hc)
  have hzero : (usedL (lens (tally p))).length = 0 ↔ p.length = 0 := by
    rw [used_none]
    constructor
    · intro h
      cases p with
      | nil => rfl
      | cons c p => exact absurd (hpos c (List.mem_cons_self ..)) (h _ c.toNat_lt)
    · intro h b hb
      rw [List.length_eq_zero_iff] at h
      subst h
      rw [← hk.up b hb, show tally [] = zeros from tally_nil, zeros_at]
      omega
  clear hk
  have hput : putL p = numL p.length ++ (numL (usedL (lens (tally p))).length ++ (tabL (lens (tally p)) (usedL (lens (tally p))) ++ (putB (lens (tally p)) p).bytes)) := by unfold putL; simp
  have hbits := putB_bits (lens (tally p)) p
  generalize lens (tally p) = ls at ho hpos hzero hput hbits
  generalize putL p = bs at hr hl hput
  have hul : (usedL ls).length ≤ 256 := usedTo_len ls 256
  have htn := tab_len ls (usedL ls)
  have hll := ho.ln
  have hil2 : (ints ls).length = 256 := by simp [ints, hll]
  have al2 : AtLen (ints ls) 256 := ⟨hil2⟩
  have hz : (ints zeros).length = 256 := by simp [ints, zeros_len]
  have hwl : (strs (wordsL ls)).length = 256 := by rw [strs, List.length_map, wordsL_len]
  have alw : AtLen (strs (wordsL ls)) 256 := ⟨hwl⟩
  have hzl : (strs (List.replicate 256 [])).length = 256 := by rw [strs, List.length_map, List.length_replicate]
  refine E_mono (W := s17 _ _ K) ?_ fun _ => c17
  unfold s17
  refine takeNum (pre := []) (n := p.length) (post := _) hput hp (by omega) ?_
  refine E_ext ?_
  refine E_ext ?_
  refine E_ext ?_
  refine E_neq ?_
  refine E_ifF (by decide) ?_
  refine E_mn ?_
  refine E_gtr ?_
  refine E_ifF (by omega) ?_
  rw [show ([] : List UInt8).length + (numL p.length).length = (numL p.length).length by simp]
  refine takeNum (bs := bs) (pre := numL p.length) (n := (usedL ls).length) (post := _) hput (by omega) (by omega) ?_
  refine E_ext ?_
  refine E_ext ?_
  refine E_ext ?_
  refine E_neq ?_
  refine E_ifF (by decide) ?_
  have hhd : (numL p.length).length + (numL (usedL ls).length).length = (numL p.length ++ numL (usedL ls).length).length := by simp
  rw [hhd]
  have hput2 : bs = (numL p.length ++ numL (usedL ls).length) ++ (tabL ls (usedL ls) ++ (putB ls p).bytes) := by rw [hput]; simp
  clear hput hhd
  generalize numL p.length ++ numL (usedL ls).length = hd at hput2 ⊢
  have hbl : bs.length = hd.length + (2 * (usedL ls).length + (putB ls p).bytes.length) := by rw [hput2, List.length_append, List.length_append, htn]
  refine E_join1 [bv, I p.length, I hd.length, I (usedL ls).length, .bool false] H (fun q hq => ?_) ?_
  · refine E_gtr ?_
    rw [decide_eq_false (by omega)]
    refine E_gft ?_
    refine E_gft ?_
    refine E_eql ?_
    refine E_gft ?_
    refine E_gft ?_
    refine E_eql ?_
    refine E_gft ?_
    have he : decide (((usedL ls).length : Int) = 0) = decide ((p.length : Int) = 0) := by rw [decide_eq_decide]; omega
    rw [he]
    refine E_bneN ?_
    refine E_pff ?_
    exact hq
  refine E_fa fun _ => ?_
  refine E_ff ?_
  refine table hput2 hl ho ?_
  refine E_ext ?_
  refine E_ext ?_
  refine E_ext ?_
  refine E_box (vs := ints zeros) fun v10 => ?_
  refine E_stW (vs := ints ls) (hc := allc_ints _) hil2 hz ?_
  refine E_neq ?_
  refine E_ifF (by decide) ?_
  refine E_ldNA (l := ints ls) ?_
  refine words hll ?_
  rw [show wordsE ls = 0 by unfold wordsE; rw [if_pos ((fits_ok hll).2 ho)]]
  refine E_ext ?_
  refine E_ext ?_
  refine E_box (vs := strs (List.replicate 256 [])) fun v11 => ?_
  refine E_stW (vs := strs (wordsL ls)) (hc := allc_strs _) hwl hzl ?_
  refine E_neq ?_
  refine E_ifF (by decide) ?_
  refine E_dr ?_
  refine E_ldNA (l := strs (wordsL ls)) ?_
  refine E_slcB (v := bv) (bs := bs) (l := hd.length + 2 * (usedL ls).length) (hh := bs.length) rfl (show (if 0 ≤ ((hd.length + 2 * (usedL ls).length : Nat) : Int) then some ((hd.length + 2 * (usedL ls).length : Nat) : Int).toNat else none) = _ by rw [if_pos (by omega), Int.toNat_natCast]) (by omega) (by omega) fun v74 hr74 i74 => ?_
  have hdr : (bs.drop (hd.length + 2 * (usedL ls).length)).take (bs.length - (hd.length + 2 * (usedL ls).length)) = (putB ls p).bytes := by
    rw [List.take_of_length_le (by simp), hput2, ← List.append_assoc]
    exact List.drop_left' (by rw [List.length_append, htn])
  rw [hdr] at hr74
  have hbb : (putB ls p).bytes.length ≤ 100000000 := by omega
  generalize (putB ls p).bytes = bb at hr74 hbits hbb
  have hws : ∀ w ∈ wordsL ls, (∀ c ∈ w, isBit c) ∧ w.length ≤ 100 := fun w hw => by
    obtain ⟨b, hb, e⟩ := List.mem_iff_getElem.1 hw
    have hb2 : b < 256 := by rw [← wordsL_len ls]; exact hb
    have hx : (wordsL ls)[b]? = some w := by rw [List.getElem?_eq_getElem hb, e]
    refine ⟨words_bit hx, ?_⟩
    rw [wordsL_at ho hb2] at hx
    cases hx
    have := word_len ho b
    omega
  have hrt : ∀ {K0 : Value → WT} {G : List Asrt}, (∀ L top, Tri L (dTo (wordsL ls) 256) top → E B (nds (nodeC L (dTo (wordsL ls) 256)) L :: G) (K0 (ptr top))) → E B G (CF Try.prog 35 [.agg (strs (wordsL ls)).toArray] K0) := fun hh => rootW (wordsL_len ls) hws hh
  have h74 := hr74 (cel true v11 28 (strs (wordsL ls)) :: cel true v10 22 (ints ls) :: H)
  refine E_both ?_ ?_
  · refine hrt fun L top ht => ?_
    refine E_build (l := [v74, I 0]) str_bits ?_
    refine E_box (vs := [v74, I 0]) fun x => ?_
    refine decode (x := x) (bs := bb) (p := p) ho ht hbb hp hpos hbits fun v _ => ?_
    exact sm (G := sls cB 5 1 v p :: H) (h v)
  refine E_build (l := [v74, I 0]) str_bits ?_
  refine E_rck1 (E_ldNA (l := strs (wordsL ls)) (E_fact rfl)) ?_
  refine E_rck0 ?_
  refine E_both ?_ ?_
  · refine hrt fun L top ht => ?_
    refine E_box (vs := [v74, I 0]) fun x => ?_
    refine decode (x := x) (bs := bb) (p := p) ho ht hbb hp hpos hbits fun v _ => ?_
    exact sm (G := sls cB 5 1 v p :: H) (h v)
  refine E_box (vs := [v74, I 0]) fun x => ?_
  refine E_rck1 (E_ldNA (l := strs (wordsL ls)) (E_fact rfl)) ?_
  refine E_rck0 ?_
  refine hrt fun L top ht => ?_
  refine E_perm (H' := cel true x 75 [v74, I 0] :: nds (nodeC L (dTo (wordsL ls) 256)) L :: cel true v11 28 (strs (wordsL ls)) :: cel true v10 22 (ints ls) :: H) (.swap ..) ?_
  refine decode (x := x) (bs := bb) (p := p) ho ht hbb hp hpos hbits fun v _ => ?_
  exact sm (G := sls cB 5 1 v p :: H) (h v)
theorem codeBack {pv : Value} {p : List UInt8} [hr : Rb B H pv p] (hp : p.length ≤ 9223372036854775807) (h : E B H (K (.bool true))) : E B H (CF Try.prog 7 [pv] K) := by
  refine E_mono (W := s7 _ K) ?_ fun _ => c7
  unfold s7
  by_cases hc : p.length ≤ 8192
  · refine put (pv := pv) (p := p) hc fun v12 _ => ?_
    have hpl : (putL p).length ≤ 100000000 := by
      have ho := (lens_ok (tally_len p) (tally_ok hc)).ok
      have h1 := putB_len ho p
      have h2 := PS.tail_len (putB (lens (tally p)) p)
      have h3 := tab_len (lens (tally p)) (usedL (lens (tally p)))
      have h4 : (usedL (lens (tally p))).length ≤ 256 := usedTo_len _ 256
      have h5 : ∀ n, (numL n).length ≤ 10 := fun n => numF_len 9 n
      have h6 := h5 p.length
      have h7 := h5 (usedL (lens (tally p))).length
      unfold putL PS.bytes
      simp only [List.length_append]
      omega
    refine E_ext ?_
    refine E_ext ?_
    refine E_rslen (v := pv) (l := p) ?_
    refine E_gtr ?_
    refine E_ifF (by omega) ?_
    refine E_rslen (v := pv) (l := p) ?_
    refine take (bv := v12) hc hpl fun v32 _ => ?_
    refine E_ext ?_
    refine E_ext ?_
    refine E_rslen (v := pv) (l := p) ?_
    refine E_subI (by omega) (by omega) ?_
    refine takeMore (bv := v12) (p := p) hc (by omega) (by omega) ?_
    refine E_ext ?_
    refine E_ext ?_
    refine live ?_
    refine E_gtf ?_
    refine E_gtf ?_
    refine E_eql ?_
    rw [decide_eq_true rfl]
    refine E_ptt ?_
    refine E_gtf ?_
    refine E_gtf ?_
    refine E_eql ?_
    rw [decide_eq_true rfl]
    refine E_ptt ?_
    refine E_gtf ?_
    refine E_gtf ?_
    refine E_b2sR ?_
    refine E_gtf ?_
    refine E_gtf ?_
    refine E_b2sR ?_
    refine E_gtf ?_
    refine E_streqS ?_
    refine E_ptt ?_
    refine E_gtf ?_
    refine E_gtf ?_
    refine E_eql ?_
    rw [decide_eq_true rfl]
    refine E_ptt ?_
    exact sm (G := H) h
  · refine putLong (pv := pv) (p := p) (by omega) ?_
    refine E_ext ?_
    refine E_ext ?_
    refine E_rslen (v := pv) (l := p) ?_
    refine E_gtr ?_
    refine E_ifT (by omega) ?_
    refine live ?_
    refine E_gtf ?_
    refine E_gtf ?_
    refine E_eql ?_
    rw [decide_eq_true rfl]
    refine E_ptt ?_
    refine E_gtf ?_
    refine E_gtf ?_
    refine E_len ?_
    refine E_gtf ?_
    refine E_eql ?_
    rw [decide_eq_true (by decide)]
    refine E_ptt ?_
    exact h
end Go.Proofs.Ytblgkgobakhigaa.Cod
end
section
namespace Go.Proofs.Ytblgkgobakhigaa.Row
open Go Go.SL Go.Proofs Go.Proofs.Ytblgkgobakhigaa
open Go.ChangeShapes Go.WideShapes Go.ChangeAt Go.RowKit
set_option maxRecDepth 100000
theorem walk_CodeBack {w : World} {v0 : Value} (h0 : Q_bytes w v0) : Calls Try.prog 7 #[v0] w fun e w' => e = .returned (.bool true) ∧ Below w.heap.size w w' := by
  obtain ⟨a, _, ha, hl⟩ := h0
  have i1 : BaseR w v0 a := ⟨ha⟩
  exact calls_of (args := [v0]) fun K h => Cod.codeBack (p := a) (by omega) h
end Go.Proofs.Ytblgkgobakhigaa.Row
end
