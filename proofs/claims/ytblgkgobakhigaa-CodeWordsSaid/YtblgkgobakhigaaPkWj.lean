/-
  Part 10: CdW, CdX, CdY, RowBaseY.
-/
import Derived.Test.YtblgkgobakhigaaPkWh
import Derived.Test.YtblgkgobakhigaaPkWi
set_option linter.unusedSimpArgs false
set_option linter.unusedVariables false
set_option linter.unusedSectionVars false
section
namespace Go.Proofs.Ytblgkgobakhigaa.Cod
open Go Go.SL Go.SL.Stb
theorem bits_split (x k j : Nat) : ∃ t : List UInt8, t.length = j ∧ bitsN x (k + j) = bitsN (x / 2 ^ j) k ++ t := by
  induction j generalizing x with
  | zero => exact ⟨[], rfl, by simp⟩
  | succ j ih =>
    obtain ⟨t, h1, h2⟩ := ih (x / 2)
    refine ⟨t ++ [UInt8.ofNat (48 + x % 2)], by simp [h1], ?_⟩
    show bitsN (x / 2) (k + j) ++ _ = _
    rw [h2, List.append_assoc, Nat.div_div_eq_div_mul, ← Nat.pow_succ']
theorem bits_take (x k j : Nat) : (bitsN x (k + j)).take k = bitsN (x / 2 ^ j) k := by
  obtain ⟨t, _, h⟩ := bits_split x k j
  rw [h, List.take_left' (bitsN_len _ _)]
theorem bits_inj {x y k : Nat} (hx : x < 2 ^ k) (hy : y < 2 ^ k) (h : bitsN x k = bitsN y k) : x = y := by
  induction k generalizing x y with
  | zero => simp at hx hy; omega
  | succ k ih =>
    have h' : bitsN (x / 2) k ++ [UInt8.ofNat (48 + x % 2)] = bitsN (y / 2) k ++ [UInt8.ofNat (48 + y % 2)] := h
    obtain ⟨h1, h2⟩ := List.append_inj h' (by rw [bitsN_len, bitsN_len])
    rw [Nat.pow_succ] at hx hy
    have e1 := ih (by omega) (by omega) h1
    have e2 := (List.cons.inj h2).1
    have hx2 : x % 2 = 0 ∨ x % 2 = 1 := by omega
    have hy2 : y % 2 = 0 ∨ y % 2 = 1 := by omega
    have e3 : x % 2 = y % 2 := by
      rcases hx2 with a | a <;> rcases hy2 with b | b <;> rw [a, b] at e2 ⊢ <;> exact absurd e2 (by decide)
    omega
theorem sumW_mono (ls : List Int) {i j : Nat} (h : i ≤ j) : sumW ls ((ordL ls).take i) ≤ sumW ls ((ordL ls).take j) := by
  have e : (ordL ls).take i = ((ordL ls).take j).take i := by rw [List.take_take, Nat.min_eq_left h]
  rw [e]
  unfold sumW
  rw [List.map_take]
  exact sumN_take _
theorem sumB_lt {ls : List Int} {i j b c : Nat} (hij : i < j) (hb : (ordL ls)[i]? = some b) (hc : (ordL ls)[j]? = some c) : sumB ls b + wtB ls b ≤ sumB ls c := by
  rw [sumB_at hb, sumB_at hc, ← sumW_suc hb]
  exact sumW_mono ls hij
theorem ord_at {ls : List Int} (ho : LOk ls) {b : Nat} (hb : b < 256) (h : 0 < ls.getD b 0) : ∃ k : Nat, (ordL ls)[k]? = some b :=
  by
  obtain ⟨k, hk, e⟩ := List.mem_iff_getElem.1 ((ordL_mem ho.rg).2 ⟨hb, h⟩)
  exact ⟨k, by rw [List.getElem?_eq_getElem hk, e]⟩
theorem num_at {ls : List Int} (ho : LOk ls) {k : Nat} (hk : k ≤ (ordL ls).length) : ∃ n long, Num ls k n long := by
  induction k with
  | zero => exact ⟨0, 0, fun _ => ⟨rfl, rfl⟩, fun e => (e rfl).elim⟩
  | succ k ih =>
    obtain ⟨n, long, h⟩ := ih (by omega)
    have hb : (ordL ls)[k]? = some (ordL ls)[k] := List.getElem?_eq_getElem (by omega)
    exact ⟨_, _, (h.next ho hb).2.2.1⟩
theorem word_lt {ls : List Int} (ho : LOk ls) {k b : Nat} (hb : (ordL ls)[k]? = some b) : sumB ls b / wtB ls b < 2 ^ (ls.getD b 0).toNat := by
  obtain ⟨n, long, h⟩ := num_at ho (Nat.le_of_lt (List.getElem?_eq_some_iff.1 hb).1)
  exact (h.next ho hb).2.2.2
theorem prefix_free {ls : List Int} (ho : LOk ls) {b c : Nat} (hb : b < 256) (hc : c < 256) (hbc : b ≠ c) (h0 : 0 < ls.getD b 0) (hle : ls.getD b 0 ≤ ls.getD c 0) : (wordL ls c).take (ls.getD b 0).toNat ≠ wordL ls b := by
  obtain ⟨i, hi⟩ := ord_at ho hb h0
  obtain ⟨j, hj⟩ := ord_at ho hc (by omega)
  have hxi := word_lt ho hi
  have hxj := word_lt ho hj
  rw [wordL_at ho hi, wordL_at ho hj]
  have hrb := ho.rg b hb
  have hrc := ho.rg c hc
  have hsb : wtB ls b = 2 ^ (60 - (ls.getD b 0).toNat) := rfl
  have hsc : wtB ls c = 2 ^ (60 - (ls.getD c 0).toNat) := rfl
  obtain ⟨lb, elb⟩ : ∃ n, (ls.getD b 0).toNat = n := ⟨_, rfl⟩
  obtain ⟨d, eld⟩ : ∃ d, (ls.getD c 0).toNat = lb + d := ⟨(ls.getD c 0).toNat - lb, by omega⟩
  rw [elb] at hsb hxi ⊢
  rw [eld] at hsc hxj ⊢
  rw [bits_take]
  intro he
  have hw : 2 ^ (60 - (lb + d)) * 2 ^ d = 2 ^ (60 - lb) := by rw [← Nat.pow_add]; congr 1; omega
  have hdiv : sumB ls c / wtB ls c / 2 ^ d = sumB ls c / 2 ^ (60 - lb) := by rw [hsc, Nat.div_div_eq_div_mul, hw]
  have hlt : sumB ls c / wtB ls c / 2 ^ d < 2 ^ lb := by
    rw [Nat.div_lt_iff_lt_mul (Nat.pow_pos (by omega)), ← Nat.pow_add]; exact hxj
  have e := bits_inj hlt hxi he
  rw [hdiv, hsb] at e
  have hp : 0 < 2 ^ (60 - lb) := Nat.pow_pos (by omega)
  have key : ∀ x y : Nat, x + 2 ^ (60 - lb) ≤ y → x / 2 ^ (60 - lb) ≠ y / 2 ^ (60 - lb) := fun x y hxy heq => by
    have h1 := Nat.div_le_div_right (c := 2 ^ (60 - lb)) hxy
    rw [Nat.add_div_right _ hp] at h1
    omega
  rcases Nat.lt_trichotomy i j with h | h | h
  · have := sumB_lt h hi hj
    rw [hsb] at this
    exact key _ _ this e.symm
  · subst h
    rw [hi] at hj
    exact hbc (Option.some.inj hj)
  · have h1 := ord_le (Nat.le_of_lt h) hj hi
    have hd : d = 0 := by omega
    subst hd
    have := sumB_lt h hj hi
    rw [hsc, Nat.add_zero] at this
    exact key _ _ this e
def ordTo (ls : List Int) (n i : Nat) : List Nat := ((List.range n).flatMap fun m : Nat => (List.range 256).filter fun j => decide (ls.getD j 0 = (m : Int) + 1)) ++ (List.range i).filter fun j => decide (ls.getD j 0 = (n : Int) + 1)
theorem ordTo_up (ls : List Int) (n : Nat) : ordTo ls n 256 = ordTo ls (n + 1) 0 := by
  unfold ordTo
  rw [List.range_succ (n := n), List.flatMap_append]
  simp
theorem ordTo_suc (ls : List Int) (n i : Nat) : ordTo ls n (i + 1) = ordTo ls n i ++ if ls.getD i 0 = (n : Int) + 1 then [i] else [] := by
  unfold ordTo
  rw [List.range_succ (n := i), List.filter_append, List.append_assoc]
  congr 2
  rw [List.filter_cons]
  by_cases h : ls.getD i 0 = (n : Int) + 1
  · rw [if_pos (by simpa using h), if_pos h]; rfl
  · rw [if_neg (by simpa using h), if_neg h]; rfl
theorem ordTo_end (ls : List Int) : ordTo ls 60 0 = ordL ls := by
  unfold ordTo ordL
  simp
theorem ordTo_pre {ls : List Int} {n i : Nat} (hn : n < 60) (hi : i ≤ 256) : ordTo ls n i <+: ordL ls := by
  have h1 : ∀ n i, i ≤ 256 → ordTo ls n i <+: ordTo ls n 256 := fun n i hi => by
    unfold ordTo
    refine (List.prefix_append_right_inj _).2 (List.IsPrefix.filter _ ?_)
    refine ⟨(List.range (256 - i)).map (i + ·), ?_⟩
    rw [← List.range_add]
    congr 1; omega
  have h2 : ∀ k n, n + k = 60 → ordTo ls n 0 <+: ordL ls := fun k => by
    induction k with
    | zero => intro n h
              have : n = 60 := by omega
              subst this
              rw [ordTo_end]; exact List.prefix_refl _
    | succ k ih =>
      intro n h
      have := ih (n + 1) (by omega)
      rw [← ordTo_up] at this
      exact (h1 n 0 (by omega)).trans this
  have := h2 (60 - (n + 1)) (n + 1) (by omega)
  rw [← ordTo_up] at this
  exact (h1 n i hi).trans this
theorem ordTo_at {ls : List Int} {n i : Nat} (hn : n < 60) (hi : i < 256) (h : ls.getD i 0 = (n : Int) + 1) : (ordL ls)[(ordTo ls n i).length]? = some i := by
  obtain ⟨t, e⟩ := ordTo_pre (ls := ls) (i := i + 1) hn hi
  rw [ordTo_suc, if_pos h] at e
  rw [← e]
  simp
theorem ordTo_len {ls : List Int} {n i : Nat} : (ordTo ls n (i + 1)).length = (ordTo ls n i).length + if ls.getD i 0 = (n : Int) + 1 then 1 else 0 := by
  rw [ordTo_suc, List.length_append]
  split <;> rfl
theorem num_pos {ls : List Int} (ho : LOk ls) {k n long : Nat} (h : Num ls k n long) : k = 0 ↔ long = 0 := by
  constructor
  · exact fun e => (h.z e).2
  · intro e
    refine Classical.byContradiction fun hk => ?_
    obtain ⟨b, hb, hl, _⟩ := h.s hk
    have := (ord_rg ho hb).2.1
    omega
end Go.Proofs.Ytblgkgobakhigaa.Cod
end
section
namespace Go.Proofs.Ytblgkgobakhigaa.Cod
open Go Go.SL Go.SL.Stb Go.Proofs Go.Proofs.Ytblgkgobakhigaa.Sh
variable {B : World} {H : List Asrt} {K : Value → WT} {W : WT}
theorem os_cons (j : Nat) : [(49 : UInt8)] ++ os j = os (j + 1) := rfl
theorem zs_snoc (j : Nat) : zs j ++ [(48 : UInt8)] = zs (j + 1) := (List.replicate_succ' (n := j) (a := (48 : UInt8))).symm
structure Ones (n k j : Nat) : Prop where
  le : j ≤ k
  n1 : n + 1 = (n / 2 ^ j + 1) * 2 ^ j
  bits : bitsN n k = bitsN (n / 2 ^ j) (k - j) ++ os j
theorem Ones.zero (n k : Nat) : Ones n k 0 := ⟨Nat.zero_le _, by simp, by simp [os]⟩
theorem Ones.odd {n k j : Nat} (h : Ones n k j) (hj : j < k) (ho : n / 2 ^ j % 2 = 1) : Ones n k (j + 1) := by
  have e : n / 2 ^ (j + 1) = n / 2 ^ j / 2 := by rw [Nat.div_div_eq_div_mul, Nat.pow_succ]
  have hs : n / 2 ^ j = 2 * (n / 2 ^ j / 2) + 1 := by omega
  refine ⟨hj, ?_, ?_⟩
  · rw [e, h.n1, Nat.pow_succ, Nat.mul_comm (2 ^ j) 2, ← Nat.mul_assoc]
    congr 1; omega
  · rw [e, h.bits, show k - j = (k - (j + 1)) + 1 by omega]
    conv => lhs; rw [hs, bits_odd]
    rw [List.append_assoc, os_cons]
theorem Ones.even {n k j : Nat} (h : Ones n k j) (hj : j < k) (ho : n / 2 ^ j % 2 = 0) : bitsN n k = bitsN (n / 2 ^ (j + 1)) (k - (j + 1)) ++ [48] ++ os j ∧ bitsN (n + 1) k = bitsN (n / 2 ^ (j + 1)) (k - (j + 1)) ++ [49] ++ zs j := by
  have e : n / 2 ^ (j + 1) = n / 2 ^ j / 2 := by rw [Nat.div_div_eq_div_mul, Nat.pow_succ]
  have hs : n / 2 ^ j = 2 * (n / 2 ^ j / 2) := by omega
  constructor
  · rw [e, h.bits, show k - j = (k - (j + 1)) + 1 by omega]
    conv => lhs; rw [hs, bits_dbl]
  · rw [e, h.n1]
    conv => lhs; rw [show k = (k - j) + j by omega, bits_shl, show k - j = (k - (j + 1)) + 1 by omega, hs, bits_odd]
theorem Ones.full {n k : Nat} (h : Ones n k k) (hn : n + 1 < 2 ^ k) : False := by
  have h1 := h.n1
  have : n / 2 ^ k = 0 := Nat.div_eq_of_lt (by omega)
  rw [this] at h1
  omega
def accK (x : Int) (v : Nat) : Nat := if 0 < x ∧ v ≤ 2 ^ 60 then v + 2 ^ (60 - x.toNat) else v
theorem accK_pos {x : Int} {v : Nat} (h : 0 < x ∧ v ≤ 2 ^ 60) : accK x v = v + 2 ^ (60 - x.toNat) := if_pos h
theorem accK_neg {x : Int} {v : Nat} (h : ¬ (0 < x ∧ v ≤ 2 ^ 60)) : accK x v = v := if_neg h
theorem accK_ok {x : Int} {v k : Nat} (hk : v = k ∨ (2 ^ 60 < v ∧ v ≤ k)) (hv : v ≤ 2 ^ 61) : (accK x v = (k + if 0 < x then 2 ^ (60 - x.toNat) else 0) ∨ (2 ^ 60 < accK x v ∧ accK x v ≤ (k + if 0 < x then 2 ^ (60 - x.toNat) else 0))) ∧ accK x v ≤ 2 ^ 61 := by
  have h2 : 2 ^ (60 - x.toNat) ≤ 2 ^ 60 := Nat.pow_le_pow_right (by omega) (by omega)
  have h0 : 0 < 2 ^ (60 - x.toNat) := Nat.pow_pos (by omega)
  by_cases h : 0 < x ∧ v ≤ 2 ^ 60
  · rw [accK_pos h, if_pos h.1]
    generalize 2 ^ (60 - x.toNat) = P at *
    omega
  · rw [accK_neg h]
    by_cases hx : 0 < x
    · rw [if_pos hx]
      generalize 2 ^ (60 - x.toNat) = P at *
      omega
    · rw [if_neg hx]
      omega
theorem E_slcS0 {s : List UInt8} {j : Nat} (h4 : j ≤ s.length) (h : E B H (K (str (s.take j)))) : E B H (S.slcS (str s) none (some (I j)) K) := fun w hw => by
  refine ⟨0, j, by simp [S.bound], rfl, Nat.zero_le _, by rw [strSize]; exact h4, ?_⟩
  rw [strTake]
  exact h w hw
theorem E_shl1 {c : Nat} (hc : c ≤ 60) (h : E B H (K (I ((2 ^ c : Nat) : Int)))) : E B H (S.sh .shl (I 1) (.int .i64 (c : Int)) K) := fun w hw => ⟨by omega, by
  have := h w hw
  show K (.int .i64 (IntKind.wrap .i64 (1 * 2 ^ min ((c : Int).toNat) 64))) w
  have h2 : 2 ^ c ≤ 2 ^ 60 := Nat.pow_le_pow_right (by omega) hc
  have h0 : 0 < 2 ^ c := Nat.pow_pos (by omega)
  rw [Int.toNat_natCast, Nat.min_eq_left (by omega), Int.one_mul, show (2 : Int) ^ c = ((2 ^ c : Nat) : Int) by simp, wrapI (by omega) (by omega)]
  exact this⟩
attribute [local irreducible] S.pick S.ld S.ldN S.st S.box S.nc S.fad S.ixS S.ixA S.chr S.prt S.ext S.bin S.sh S.sbin S.beq S.neg1 S.com1 S.not1 S.cvt S.str1 S.lenS S.len S.cap S.lenM S.mx S.mn S.mkM S.cond S.gd S.fa S.dr S.rck S.join S.loop S.cvv S.eqv S.slc S.slcS S.b2s S.lk V U CF Gives E cel mpb osl ros dct dit itr
theorem plus {n k : Nat} (hk : k ≤ 64) (hn : n + 1 < 2 ^ k) (h : E B H (K (.tuple #[str (bitsN (n + 1) k), .bool true]))) : E B H (CF Try.prog 29 [str (bitsN n k)] K) := by
  refine E_mono (W := s29 _ K) ?_ fun _ => c29
  unfold s29
  refine E_lenstr ?_
  rw [bitsN_len]
  refine E_subI (by omega) (by omega) ?_
  refine E_loop (n := 2) (σ := Nat) (fun j => Ones n k j) (fun j => [str (bitsN n k), I ((k : Int) - 1 - j)]) (fun _ => H) (fun j => k - j) 0 (fun _ => rfl) (by simp) (Ones.zero n k) (fun W hW => hW) ?_
  rintro j K0 hj hk0
  have hjk := hj.le
  refine E_fa fun _ => ?_
  refine E_geq ?_
  refine E_if (fun hc => ?_) (fun hc => ?_)
  · have hlt : j < k := by omega
    obtain ⟨m, hm⟩ : ∃ m, k - (j + 1) = m := ⟨_, rfl⟩
    have em : (k : Int) - 1 - j = (m : Int) := by omega
    have hml : m < (bitsN n k).length := by rw [bitsN_len]; omega
    rw [em]
    refine E_chr (by omega) (by rw [Int.toNat_natCast, strSize]; exact hml) ?_
    simp only [Int.toNat_natCast]
    have hpl : (bitsN (n / 2 ^ (j + 1)) m).length = m := bitsN_len _ _
    have hmod : n / 2 ^ j % 2 = 0 ∨ n / 2 ^ j % 2 = 1 := by omega
    have hget : ∀ {l : List UInt8} {c : UInt8} (h : m < l.length), l[m]? = some c → l[m] = c := fun h e => by
      rw [List.getElem?_eq_getElem h] at e
      exact Option.some.inj e
    rcases hmod with ho | ho
    · obtain ⟨e1, e2⟩ := hj.even hlt ho
      rw [hm] at e1 e2
      have hch : (bitsN n k)[m] = 48 := hget hml (by rw [e1, List.append_assoc, List.getElem?_append_right (by omega), hpl, Nat.sub_self]; rfl)
      show E B H (S.bin .eql (.int .u8 (((bitsN n k)[m]).toNat : Int)) _ _)
      rw [hch]
      refine E_eql ?_
      refine E_ifT (by decide) ?_
      refine E_slcS0 (by rw [bitsN_len]; omega) ?_
      rw [show (bitsN n k).take m = bitsN (n / 2 ^ (j + 1)) m by rw [e1, List.append_assoc, List.take_left' hpl]]
      refine E_stradd (b := [49]) (by rw [hpl]; simp; omega) ?_
      refine E_loop (n := 2) (σ := Nat) (fun t => t ≤ j) (fun t => [str (bitsN n k), str (bitsN (n / 2 ^ (j + 1)) m ++ [49] ++ zs t)]) (fun _ => H) (fun t => j - t) 0 (fun _ => rfl) (by simp [zs]) (Nat.zero_le _) (fun W hW => hW) ?_
      rintro t K1 ht hk1
      refine E_fa fun _ => ?_
      have hl1 : (bitsN (n / 2 ^ (j + 1)) m ++ [49] ++ zs t).length = m + 1 + t := by simp [hpl, zs]; omega
      refine E_lenstr ?_
      refine E_lenstr ?_
      rw [hl1, bitsN_len]
      refine E_lss ?_
      refine E_if (fun hc2 => ?_) (fun hc2 => ?_)
      · refine E_stradd (b := [48]) (by rw [hl1]; simp; omega) ?_
        rw [List.append_assoc, zs_snoc]
        exact hk1 (t + 1) (by omega) (by omega)
      · have : t = j := by omega
        subst this
        rw [← e2]
        exact h
    · have hj2 := hj.odd hlt ho
      have hch : (bitsN n k)[m] = 49 := hget hml (by rw [hj2.bits, hm, List.getElem?_append_right (by omega), hpl, Nat.sub_self]; rfl)
      show E B H (S.bin .eql (.int .u8 (((bitsN n k)[m]).toNat : Int)) _ _)
      rw [hch]
      refine E_eql ?_
      refine E_ifF (by decide) ?_
      refine E_subI (by omega) (by omega) ?_
      rw [show (m : Int) - 1 = (k : Int) - 1 - ((j + 1 : Nat) : Int) by omega]
      exact hk0 (j + 1) hj2 (by omega)
  · have : j = k := by omega
    subst this
    exact (hj.full hn).elim
set_option maxRecDepth 100000
theorem wordsD {ls : List Int} (hl : ls.length = 256) (h : E B H (K (.tuple #[.agg (strs (wordsL ls)).toArray, I (wordsE ls)]))) : E B H (CF Try.prog 12 [.agg (ints ls).toArray] K) := by
  have hil : (ints ls).length = 256 := by simp [ints, hl]
  have al1 : AtLen (ints ls) 256 := ⟨hil⟩
  have hzl : (strs (List.replicate 256 [])).length = 256 := by rw [strs, List.length_map, List.length_replicate]
  have alz : AtLen (strs (List.replicate 256 [])) 256 := ⟨hzl⟩
  refine E_mono (W := s12 _ K) ?_ fun _ => c12
  unfold s12
  refine E_box (vs := ints ls) fun v1 => ?_
  refine E_box (vs := strs (List.replicate 256 [])) fun v2 => ?_
  have hbad : ¬ fitsP ls → E B (cel true v2 28 (strs (List.replicate 256 [])) :: cel true v1 22 (ints ls) :: H) (V Try.prog (Instr.build 28 #[]) fun v25 => S.st 256 (ptr v2) v25 fun _ => S.ldN 256 (ptr v2) fun v => K (.tuple #[v, I 2])) := fun hf => by
    refine E_vk build_zstr ?_
    refine E_stW (vs := strs (List.replicate 256 [])) (hc := allc_strs _) hzl hzl ?_
    refine E_ldNA (l := strs (List.replicate 256 [])) ?_
    have hE : wordsE ls = 2 := by unfold wordsE; rw [if_neg hf]
    have hW : wordsL ls = List.replicate 256 [] := by unfold wordsL; rw [if_neg hf]
    rw [hE, hW] at h
    exact sm (G := H) h
  refine E_loop (n := 4) (σ := Nat × Nat) (fun s => s.1 ≤ 256 ∧ (∀ j, j < s.1 → 0 ≤ ls.getD j 0 ∧ ls.getD j 0 ≤ 60) ∧ (s.2 = krTo ls s.1 ∨ (2 ^ 60 < s.2 ∧ s.2 ≤ krTo ls s.1)) ∧ s.2 ≤ 2 ^ 61) (fun s => [ptr v1, ptr v2, I s.2, I s.1]) (fun _ => cel true v2 28 (strs (List.replicate 256 [])) :: cel true v1 22 (ints ls) :: H) (fun s => 256 - s.1) (0, 0) (fun _ => rfl) rfl ⟨Nat.zero_le _, fun j hj => by simp only at hj; omega, .inl (by unfold krTo; simp [sumN]), by simp⟩ (fun W hW => hW) ?_
  rintro ⟨i, v⟩ K0 ⟨hi, hok, hkr, hv⟩ hk
  simp only at hi hok hkr hv hk ⊢
  refine E_fa fun _ => ?_
  refine E_lss ?_
  refine E_if (fun hc => ?_) (fun hc => ?_)
  · have e0 : 0 + i * 1 = i := by omega
    have hy := ints_get (at256 hl (show i < 256 by omega))
    have hsu := krTo_suc ls i
    generalize hx : ls.getD i 0 = x at hy hsu
    refine E_join1 [ptr v1, ptr v2, I (accK x v), I i] (pur (0 ≤ x ∧ x ≤ 60) :: cel true v2 28 (strs (List.replicate 256 [])) :: cel true v1 22 (ints ls) :: H) (fun q hq => ?_) ?_
    · refine E_join1 [ptr v1, ptr v2, I v, I i, .bool (decide (x < 0 ∨ 60 < x))] (cel true v2 28 (strs (List.replicate 256 [])) :: cel true v1 22 (ints ls) :: H) (fun k hk2 => ?_) ?_
      · have fin : ∀ c : Bool, decide (x < 0 ∨ 60 < x) = c → E B (cel true v2 28 (strs (List.replicate 256 [])) :: cel true v1 22 (ints ls) :: H) (app 5 k [ptr v1, ptr v2, I v, I i, .bool c]) := fun c hc => hc ▸ hk2
        refine E_ixA (show i < 256 by omega) ?_
        rw [e0]
        refine E_ld' hy ?_
        refine E_lss ?_
        by_cases h1 : x < 0
        · rw [decide_eq_true h1]
          refine E_gtt ?_
          refine E_gtt ?_
          refine E_gtt ?_
          refine E_gtt ?_
          refine E_ptt ?_
          exact fin true (decide_eq_true (.inl h1))
        · rw [decide_eq_false h1]
          refine E_gft ?_
          refine E_gft ?_
          refine E_ixA (show i < 256 by omega) ?_
          rw [e0]
          refine E_gft ?_
          refine E_ld' hy ?_
          refine E_gft ?_
          refine E_gtr ?_
          refine E_pff ?_
          exact fin _ (by rw [decide_eq_decide]; omega)
      refine E_fa fun _ => ?_
      refine E_if (fun hb => ?_) (fun hb => ?_)
      · refine hbad fun hf => ?_
        have := hf.1 i (by omega)
        rw [hx] at this; omega
      have hxr : 0 ≤ x ∧ x ≤ 60 := by omega
      refine E_join1 [ptr v1, ptr v2, I v, I i, .bool (decide (0 < x ∧ v ≤ 2 ^ 60))] (cel true v2 28 (strs (List.replicate 256 [])) :: cel true v1 22 (ints ls) :: H) (fun k hk2 => ?_) ?_
      · have fin : ∀ c : Bool, decide (0 < x ∧ v ≤ 2 ^ 60) = c → E B (cel true v2 28 (strs (List.replicate 256 [])) :: cel true v1 22 (ints ls) :: H) (app 5 k [ptr v1, ptr v2, I v, I i, .bool c]) := fun c hc => hc ▸ hk2
        refine E_ixA (show i < 256 by omega) ?_
        rw [e0]
        refine E_ld' hy ?_
        refine E_gtr ?_
        by_cases h1 : 0 < x
        · rw [decide_eq_true h1]
          refine E_gtf ?_
          refine E_gtf ?_
          refine E_leq ?_
          refine E_ptt ?_
          exact fin _ (by rw [decide_eq_decide]; omega)
        · rw [decide_eq_false h1]
          refine E_gff ?_
          refine E_gff ?_
          refine E_pff ?_
          exact fin _ (decide_eq_false (by omega))
      refine E_fa fun _ => ?_
      refine E_if (fun hp => ?_) (fun hp => ?_)
      · rw [accK_pos hp] at hq
        refine E_ixA (show i < 256 by omega) ?_
        rw [e0]
        refine E_ld' hy ?_
        refine E_subI (by omega) (by omega) ?_
        obtain ⟨m, rfl⟩ : ∃ m : Nat, x = (m : Int) := ⟨x.toNat, by omega⟩
        rw [Int.toNat_natCast] at hq
        have h2 : 2 ^ (60 - m) ≤ 2 ^ 60 := Nat.pow_le_pow_right (by omega) (by omega)
        rw [show (60 : Int) - (m : Int) = ((60 - m : Nat) : Int) by omega]
        refine E_shl1 (by omega) ?_
        generalize 2 ^ (60 - m) = P at h2 hq ⊢
        refine E_addI (by omega) (by omega) ?_
        rw [show (v : Int) + (P : Int) = ((v + P : Nat) : Int) by omega]
        exact E_pur' (p := 0 ≤ (m : Int) ∧ (m : Int) ≤ 60) hxr hq
      · rw [accK_neg hp] at hq
        exact E_pur' (p := 0 ≤ x ∧ x ≤ 60) hxr hq
    · refine E_fa fun _ => ?_
      refine E_pur fun hxr => ?_
      refine E_addI (by omega) (by omega) ?_
      have ha := accK_ok (x := x) hkr hv
      rw [← hsu] at ha
      refine hk (i + 1, accK x v) ⟨by simp only; omega, fun j hj => ?_, ha.1, ha.2⟩ (by simp only; omega)
      simp only at hj
      rcases Nat.lt_or_ge j i with h1 | h1
      · exact hok j h1
      · have : j = i := by omega
        subst this
        rw [hx]; exact hxr
  · have hie : i = 256 := by omega
    subst hie
    refine E_gtr ?_
    by_cases hf : fitsP ls
    · have hkr2 : krTo ls 256 ≤ 2 ^ 60 := hf.2
      refine E_ifF (by omega) ?_
      have ho := (fits_ok hl).1 hf
      refine E_vk build_zstr ?_
      refine E_box (vs := strs (List.replicate 256 [])) fun v6 => ?_
      refine E_stW (vs := strs (List.replicate 256 [])) (hc := allc_strs _) hzl hzl ?_
      refine E_loop (n := 5) (σ := Nat × Nat × Nat) (fun s => s.1 ≤ 60 ∧ Num ls (ordTo ls s.1 0).length s.2.1 s.2.2) (fun s => [ptr v1, ptr v2, ptr v6, str (bitsN s.2.1 s.2.2), I ((s.1 : Int) + 1)]) (fun s => cel true v6 28 (strs (wordsTo ls (ordTo ls s.1 0).length)) :: cel true v2 28 (strs (List.replicate 256 [])) :: cel true v1 22 (ints ls) :: H) (fun s => 60 - s.1) (0, 0, 0) (fun _ => rfl) rfl ⟨Nat.zero_le _, fun _ => ⟨rfl, rfl⟩, fun e => (e rfl).elim⟩ (fun W hW => by
        have e : (ordTo ls 0 0).length = 0 := rfl
        simp only [e, wordsTo_zero] at hW
        exact sm hW) ?_
      rintro ⟨n, num, long⟩ K1 ⟨hn, hnum⟩ hk1
      simp only at hn hnum hk1 ⊢
      refine E_fa fun _ => ?_
      refine E_leq ?_
      refine E_if (fun hc2 => ?_) (fun hc2 => ?_)
      · refine E_loop (n := 6) (σ := Nat × Nat × Nat) (fun s => s.1 ≤ 256 ∧ Num ls (ordTo ls n s.1).length s.2.1 s.2.2) (fun s => [ptr v1, ptr v2, ptr v6, str (bitsN s.2.1 s.2.2), I ((n : Int) + 1), I s.1]) (fun s => cel true v6 28 (strs (wordsTo ls (ordTo ls n s.1).length)) :: cel true v2 28 (strs (List.replicate 256 [])) :: cel true v1 22 (ints ls) :: H) (fun s => 256 - s.1) (0, num, long) (fun _ => rfl) rfl ⟨Nat.zero_le _, hnum⟩ (fun W hW => hW) ?_
        clear hnum
        rintro ⟨b, num, long⟩ K2 ⟨hb, hnum⟩ hk2
        simp only at hb hnum hk2 ⊢
        refine E_fa fun _ => ?_
        refine E_lss ?_
        refine E_if (fun hc3 => ?_) (fun hc3 => ?_)
        · have e0 : 0 + b * 1 = b := by omega
          have hy := ints_get (at256 hl (show b < 256 by omega))
          have hlen := ordTo_len (ls := ls) (n := n) (i := b)
          by_cases hcase : ls.getD b 0 = (n : Int) + 1
          · rw [if_pos hcase] at hlen
            have hat := ordTo_at (show n < 60 by omega) (show b < 256 by omega) hcase
            generalize (ordTo ls n b).length = k at hlen hat hnum ⊢
            obtain ⟨n1, n2, n3, n4⟩ := hnum.next ho hat
            have hwl := wordL_at ho hat
            have hL : (ls.getD b 0).toNat = n + 1 := by omega
            rw [hL] at n1 n2 n3 n4 hwl
            generalize sumB ls b / wtB ls b = m at n2 n3 n4 hwl
            have hk3 := hk2 (b + 1, m, n + 1) ⟨by simp only; omega, by simp only; rw [hlen]; exact n3⟩ (by simp only; omega)
            simp only at hk3
            rw [hlen] at hk3
            refine E_join1 [ptr v1, ptr v2, ptr v6, str (bitsN m (n + 1)), I ((n : Int) + 1), I b] (cel true v6 28 (strs (wordsTo ls (k + 1))) :: cel true v2 28 (strs (List.replicate 256 [])) :: cel true v1 22 (ints ls) :: H) (fun q hq => ?_) ?_
            · refine E_ixA (show b < 256 by omega) ?_
              rw [e0]
              refine E_ld' hy ?_
              rw [hcase]
              refine E_neq ?_
              refine E_ifF (by simp) ?_
              refine E_join1 [ptr v1, ptr v2, ptr v6, I ((n : Int) + 1), I b, str (bitsN (if k = 0 then num else num + 1) long)] (cel true v6 28 (strs (wordsTo ls k)) :: cel true v2 28 (strs (List.replicate 256 [])) :: cel true v1 22 (ints ls) :: H) (fun q2 hq2 => ?_) ?_
              · refine E_lenstr ?_
                rw [bitsN_len]
                refine E_gtr ?_
                have hpz := num_pos ho hnum
                refine E_if (fun hp => ?_) (fun hp => ?_)
                · have hk0 : k ≠ 0 := fun e => by have := hpz.1 e; omega
                  have hroom := hnum.room ho hk0 hat
                  rw [if_neg hk0] at hq2
                  refine plus (by omega) hroom.1 ?_
                  refine E_ext ?_
                  refine E_ext ?_
                  exact hq2
                · have hk0 : k = 0 := hpz.2 (by omega)
                  rw [if_pos hk0] at hq2
                  exact hq2
              · refine E_fa fun _ => ?_
                have hbz : bitsN m (n + 1) = bitsN (if k = 0 then num else num + 1) long ++ zs (n + 1 - long) := by
                  rw [← n2, ← bits_shl, show long + (n + 1 - long) = n + 1 by omega]
                generalize (if k = 0 then num else num + 1) = base at hbz ⊢
                refine E_loop (n := 6) (σ := Nat) (fun t => t ≤ n + 1 - long) (fun t => [ptr v1, ptr v2, ptr v6, I ((n : Int) + 1), I b, str (bitsN base long ++ zs t)]) (fun _ => cel true v6 28 (strs (wordsTo ls k)) :: cel true v2 28 (strs (List.replicate 256 [])) :: cel true v1 22 (ints ls) :: H) (fun t => n + 1 - long - t) 0 (fun _ => rfl) (by simp [zs]) (Nat.zero_le _) (fun W hW => hW) ?_
                rintro t K3 ht hk4
                refine E_fa fun _ => ?_
                have hl1 : (bitsN base long ++ zs t).length = long + t := by simp [bitsN_len, zs]
                refine E_lenstr ?_
                rw [hl1]
                refine E_lss ?_
                refine E_if (fun hc4 => ?_) (fun hc4 => ?_)
                · refine E_stradd (b := [48]) (by rw [hl1]; simp; omega) ?_
                  rw [List.append_assoc, zs_snoc]
                  exact hk4 (t + 1) (by omega) (by omega)
                · have hte : t = n + 1 - long := by omega
                  subst hte
                  rw [← hbz]
                  refine E_ixA (show b < 256 by omega) ?_
                  rw [e0]
                  refine E_st' (by rw [strs, List.length_map, wordsTo_len]; omega) ?_
                  rw [strs_set, ← hwl, ← wordsTo_suc hat, hwl]
                  exact hq
            · refine E_fa fun _ => ?_
              refine E_addI (by omega) (by omega) ?_
              exact hk3
          · rw [if_neg hcase, Nat.add_zero] at hlen
            have hk3 := hk2 (b + 1, num, long) ⟨by simp only; omega, by simp only; rw [hlen]; exact hnum⟩ (by simp only; omega)
            simp only at hk3
            rw [hlen] at hk3
            refine E_join1 [ptr v1, ptr v2, ptr v6, str (bitsN num long), I ((n : Int) + 1), I b] (cel true v6 28 (strs (wordsTo ls (ordTo ls n b).length)) :: cel true v2 28 (strs (List.replicate 256 [])) :: cel true v1 22 (ints ls) :: H) (fun q hq => ?_) ?_
            · refine E_ixA (show b < 256 by omega) ?_
              rw [e0]
              refine E_ld' hy ?_
              refine E_neq ?_
              refine E_ifT hcase ?_
              exact hq
            · refine E_fa fun _ => ?_
              refine E_addI (by omega) (by omega) ?_
              exact hk3
        · have hbe : b = 256 := by omega
          subst hbe
          rw [ordTo_up] at hnum ⊢
          refine E_addI (by omega) (by omega) ?_
          exact hk1 (n + 1, num, long) ⟨by simp only; omega, hnum⟩ (by simp only; omega)
      · have hne : n = 60 := by omega
        subst hne
        rw [ordTo_end, wordsTo_all ho]
        have alw : AtLen (strs (wordsL ls)) 256 := ⟨by rw [strs, List.length_map, wordsL_len]⟩
        refine E_ldNA (l := strs (wordsL ls)) ?_
        refine fd (a := cel true v2 28 (strs (List.replicate 256 []))) ?_
        refine E_stW (vs := strs (wordsL ls)) (hc := allc_strs _) alw.pf hzl ?_
        refine E_ldNA (l := strs (wordsL ls)) ?_
        have hE : wordsE ls = 0 := by unfold wordsE; rw [if_pos hf]
        rw [hE] at h
        exact sm (G := H) h
    · have hkr2 : 2 ^ 60 < krTo ls 256 := by
        rcases Nat.lt_or_ge (2 ^ 60) (krTo ls 256) with h1 | h1
        · exact h1
        · exact (hf ⟨hok, h1⟩).elim
      refine E_ifT (by omega) ?_
      exact hbad hf
end Go.Proofs.Ytblgkgobakhigaa.Cod
end
section
namespace Go.Proofs.Ytblgkgobakhigaa.Cod
open Go Go.SL Go.SL.Stb Go.Proofs Go.Proofs.Ytblgkgobakhigaa.Sh
variable {B : World} {H : List Asrt} {K : Value → WT} {W : WT}
theorem words_at (ls : List Int) {b : Nat} (hb : b < 256) : ∃ w, (wordsL ls)[b]? = some w := by
  refine ⟨(wordsL ls)[b]'(by rw [wordsL_len]; exact hb), List.getElem?_eq_getElem _⟩
theorem words_free {ls : List Int} (hl : ls.length = 256) {b c : Nat} {x y : List UInt8} (hb : b < 256) (hc : c < 256) (hbc : b ≠ c) (hx : (wordsL ls)[b]? = some x) (hy : (wordsL ls)[c]? = some y) (h0 : 0 < x.length) (hle : x.length ≤ y.length) : y.take x.length ≠ x := by
  by_cases hf : fitsP ls
  · have ho := (fits_ok hl).1 hf
    rw [wordsL_at ho hb] at hx
    rw [wordsL_at ho hc] at hy
    cases hx; cases hy
    have hlen : ∀ b, b < 256 → (wordL ls b).length = (ls.getD b 0).toNat := fun b hb => by
      have := ho.rg b hb
      unfold wordL
      split
      · exact bitsN_len _ _
      · rw [List.length_nil]; omega
    rw [hlen b hb] at h0 hle ⊢
    rw [hlen c hc] at hle
    exact prefix_free ho hb hc hbc (by omega) (by omega)
  · unfold wordsL at hx
    rw [if_neg hf, List.getElem?_replicate] at hx
    rw [if_pos hb] at hx
    cases hx
    exact absurd h0 (by decide)
set_option maxRecDepth 100000
attribute [local irreducible] S.pick S.ld S.ldN S.st S.box S.nc S.fad S.ixS S.ixA S.chr S.prt S.ext S.bin S.sh S.sbin S.beq S.neg1 S.com1 S.not1 S.cvt S.str1 S.lenS S.len S.cap S.lenM S.mx S.mn S.mkM S.cond S.gd S.fa S.dr S.rck S.join S.loop S.cvv S.eqv S.slc S.slcS S.b2s S.lk V U CF Gives E cel mpb osl ros dct dit itr
theorem codeWords {ls : List Int} (hl : ls.length = 256) (h : E B H (K (.bool true))) : E B H (CF Try.prog 4 [.agg (ints ls).toArray] K) := by
  have hil : (ints ls).length = 256 := by simp [ints, hl]
  have al1 : AtLen (ints ls) 256 := ⟨hil⟩
  have hwl : (strs (wordsL ls)).length = 256 := by rw [strs, List.length_map, wordsL_len]
  have hzl : (strs (List.replicate 256 [])).length = 256 := by rw [strs, List.length_map, List.length_replicate]
  have alw : AtLen (strs (wordsL ls)) 256 := ⟨hwl⟩
  refine E_mono (W := s4 _ K) ?_ fun _ => c4
  unfold s4
  refine E_box (vs := ints ls) fun v1 => ?_
  refine E_ldNA (l := ints ls) ?_
  refine words hl ?_
  refine E_ext ?_
  refine E_ext ?_
  refine E_box (vs := strs (List.replicate 256 [])) fun v3 => ?_
  refine E_stW (vs := strs (wordsL ls)) (hc := allc_strs _) hwl hzl ?_
  refine E_ldNA (l := ints ls) ?_
  refine wordsD hl ?_
  refine E_ext ?_
  refine E_ext ?_
  refine E_box (vs := strs (List.replicate 256 [])) fun v5 => ?_
  refine E_stW (vs := strs (wordsL ls)) (hc := allc_strs _) hwl hzl ?_
  refine E_join1 [ptr v3, .bool false] (cel true v3 28 (strs (wordsL ls)) :: H) (fun q hq => ?_) ?_
  · refine E_ldNA (l := strs (wordsL ls)) ?_
    refine E_ldNA (l := strs (wordsL ls)) ?_
    refine E_neStrs (wordsL_len ls) ?_
    refine E_gft ?_
    refine E_gft ?_
    refine E_gft ?_
    refine E_neq ?_
    rw [decide_eq_false (by simp)]
    refine E_pff ?_
    exact sm hq
  refine E_fa fun _ => ?_
  refine E_ff ?_
  refine E_loop (n := 2) (σ := Nat) (fun b => b ≤ 256) (fun b => [ptr v3, I b]) (fun _ => cel true v3 28 (strs (wordsL ls)) :: H) (fun b => 256 - b) 0 (fun _ => rfl) rfl (Nat.zero_le _) (fun W hW => hW) ?_
  rintro b K0 hb hk
  refine E_fa fun _ => ?_
  refine E_lss ?_
  refine E_if (fun hc => ?_) (fun hc => ?_)
  · refine E_loop (n := 3) (σ := Nat) (fun c => c ≤ 256) (fun c => [ptr v3, I b, I c]) (fun _ => cel true v3 28 (strs (wordsL ls)) :: H) (fun c => 256 - c) 0 (fun _ => rfl) rfl (Nat.zero_le _) (fun W hW => hW) ?_
    rintro c K1 hc1 hk1
    refine E_fa fun _ => ?_
    refine E_lss ?_
    refine E_if (fun hc2 => ?_) (fun hc2 => ?_)
    · have hb2 : b < 256 := by omega
      have hc3 : c < 256 := by omega
      obtain ⟨x, hx⟩ := words_at ls hb2
      obtain ⟨y, hy⟩ := words_at ls hc3
      have gx := strs_get hx
      have gy := strs_get hy
      have e0 : ∀ n : Nat, 0 + n * 1 = n := fun n => by omega
      refine E_join1 [ptr v3, I b, I c, .bool false] (cel true v3 28 (strs (wordsL ls)) :: H) (fun q hq => ?_) ?_
      · refine E_dr ?_
        refine E_neq ?_
        by_cases hbc : b = c
        · rw [decide_eq_false (by omega)]
          repeat (first | refine E_gff ?_ | refine E_pff ?_)
          exact hq
        rw [decide_eq_true (by omega)]
        refine E_gtf ?_
        refine E_gtf ?_
        refine E_ixA hb2 ?_
        rw [e0]
        refine E_gtf ?_
        refine E_ld' gx ?_
        refine E_gtf ?_
        refine E_lenstr ?_
        refine E_gtf ?_
        refine E_gtr ?_
        refine E_ptt ?_
        by_cases h0 : (0 : Int) < (x.length : Int)
        · rw [decide_eq_true h0]
          refine E_gtf ?_
          refine E_gtf ?_
          refine E_ixA hb2 ?_
          rw [e0]
          refine E_gtf ?_
          refine E_ld' gx ?_
          refine E_gtf ?_
          refine E_lenstr ?_
          refine E_gtf ?_
          refine E_gtf ?_
          refine E_ixA hc3 ?_
          rw [e0]
          refine E_gtf ?_
          refine E_ld' gy ?_
          refine E_gtf ?_
          refine E_lenstr ?_
          refine E_gtf ?_
          refine E_leq ?_
          refine E_ptt ?_
          by_cases h1 : (x.length : Int) ≤ (y.length : Int)
          · rw [decide_eq_true h1]
            refine E_gtf ?_
            refine E_gtf ?_
            refine E_ixA hc3 ?_
            rw [e0]
            refine E_gtf ?_
            refine E_ld' gy ?_
            refine E_gtf ?_
            refine E_gtf ?_
            refine E_ixA hb2 ?_
            rw [e0]
            refine E_gtf ?_
            refine E_ld' gx ?_
            refine E_gtf ?_
            refine E_lenstr ?_
            refine E_gtf ?_
            refine E_slcS0 (by omega) ?_
            refine E_gtf ?_
            refine E_gtf ?_
            refine E_ixA hb2 ?_
            rw [e0]
            refine E_gtf ?_
            refine E_ld' gx ?_
            refine E_gtf ?_
            refine E_streq ?_
            rw [decide_eq_false (words_free hl hb2 hc3 hbc hx hy (by omega) (by omega))]
            refine E_ptt ?_
            exact hq
          · rw [decide_eq_false h1]
            repeat (first | refine E_gff ?_ | refine E_pff ?_)
            exact hq
        · rw [decide_eq_false h0]
          repeat (first | refine E_gff ?_ | refine E_pff ?_)
          exact hq
      · refine E_fa fun _ => ?_
        refine E_ff ?_
        refine E_addI (by omega) (by omega) ?_
        exact hk1 (c + 1) (by omega) (by omega)
    · refine E_addI (by omega) (by omega) ?_
      exact hk (b + 1) (by omega) (by omega)
  · refine live ?_
    exact sm (G := H) h
end Go.Proofs.Ytblgkgobakhigaa.Cod
end
section
namespace Go.Proofs.Ytblgkgobakhigaa.Row
open Go Go.SL Go.Proofs Go.Proofs.Ytblgkgobakhigaa
open Go.ChangeShapes Go.WideShapes Go.ChangeAt Go.RowKit
set_option maxRecDepth 100000
theorem walk_CodeWords {w : World} {v0 : Value} (h0 : Q_ints256 w v0) : Calls Try.prog 4 #[v0] w fun e w' => e = .returned (.bool true) ∧ Below w.heap.size w w' := by
  obtain ⟨l, hl, rfl⟩ := h0
  exact calls_of (args := [.agg (ints l).toArray]) fun K h => Cod.codeWords hl h
end Go.Proofs.Ytblgkgobakhigaa.Row
end
