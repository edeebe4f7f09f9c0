/-
  Part 10: CdW, CdX, CdZ, RowBaseZ.
-/
import Derived.Test.YtblgkgobakhigaaPkPh
import Derived.Test.YtblgkgobakhigaaPkPi
set_option linter.unusedSimpArgs false
set_option linter.unusedVariables false
set_option linter.unusedSectionVars false
section
namespace Go.Proofs.Ytblgkgobakhigaa.Cod
open Go Go.SL Go.SL.Stb
def ordTo (ls : List Int) (n i : Nat) : List Nat := ((List.range n).flatMap fun m : Nat => (List.range 256).filter fun j => decide (ls.getD j 0 = (m : Int) + 1)) ++ (List.range i).filter fun j => decide (ls.getD j 0 = (n : Int) + 1)
theorem ordTo_up (ls : List Int) (n : Nat) : ordTo ls n 256 = ordTo ls (n + 1) 0 := by
  unfold ordTo
  rw [List.range_succ (n := n), List.flatMap_append]
  simp
theorem ordTo_suc (ls : List Int) (n i : Nat) : ordTo ls n (i + 1) = ordTo ls n i ++ if ls.getD i 0 = (n : Int) + 1 then [i] else [] := by
  unfold ordTo
  rw [List.range_succ (n := i), List.filter_append, List.append_assoc]
  congr 2
  rw [List.filter_cons]
  by_cases h : ls.getD i 0 = (n : Int) + 1
  · rw [if_pos (by simpa using h), if_pos h]; rfl
  · rw [if_neg (by simpa using h), if_neg h]; rfl
theorem ordTo_end (ls : List Int) : ordTo ls 60 0 = ordL ls := by
  unfold ordTo ordL
  simp
theorem ordTo_pre {ls : List Int} {n i : Nat} (hn : n < 60) (hi : i ≤ 256) : ordTo ls n i <+: ordL ls := by
  have h1 : ∀ n i, i ≤ 256 → ordTo ls n i <+: ordTo ls n 256 := fun n i hi => by
    unfold ordTo
    refine (List.prefix_append_right_inj _).2 (List.IsPrefix.filter _ ?_)
    refine ⟨(List.range (256 - i)).map (i + ·), ?_⟩
    rw [← List.range_add]
    congr 1; omega
  have h2 : ∀ k n, n + k = 60 → ordTo ls n 0 <+: ordL ls := fun k => by
    induction k with
    | zero => intro n h
              have : n = 60 := by omega
              subst this
              rw [ordTo_end]; exact List.prefix_refl _
    | succ k ih =>
      intro n h
      have := ih (n + 1) (by omega)
      rw [← ordTo_up] at this
      exact (h1 n 0 (by omega)).trans this
  have := h2 (60 - (n + 1)) (n + 1) (by omega)
  rw [← ordTo_up] at this
  exact (h1 n i hi).trans this
theorem ordTo_at {ls : List Int} {n i : Nat} (hn : n < 60) (hi : i < 256) (h : ls.getD i 0 = (n : Int) + 1) : (ordL ls)[(ordTo ls n i).length]? = some i := by
  obtain ⟨t, e⟩ := ordTo_pre (ls := ls) (i := i + 1) hn hi
  rw [ordTo_suc, if_pos h] at e
  rw [← e]
  simp
theorem ordTo_len {ls : List Int} {n i : Nat} : (ordTo ls n (i + 1)).length = (ordTo ls n i).length + if ls.getD i 0 = (n : Int) + 1 then 1 else 0 := by
  rw [ordTo_suc, List.length_append]
  split <;> rfl
theorem num_pos {ls : List Int} (ho : LOk ls) {k n long : Nat} (h : Num ls k n long) : k = 0 ↔ long = 0 := by
  constructor
  · exact fun e => (h.z e).2
  · intro e
    refine Classical.byContradiction fun hk => ?_
    obtain ⟨b, hb, hl, _⟩ := h.s hk
    have := (ord_rg ho hb).2.1
    omega
end Go.Proofs.Ytblgkgobakhigaa.Cod
end
section
namespace Go.Proofs.Ytblgkgobakhigaa.Cod
open Go Go.SL Go.SL.Stb Go.Proofs Go.Proofs.Ytblgkgobakhigaa.Sh
variable {B : World} {H : List Asrt} {K : Value → WT} {W : WT}
theorem os_cons (j : Nat) : [(49 : UInt8)] ++ os j = os (j + 1) := rfl
theorem zs_snoc (j : Nat) : zs j ++ [(48 : UInt8)] = zs (j + 1) := (List.replicate_succ' (n := j) (a := (48 : UInt8))).symm
structure Ones (n k j : Nat) : Prop where
  le : j ≤ k
  n1 : n + 1 = (n / 2 ^ j + 1) * 2 ^ j
  bits : bitsN n k = bitsN (n / 2 ^ j) (k - j) ++ os j
theorem Ones.zero (n k : Nat) : Ones n k 0 := ⟨Nat.zero_le _, by simp, by simp [os]⟩
theorem Ones.odd {n k j : Nat} (h : Ones n k j) (hj : j < k) (ho : n / 2 ^ j % 2 = 1) : Ones n k (j + 1) := by
  have e : n / 2 ^ (j + 1) = n / 2 ^ j / 2 := by rw [Nat.div_div_eq_div_mul, Nat.pow_succ]
  have hs : n / 2 ^ j = 2 * (n / 2 ^ j / 2) + 1 := by omega
  refine ⟨hj, ?_, ?_⟩
  · rw [e, h.n1, Nat.pow_succ, Nat.mul_comm (2 ^ j) 2, ← Nat.mul_assoc]
    congr 1; omega
  · rw [e, h.bits, show k - j = (k - (j + 1)) + 1 by omega]
    conv => lhs; rw [hs, bits_odd]
    rw [List.append_assoc, os_cons]
theorem Ones.even {n k j : Nat} (h : Ones n k j) (hj : j < k) (ho : n / 2 ^ j % 2 = 0) : bitsN n k = bitsN (n / 2 ^ (j + 1)) (k - (j + 1)) ++ [48] ++ os j ∧ bitsN (n + 1) k = bitsN (n / 2 ^ (j + 1)) (k - (j + 1)) ++ [49] ++ zs j := by
  have e : n / 2 ^ (j + 1) = n / 2 ^ j / 2 := by rw [Nat.div_div_eq_div_mul, Nat.pow_succ]
  have hs : n / 2 ^ j = 2 * (n / 2 ^ j / 2) := by omega
  constructor
  · rw [e, h.bits, show k - j = (k - (j + 1)) + 1 by omega]
    conv => lhs; rw [hs, bits_dbl]
  · rw [e, h.n1]
    conv => lhs; rw [show k = (k - j) + j by omega, bits_shl, show k - j = (k - (j + 1)) + 1 by omega, hs, bits_odd]
theorem Ones.full {n k : Nat} (h : Ones n k k) (hn : n + 1 < 2 ^ k) : False := by
  have h1 := h.n1
  have : n / 2 ^ k = 0 := Nat.div_eq_of_lt (by omega)
  rw [this] at h1
  omega
def accK (x : Int) (v : Nat) : Nat := if 0 < x ∧ v ≤ 2 ^ 60 then v + 2 ^ (60 - x.toNat) else v
theorem accK_pos {x : Int} {v : Nat} (h : 0 < x ∧ v ≤ 2 ^ 60) : accK x v = v + 2 ^ (60 - x.toNat) := if_pos h
theorem accK_neg {x : Int} {v : Nat} (h : ¬ (0 < x ∧ v ≤ 2 ^ 60)) : accK x v = v := if_neg h
theorem accK_ok {x : Int} {v k : Nat} (hk : v = k ∨ (2 ^ 60 < v ∧ v ≤ k)) (hv : v ≤ 2 ^ 61) : (accK x v = (k + if 0 < x then 2 ^ (60 - x.toNat) else 0) ∨ (2 ^ 60 < accK x v ∧ accK x v ≤ (k + if 0 < x then 2 ^ (60 - x.toNat) else 0))) ∧ accK x v ≤ 2 ^ 61 := by
  have h2 : 2 ^ (60 - x.toNat) ≤ 2 ^ 60 := Nat.pow_le_pow_right (by omega) (by omega)
  have h0 : 0 < 2 ^ (60 - x.toNat) := Nat.pow_pos (by omega)
  by_cases h : 0 < x ∧ v ≤ 2 ^ 60
  · rw [accK_pos h, if_pos h.1]
    generalize 2 ^ (60 - x.toNat) = P at *
    omega
  · rw [accK_neg h]
    by_cases hx : 0 < x
    · rw [if_pos hx]
      generalize 2 ^ (60 - x.toNat) = P at *
      omega
    · rw [if_neg hx]
      omega
theorem E_slcS0 {s : List UInt8} {j : Nat} (h4 : j ≤ s.length) (h : E B H (K (str (s.take j)))) : E B H (S.slcS (str s) none (some (I j)) K) := fun w hw => by
  refine ⟨0, j, by simp [S.bound], rfl, Nat.zero_le _, by rw [strSize]; exact h4, ?_⟩
  rw [strTake]
  exact h w hw
theorem E_shl1 {c : Nat} (hc : c ≤ 60) (h : E B H (K (I ((2 ^ c : Nat) : Int)))) : E B H (S.sh .shl (I 1) (.int .i64 (c : Int)) K) := fun w hw => ⟨by omega, by
  have := h w hw
  show K (.int .i64 (IntKind.wrap .i64 (1 * 2 ^ min ((c : Int).toNat) 64))) w
  have h2 : 2 ^ c ≤ 2 ^ 60 := Nat.pow_le_pow_right (by omega) hc
  have h0 : 0 < 2 ^ c := Nat.pow_pos (by omega)
  rw [Int.toNat_natCast, Nat.min_eq_left (by omega), Int.one_mul, show (2 : Int) ^ c = ((2 ^ c : Nat) : Int) by simp, wrapI (by omega) (by omega)]
  exact this⟩
attribute [local irreducible] S.pick S.ld S.ldN S.st S.box S.nc S.fad S.ixS S.ixA S.chr S.prt S.ext S.bin S.sh S.sbin S.beq S.neg1 S.com1 S.not1 S.cvt S.str1 S.lenS S.len S.cap S.lenM S.mx S.mn S.mkM S.cond S.gd S.fa S.dr S.rck S.join S.loop S.cvv S.eqv S.slc S.slcS S.b2s S.lk V U CF Gives E cel mpb osl ros dct dit itr
theorem plus {n k : Nat} (hk : k ≤ 64) (hn : n + 1 < 2 ^ k) (h : E B H (K (.tuple #[str (bitsN (n + 1) k), .bool true]))) : E B H (CF Try.prog 29 [str (bitsN n k)] K) := by
  refine E_mono (W := s29 _ K) ?_ fun _ => c29
  unfold s29
  refine E_lenstr ?_
  rw [bitsN_len]
  refine E_subI (by omega) (by omega) ?_
  refine E_loop (n := 2) (σ := Nat) (fun j => Ones n k j) (fun j => [str (bitsN n k), I ((k : Int) - 1 - j)]) (fun _ => H) (fun j => k - j) 0 (fun _ => rfl) (by simp) (Ones.zero n k) (fun W hW => hW) ?_
  rintro j K0 hj hk0
  have hjk := hj.le
  refine E_fa fun _ => ?_
  refine E_geq ?_
  refine E_if (fun hc => ?_) (fun hc => ?_)
  · have hlt : j < k := by omega
    obtain ⟨m, hm⟩ : ∃ m, k - (j + 1) = m := ⟨_, rfl⟩
    have em : (k : Int) - 1 - j = (m : Int) := by omega
    have hml : m < (bitsN n k).length := by rw [bitsN_len]; omega
    rw [em]
    refine E_chr (by omega) (by rw [Int.toNat_natCast, strSize]; exact hml) ?_
    simp only [Int.toNat_natCast]
    have hpl : (bitsN (n / 2 ^ (j + 1)) m).length = m := bitsN_len _ _
    have hmod : n / 2 ^ j % 2 = 0 ∨ n / 2 ^ j % 2 = 1 := by omega
    have hget : ∀ {l : List UInt8} {c : UInt8} (h : m < l.length), l[m]? = some c → l[m] = c := fun h e => by
      rw [List.getElem?_eq_getElem h] at e
      exact Option.some.inj e
    rcases hmod with ho | ho
    · obtain ⟨e1, e2⟩ := hj.even hlt ho
      rw [hm] at e1 e2
      have hch : (bitsN n k)[m] = 48 := hget hml (by rw [e1, List.append_assoc, List.getElem?_append_right (by omega), hpl, Nat.sub_self]; rfl)
      show E B H (S.bin .eql (.int .u8 (((bitsN n k)[m]).toNat : Int)) _ _)
      rw [hch]
      refine E_eql ?_
      refine E_ifT (by decide) ?_
      refine E_slcS0 (by rw [bitsN_len]; omega) ?_
      rw [show (bitsN n k).take m = bitsN (n / 2 ^ (j + 1)) m by rw [e1, List.append_assoc, List.take_left' hpl]]
      refine E_stradd (b := [49]) (by rw [hpl]; simp; omega) ?_
      refine E_loop (n := 2) (σ := Nat) (fun t => t ≤ j) (fun t => [str (bitsN n k), str (bitsN (n / 2 ^ (j + 1)) m ++ [49] ++ zs t)]) (fun _ => H) (fun t => j - t) 0 (fun _ => rfl) (by simp [zs]) (Nat.zero_le _) (fun W hW => hW) ?_
      rintro t K1 ht hk1
      refine E_fa fun _ => ?_
      have hl1 : (bitsN (n / 2 ^ (j + 1)) m ++ [49] ++ zs t).length = m + 1 + t := by simp [hpl, zs]; omega
      refine E_lenstr ?_
      refine E_lenstr ?_
      rw [hl1, bitsN_len]
      refine E_lss ?_
      refine E_if (fun hc2 => ?_) (fun hc2 => ?_)
      · refine E_stradd (b := [48]) (by rw [hl1]; simp; omega) ?_
        rw [List.append_assoc, zs_snoc]
        exact hk1 (t + 1) (by omega) (by omega)
      · have : t = j := by omega
        subst this
        rw [← e2]
        exact h
    · have hj2 := hj.odd hlt ho
      have hch : (bitsN n k)[m] = 49 := hget hml (by rw [hj2.bits, hm, List.getElem?_append_right (by omega), hpl, Nat.sub_self]; rfl)
      show E B H (S.bin .eql (.int .u8 (((bitsN n k)[m]).toNat : Int)) _ _)
      rw [hch]
      refine E_eql ?_
      refine E_ifF (by decide) ?_
      refine E_subI (by omega) (by omega) ?_
      rw [show (m : Int) - 1 = (k : Int) - 1 - ((j + 1 : Nat) : Int) by omega]
      exact hk0 (j + 1) hj2 (by omega)
  · have : j = k := by omega
    subst this
    exact (hj.full hn).elim
set_option maxRecDepth 100000
theorem wordsD {ls : List Int} (hl : ls.length = 256) (h : E B H (K (.tuple #[.agg (strs (wordsL ls)).toArray, I (wordsE ls)]))) : E B H (CF Try.prog 12 [.agg (ints ls).toArray] K) := by
  have hil : (ints ls).length = 256 := by simp [ints, hl]
  have al1 : AtLen (ints ls) 256 := ⟨hil⟩
  have hzl : (strs (List.replicate 256 [])).length = 256 := by rw [strs, List.length_map, List.length_replicate]
  have alz : AtLen (strs (List.replicate 256 [])) 256 := ⟨hzl⟩
  refine E_mono (W := s12 _ K) ?_ fun _ => c12
  unfold s12
  refine E_box (vs := ints ls) fun v1 => ?_
  refine E_box (vs := strs (List.replicate 256 [])) fun v2 => ?_
  have hbad : ¬ fitsP ls → E B (cel true v2 28 (strs (List.replicate 256 [])) :: cel true v1 22 (ints ls) :: H) (V Try.prog (Instr.build 28 #[]) fun v25 => S.st 256 (ptr v2) v25 fun _ => S.ldN 256 (ptr v2) fun v => K (.tuple #[v, I 2])) := fun hf => by
    refine E_vk build_zstr ?_
    refine E_stW (vs := strs (List.replicate 256 [])) (hc := allc_strs _) hzl hzl ?_
    refine E_ldNA (l := strs (List.replicate 256 [])) ?_
    have hE : wordsE ls = 2 := by unfold wordsE; rw [if_neg hf]
    have hW : wordsL ls = List.replicate 256 [] := by unfold wordsL; rw [if_neg hf]
    rw [hE, hW] at h
    exact sm (G := H) h
  refine E_loop (n := 4) (σ := Nat × Nat) (fun s => s.1 ≤ 256 ∧ (∀ j, j < s.1 → 0 ≤ ls.getD j 0 ∧ ls.getD j 0 ≤ 60) ∧ (s.2 = krTo ls s.1 ∨ (2 ^ 60 < s.2 ∧ s.2 ≤ krTo ls s.1)) ∧ s.2 ≤ 2 ^ 61) (fun s => [ptr v1, ptr v2, I s.2, I s.1]) (fun _ => cel true v2 28 (strs (List.replicate 256 [])) :: cel true v1 22 (ints ls) :: H) (fun s => 256 - s.1) (0, 0) (fun _ => rfl) rfl ⟨Nat.zero_le _, fun j hj => by simp only at hj; omega, .inl (by unfold krTo; simp [sumN]), by simp⟩ (fun W hW => hW) ?_
  rintro ⟨i, v⟩ K0 ⟨hi, hok, hkr, hv⟩ hk
  simp only at hi hok hkr hv hk ⊢
  refine E_fa fun _ => ?_
  refine E_lss ?_
  refine E_if (fun hc => ?_) (fun hc => ?_)
  · have e0 : 0 + i * 1 = i := by omega
    have hy := ints_get (at256 hl (show i < 256 by omega))
    have hsu := krTo_suc ls i
    generalize hx : ls.getD i 0 = x at hy hsu
    refine E_join1 [ptr v1, ptr v2, I (accK x v), I i] (pur (0 ≤ x ∧ x ≤ 60) :: cel true v2 28 (strs (List.replicate 256 [])) :: cel true v1 22 (ints ls) :: H) (fun q hq => ?_) ?_
    · refine E_join1 [ptr v1, ptr v2, I v, I i, .bool (decide (x < 0 ∨ 60 < x))] (cel true v2 28 (strs (List.replicate 256 [])) :: cel true v1 22 (ints ls) :: H) (fun k hk2 => ?_) ?_
      · have fin : ∀ c : Bool, decide (x < 0 ∨ 60 < x) = c → E B (cel true v2 28 (strs (List.replicate 256 [])) :: cel true v1 22 (ints ls) :: H) (app 5 k [ptr v1, ptr v2, I v, I i, .bool c]) := fun c hc => hc ▸ hk2
        refine E_ixA (show i < 256 by omega) ?_
        rw [e0]
        refine E_ld' hy ?_
        refine E_lss ?_
        by_cases h1 : x < 0
        · rw [decide_eq_true h1]
          refine E_gtt ?_
          refine E_gtt ?_
          refine E_gtt ?_
          refine E_gtt ?_
          refine E_ptt ?_
          exact fin true (decide_eq_true (.inl h1))
        · rw [decide_eq_false h1]
          refine E_gft ?_
          refine E_gft ?_
          refine E_ixA (show i < 256 by omega) ?_
          rw [e0]
          refine E_gft ?_
          refine E_ld' hy ?_
          refine E_gft ?_
          refine E_gtr ?_
          refine E_pff ?_
          exact fin _ (by rw [decide_eq_decide]; omega)
      refine E_fa fun _ => ?_
      refine E_if (fun hb => ?_) (fun hb => ?_)
      · refine hbad fun hf => ?_
        have := hf.1 i (by omega)
        rw [hx] at this; omega
      have hxr : 0 ≤ x ∧ x ≤ 60 := by omega
      refine E_join1 [ptr v1, ptr v2, I v, I i, .bool (decide (0 < x ∧ v ≤ 2 ^ 60))] (cel true v2 28 (strs (List.replicate 256 [])) :: cel true v1 22 (ints ls) :: H) (fun k hk2 => ?_) ?_
      · have fin : ∀ c : Bool, decide (0 < x ∧ v ≤ 2 ^ 60) = c → E B (cel true v2 28 (strs (List.replicate 256 [])) :: cel true v1 22 (ints ls) :: H) (app 5 k [ptr v1, ptr v2, I v, I i, .bool c]) := fun c hc => hc ▸ hk2
        refine E_ixA (show i < 256 by omega) ?_
        rw [e0]
        refine E_ld' hy ?_
        refine E_gtr ?_
        by_cases h1 : 0 < x
        · rw [decide_eq_true h1]
          refine E_gtf ?_
          refine E_gtf ?_
          refine E_leq ?_
          refine E_ptt ?_
          exact fin _ (by rw [decide_eq_decide]; omega)
        · rw [decide_eq_false h1]
          refine E_gff ?_
          refine E_gff ?_
          refine E_pff ?_
          exact fin _ (decide_eq_false (by omega))
      refine E_fa fun _ => ?_
      refine E_if (fun hp => ?_) (fun hp => ?_)
      · rw [accK_pos hp] at hq
        refine E_ixA (show i < 256 by omega) ?_
        rw [e0]
        refine E_ld' hy ?_
        refine E_subI (by omega) (by omega) ?_
        obtain ⟨m, rfl⟩ : ∃ m : Nat, x = (m : Int) := ⟨x.toNat, by omega⟩
        rw [Int.toNat_natCast] at hq
        have h2 : 2 ^ (60 - m) ≤ 2 ^ 60 := Nat.pow_le_pow_right (by omega) (by omega)
        rw [show (60 : Int) - (m : Int) = ((60 - m : Nat) : Int) by omega]
        refine E_shl1 (by omega) ?_
        generalize 2 ^ (60 - m) = P at h2 hq ⊢
        refine E_addI (by omega) (by omega) ?_
        rw [show (v : Int) + (P : Int) = ((v + P : Nat) : Int) by omega]
        exact E_pur' (p := 0 ≤ (m : Int) ∧ (m : Int) ≤ 60) hxr hq
      · rw [accK_neg hp] at hq
        exact E_pur' (p := 0 ≤ x ∧ x ≤ 60) hxr hq
    · refine E_fa fun _ => ?_
      refine E_pur fun hxr => ?_
      refine E_addI (by omega) (by omega) ?_
      have ha := accK_ok (x := x) hkr hv
      rw [← hsu] at ha
      refine hk (i + 1, accK x v) ⟨by simp only; omega, fun j hj => ?_, ha.1, ha.2⟩ (by simp only; omega)
      simp only at hj
      rcases Nat.lt_or_ge j i with h1 | h1
      · exact hok j h1
      · have : j = i := by omega
        subst this
        rw [hx]; exact hxr
  · have hie : i = 256 := by omega
    subst hie
    refine E_gtr ?_
    by_cases hf : fitsP ls
    · have hkr2 : krTo ls 256 ≤ 2 ^ 60 := hf.2
      refine E_ifF (by omega) ?_
      have ho := (fits_ok hl).1 hf
      refine E_vk build_zstr ?_
      refine E_box (vs := strs (List.replicate 256 [])) fun v6 => ?_
      refine E_stW (vs := strs (List.replicate 256 [])) (hc := allc_strs _) hzl hzl ?_
      refine E_loop (n := 5) (σ := Nat × Nat × Nat) (fun s => s.1 ≤ 60 ∧ Num ls (ordTo ls s.1 0).length s.2.1 s.2.2) (fun s => [ptr v1, ptr v2, ptr v6, str (bitsN s.2.1 s.2.2), I ((s.1 : Int) + 1)]) (fun s => cel true v6 28 (strs (wordsTo ls (ordTo ls s.1 0).length)) :: cel true v2 28 (strs (List.replicate 256 [])) :: cel true v1 22 (ints ls) :: H) (fun s => 60 - s.1) (0, 0, 0) (fun _ => rfl) rfl ⟨Nat.zero_le _, fun _ => ⟨rfl, rfl⟩, fun e => (e rfl).elim⟩ (fun W hW => by
        have e : (ordTo ls 0 0).length = 0 := rfl
        simp only [e, wordsTo_zero] at hW
        exact sm hW) ?_
      rintro ⟨n, num, long⟩ K1 ⟨hn, hnum⟩ hk1
      simp only at hn hnum hk1 ⊢
      refine E_fa fun _ => ?_
      refine E_leq ?_
      refine E_if (fun hc2 => ?_) (fun hc2 => ?_)
      · refine E_loop (n := 6) (σ := Nat × Nat × Nat) (fun s => s.1 ≤ 256 ∧ Num ls (ordTo ls n s.1).length s.2.1 s.2.2) (fun s => [ptr v1, ptr v2, ptr v6, str (bitsN s.2.1 s.2.2), I ((n : Int) + 1), I s.1]) (fun s => cel true v6 28 (strs (wordsTo ls (ordTo ls n s.1).length)) :: cel true v2 28 (strs (List.replicate 256 [])) :: cel true v1 22 (ints ls) :: H) (fun s => 256 - s.1) (0, num, long) (fun _ => rfl) rfl ⟨Nat.zero_le _, hnum⟩ (fun W hW => hW) ?_
        clear hnum
        rintro ⟨b, num, long⟩ K2 ⟨hb, hnum⟩ hk2
        simp only at hb hnum hk2 ⊢
        refine E_fa fun _ => ?_
        refine E_lss ?_
        refine E_if (fun hc3 => ?_) (fun hc3 => ?_)
        · have e0 : 0 + b * 1 = b := by omega
          have hy := ints_get (at256 hl (show b < 256 by omega))
          have hlen := ordTo_len (ls := ls) (n := n) (i := b)
          by_cases hcase : ls.getD b 0 = (n : Int) + 1
          · rw [if_pos hcase] at hlen
            have hat := ordTo_at (show n < 60 by omega) (show b < 256 by omega) hcase
            generalize (ordTo ls n b).length = k at hlen hat hnum ⊢
            obtain ⟨n1, n2, n3, n4⟩ := hnum.next ho hat
            have hwl := wordL_at ho hat
            have hL : (ls.getD b 0).toNat = n + 1 := by omega
            rw [hL] at n1 n2 n3 n4 hwl
            generalize sumB ls b / wtB ls b = m at n2 n3 n4 hwl
            have hk3 := hk2 (b + 1, m, n + 1) ⟨by simp only; omega, by simp only; rw [hlen]; exact n3⟩ (by simp only; omega)
            simp only at hk3
            rw [hlen] at hk3
            refine E_join1 [ptr v1, ptr v2, ptr v6, str (bitsN m (n + 1)), I ((n : Int) + 1), I b] (cel true v6 28 (strs (wordsTo ls (k + 1))) :: cel true v2 28 (strs (List.replicate 256 [])) :: cel true v1 22 (ints ls) :: H) (fun q hq => ?_) ?_
            · refine E_ixA (show b < 256 by omega) ?_
              rw [e0]
              refine E_ld' hy ?_
              rw [hcase]
              refine E_neq ?_
              refine E_ifF (by simp) ?_
              refine E_join1 [ptr v1, ptr v2, ptr v6, I ((n : Int) + 1), I b, str (bitsN (if k = 0 then num else num + 1) long)] (cel true v6 28 (strs (wordsTo ls k)) :: cel true v2 28 (strs (List.replicate 256 [])) :: cel true v1 22 (ints ls) :: H) (fun q2 hq2 => ?_) ?_
              · refine E_lenstr ?_
                rw [bitsN_len]
                refine E_gtr ?_
                have hpz := num_pos ho hnum
                refine E_if (fun hp => ?_) (fun hp => ?_)
                · have hk0 : k ≠ 0 := fun e => by have := hpz.1 e; omega
                  have hroom := hnum.room ho hk0 hat
                  rw [if_neg hk0] at hq2
                  refine plus (by omega) hroom.1 ?_
                  refine E_ext ?_
                  refine E_ext ?_
                  exact hq2
                · have hk0 : k = 0 := hpz.2 (by omega)
                  rw [if_pos hk0] at hq2
                  exact hq2
              · refine E_fa fun _ => ?_
                have hbz : bitsN m (n + 1) = bitsN (if k = 0 then num else num + 1) long ++ zs (n + 1 - long) := by
                  rw [← n2, ← bits_shl, show long + (n + 1 - long) = n + 1 by omega]
                generalize (if k = 0 then num else num + 1) = base at hbz ⊢
                refine E_loop (n := 6) (σ := Nat) (fun t => t ≤ n + 1 - long) (fun t => [ptr v1, ptr v2, ptr v6, I ((n : Int) + 1), I b, str (bitsN base long ++ zs t)]) (fun _ => cel true v6 28 (strs (wordsTo ls k)) :: cel true v2 28 (strs (List.replicate 256 [])) :: cel true v1 22 (ints ls) :: H) (fun t => n + 1 - long - t) 0 (fun _ => rfl) (by simp [zs]) (Nat.zero_le _) (fun W hW => hW) ?_
                rintro t K3 ht hk4
                refine E_fa fun _ => ?_
                have hl1 : (bitsN base long ++ zs t).length = long + t := by simp [bitsN_len, zs]
                refine E_lenstr ?_
                rw [hl1]
                refine E_lss ?_
                refine E_if (fun hc4 => ?_) (fun hc4 => ?_)
                · refine E_stradd (b := [48]) (by rw [hl1]; simp; omega) ?_
                  rw [List.append_assoc, zs_snoc]
                  exact hk4 (t + 1) (by omega) (by omega)
                · have hte : t = n + 1 - long := by omega
                  subst hte
                  rw [← hbz]
                  refine E_ixA (show b < 256 by omega) ?_
                  rw [e0]
                  refine E_st' (by rw [strs, List.length_map, wordsTo_len]; omega) ?_
                  rw [strs_set, ← hwl, ← wordsTo_suc hat, hwl]
                  exact hq
            · refine E_fa fun _ => ?_
              refine E_addI (by omega) (by omega) ?_
              exact hk3
          · rw [if_neg hcase, Nat.add_zero] at hlen
            have hk3 := hk2 (b + 1, num, long) ⟨by simp only; omega, by simp only; rw [hlen]; exact hnum⟩ (by simp only; omega)
            simp only at hk3
            rw [hlen] at hk3
            refine E_join1 [ptr v1, ptr v2, ptr v6, str (bitsN num long), I ((n : Int) + 1), I b] (cel true v6 28 (strs (wordsTo ls (ordTo ls n b).length)) :: cel true v2 28 (strs (List.replicate 256 [])) :: cel true v1 22 (ints ls) :: H) (fun q hq => ?_) ?_
            · refine E_ixA (show b < 256 by omega) ?_
              rw [e0]
              refine E_ld' hy ?_
              refine E_neq ?_
              refine E_ifT hcase ?_
              exact hq
            · refine E_fa fun _ => ?_
              refine E_addI (by omega) (by omega) ?_
              exact hk3
        · have hbe : b = 256 := by omega
          subst hbe
          rw [ordTo_up] at hnum ⊢
          refine E_addI (by omega) (by omega) ?_
          exact hk1 (n + 1, num, long) ⟨by simp only; omega, hnum⟩ (by simp only; omega)
      · have hne : n = 60 := by omega
        subst hne
        rw [ordTo_end, wordsTo_all ho]
        have alw : AtLen (strs (wordsL ls)) 256 := ⟨by rw [strs, List.length_map, wordsL_len]⟩
        refine E_ldNA (l := strs (wordsL ls)) ?_
        refine fd (a := cel true v2 28 (strs (List.replicate 256 []))) ?_
        refine E_stW (vs := strs (wordsL ls)) (hc := allc_strs _) alw.pf hzl ?_
        refine E_ldNA (l := strs (wordsL ls)) ?_
        have hE : wordsE ls = 0 := by unfold wordsE; rw [if_pos hf]
        rw [hE] at h
        exact sm (G := H) h
    · have hkr2 : 2 ^ 60 < krTo ls 256 := by
        rcases Nat.lt_or_ge (2 ^ 60) (krTo ls 256) with h1 | h1
        · exact h1
        · exact (hf ⟨hok, h1⟩).elim
      refine E_ifT (by omega) ?_
      exact hbad hf
end Go.Proofs.Ytblgkgobakhigaa.Cod
end
section
namespace Go.Proofs.Ytblgkgobakhigaa.Cod
open Go Go.SL Go.SL.Stb Go.Proofs Go.Proofs.Ytblgkgobakhigaa.Sh
variable {B : World} {H : List Asrt} {K : Value → WT} {W : WT}
theorem count_set {p q : Nat → Bool} {c : Nat} (hne : ∀ i, i ≠ c → q i = p i) (hc : q c = true) (n : Nat) : ((List.range n).filter q).length = ((List.range n).filter p).length + if c < n ∧ p c = false then 1 else 0 := by
  induction n with
  | zero => simp
  | succ n ih =>
    rw [List.range_succ, List.filter_append, List.filter_append, List.length_append, List.length_append, ih]
    have hf : ∀ r : Nat → Bool, ([n].filter r).length = if r n = true then 1 else 0 := fun r => by
      rw [List.filter_cons]
      split <;> simp
    rw [hf, hf]
    by_cases h : n = c
    · subst h
      rw [hc]
      cases hp : p n <;> simp
    · rw [hne n h]
      by_cases h2 : c < n
      · have e1 : (c < n ∧ p c = false) ↔ (c < n + 1 ∧ p c = false) := by
          constructor <;> rintro ⟨_, h⟩ <;> exact ⟨by omega, h⟩
        simp only [e1]; omega
      · have e1 : ¬ (c < n ∧ p c = false) := fun h => h2 h.1
        have e2 : ¬ (c < n + 1 ∧ p c = false) := fun h3 => by have := h3.1; omega
        rw [if_neg e1, if_neg e2]; omega
theorem used_set {cs : List Int} {c : Nat} (hl : cs.length = 256) (hc : c < 256) (h0 : 0 ≤ cs.getD c 0) : (usedL (cs.set c (cs.getD c 0 + 1))).length = (usedL cs).length + if cs.getD c 0 = 0 then 1 else 0 := by
  unfold usedL
  rw [count_set (p := fun i => decide (0 < cs.getD i 0)) (c := c) (fun i hi => ?_) ?_]
  · congr 1
    by_cases h : cs.getD c 0 = 0
    · rw [if_pos h, if_pos ⟨hc, decide_eq_false (by omega)⟩]
    · rw [if_neg h, if_neg fun h2 => ?_]
      have := of_decide_eq_false h2.2
      omega
  · simp only [List.getD_eq_getElem?_getD, List.getElem?_set, hl, if_true, if_pos hc]
    rw [decide_eq_true_eq]
    simp only [Option.getD_some]
    rw [List.getD_eq_getElem?_getD] at h0
    omega
  · simp only [List.getD_eq_getElem?_getD, List.getElem?_set]
    rw [if_neg (fun e => hi e.symm)]
theorem used_up {cs ls : List Int} (h : ∀ i, i < 256 → (0 < cs.getD i 0 ↔ 0 < ls.getD i 0)) : usedL cs = usedL ls := by
  unfold usedL
  refine List.filter_congr fun i hi => ?_
  rw [decide_eq_decide]
  exact h i (List.mem_range.1 hi)
theorem step_out {s : PS} {c : UInt8} (h : s.n = 7) : s.step c = ⟨s.out ++ [UInt8.ofNat (2 * s.acc + dig c)], 0, 0⟩ := if_pos h
theorem step_in {s : PS} {c : UInt8} (h : ¬ s.n = 7) : s.step c = ⟨s.out, 2 * s.acc + dig c, s.n + 1⟩ := if_neg h
attribute [local irreducible] S.pick S.ld S.ldN S.st S.box S.nc S.fad S.ixS S.ixA S.chr S.prt S.ext S.bin S.sh S.sbin S.beq S.neg1 S.com1 S.not1 S.cvt S.str1 S.lenS S.len S.cap S.lenM S.mx S.mn S.mkM S.cond S.gd S.fa S.dr S.rck S.join S.loop S.cvv S.eqv S.slc S.slcS S.b2s S.lk V U CF Gives E cel mpb osl ros dct dit itr
section
variable {P : Program}
theorem E_sapp2 {t ty T : Nat} {v : Value} {l : List UInt8} {x y : UInt8} (hu : P.underlying t = some (.slice T)) (he : Elt P T 1 1 [.int .u8 0])
    (hn : l.length + 2 ≤ 100000000000) (h : ∀ v' [CellI v'], E B (sls cB T 1 v' (l ++ [x, y]) :: H) (K v')) :
    E B (sls cB T 1 v l :: H) (V P (Instr.buildSlice t 2 #[(0, .int .u8 x.toNat), (1, .int .u8 y.toNat)]) fun v1 => V P (Builtin.append_ #[t, t] ty #[v, v1]) K) := by
  refine E_bsl (l0 := [.int .u8 0, .int .u8 0]) (l := [.int .u8 x.toNat, .int .u8 y.toNat]) [(0, 1), (1, 1)] hu he (by simp) (by omega) (by simp [rep]) fun b => ?_
  refine fd (a := sls cB T 1 v l) ?_
  have : Rs B (cel true b T [.int .u8 (x.toNat : Int), .int .u8 (y.toNat : Int)] :: H) (.slice (some ⟨b, 0, none⟩) 2 2) cB [x, y] := rs_cel (xs := [.int .u8 x.toNat, .int .u8 y.toNat]) (by simp) rfl
  refine E_sapps (enc := cB) (u := .slice (some ⟨b, 0, none⟩) 2 2) (m := [x, y]) hu he (by simp; omega) (by simp; omega) fun v' _ => ?_
  refine sm (G := sls cB T 1 v' (l ++ [x, y]) :: H) (h v')
end
set_option maxRecDepth 100000
theorem putD {pv : Value} {p : List UInt8} [hr : Rb B H pv p] (hp : p.length ≤ 8192) (h : ∀ v [CellI v], E B (sls cB 5 1 v (putL p) :: H) (K (.tuple #[v, I 0]))) : E B H (CF Try.prog 14 [pv] K) := by
  have hz : (ints zeros).length = 256 := by simp [ints, zeros_len]
  refine E_mono (W := s14 _ K) ?_ fun _ => c14
  unfold s14
  refine E_rslen (v := pv) (l := p) ?_
  refine E_gtr ?_
  refine E_ifF (by omega) ?_
  refine E_vk build_zero ?_
  refine E_box (vs := ints zeros) fun v4 => ?_
  refine E_stW (vs := ints zeros) (hc := allc_ints _) hz hz ?_
  refine E_loop (n := 4) (σ := Nat) (fun i => i ≤ p.length) (fun i => [pv, ptr v4, I (usedL (tally (p.take i))).length, I i]) (fun i => cel true v4 22 (ints (tally (p.take i))) :: H) (fun i => p.length - i) 0 (fun _ => rfl) (by
    rw [List.take_zero, tally_nil]
    rfl) (Nat.zero_le _) (fun W hW => by
    rw [List.take_zero, tally_nil] at hW
    exact hW) ?_
  rintro i K0 hi hk
  refine E_fa fun _ => ?_
  refine E_rslen (v := pv) (l := p) ?_
  refine E_lss ?_
  refine E_if (fun hc => ?_) (fun hc => ?_)
  · have hx : p[i]? = some p[i] := List.getElem?_eq_getElem (by omega)
    generalize p[i] = c at hx
    have hcl : c.toNat < 256 := c.toNat_lt
    have e0 : 0 + c.toNat * 1 = c.toNat := by omega
    have htk : p.take (i + 1) = p.take i ++ [c] := by rw [List.take_add_one, hx]; rfl
    have htl := tally_len (p.take i)
    have hrg := tally_rg (p := p.take i) hcl
    rw [List.length_take] at hrg
    have hga := ints_get (at256 htl hcl)
    have hk1 := hk (i + 1) (by omega) (by omega)
    rw [htk, tally_app, ← ints_set, used_set htl hcl hrg.1] at hk1
    have hul : (usedL (tally (p.take i))).length ≤ 256 := usedTo_len _ 256
    generalize (usedL (tally (p.take i))).length = d at hk1 hul ⊢
    generalize (tally (p.take i)).getD c.toNat 0 = x at hga hk1 hrg
    refine E_join1 [pv, ptr v4, I ((d + if x = 0 then 1 else 0 : Nat) : Int), I i] (cel true v4 22 (ints (tally (p.take i))) :: H) (fun q hq => ?_) ?_
    · refine E_rsix (v := pv) (l := p) hx fun _ _ => ?_
      refine E_ptld ?_
      refine E_ixA hcl ?_
      rw [e0]
      refine E_ld' hga ?_
      refine E_eql ?_
      refine E_if (fun hp0 => ?_) (fun hp0 => ?_)
      · rw [if_pos hp0] at hq
        refine E_addI (by omega) (by omega) ?_
        exact hq
      · rw [if_neg hp0, Nat.add_zero] at hq
        exact hq
    · refine E_fa fun _ => ?_
      refine E_dr ?_
      refine E_rsix (v := pv) (l := p) hx fun _ _ => ?_
      refine E_ptld ?_
      refine E_rsix (v := pv) (l := p) hx fun _ _ => ?_
      refine E_ptld ?_
      refine E_ixA hcl ?_
      rw [e0]
      refine E_ld' hga ?_
      refine E_addI (by omega) (by omega) ?_
      refine E_ixA hcl ?_
      rw [e0]
      refine E_st' (by simp [ints, htl]; omega) ?_
      refine E_addI (by omega) (by omega) ?_
      exact hk1
  have hie : i = p.length := by omega
  subst hie
  rw [List.take_length]
  have htl := tally_len p
  have hil : (ints (tally p)).length = 256 := by simp [ints, htl]
  have al0 : AtLen (ints (tally p)) 256 := ⟨hil⟩
  refine E_ldNA (l := ints (tally p)) ?_
  refine lengthsD htl ?_
  have hk := lens_ok htl (tally_ok hp)
  have ho := hk.ok
  rw [used_up hk.up]
  clear hk
  unfold putL at h
  generalize lens (tally p) = ls at ho h ⊢
  have hll := ho.ln
  have hil2 : (ints ls).length = 256 := by simp [ints, hll]
  have al2 : AtLen (ints ls) 256 := ⟨hil2⟩
  have hwl : (strs (wordsL ls)).length = 256 := by rw [strs, List.length_map, wordsL_len]
  have hzl : (strs (List.replicate 256 [])).length = 256 := by rw [strs, List.length_map, List.length_replicate]
  refine E_ext ?_
  refine E_ext ?_
  refine E_box (vs := ints zeros) fun v7 => ?_
  refine E_stW (vs := ints ls) (hc := allc_ints _) hil2 hz ?_
  refine E_ldNA (l := ints ls) ?_
  refine wordsD hll ?_
  refine E_ext ?_
  refine E_ext ?_
  refine E_box (vs := strs (List.replicate 256 [])) fun v9 => ?_
  refine E_stW (vs := strs (wordsL ls)) (hc := allc_strs _) hwl hzl ?_
  have hul : (usedL ls).length ≤ 256 := usedTo_len ls 256
  have hnl : ∀ n, (numL n).length ≤ 10 := fun n => numF_len 9 n
  have hn1 := hnl p.length
  have hn2 := hnl (usedL ls).length
  refine E_rslen (v := pv) (l := p) ?_
  refine refNum (by omega) fun v66 _ => ?_
  refine E_ext ?_
  refine E_ext ?_
  refine refNum (by omega) fun v71 _ => ?_
  refine E_ext ?_
  refine E_ext ?_
  refine fd (a := sls cB 5 1 v66 (numL p.length)) ?_
  refine E_sapps (enc := cB) (u := v71) (m := numL (usedL ls).length) u_bytes elt_byte (by omega) (by omega) fun v75 hv75 => ?_
  generalize hhd : numL p.length ++ numL (usedL ls).length = hd at h ⊢
  have hhl : hd.length ≤ 20 := by rw [← hhd, List.length_append]; omega
  clear hhd
  refine E_loop (n := 5) (σ := Nat × Cv) (fun s => s.1 ≤ 256) (fun s => [pv, ptr v7, ptr v9, s.2.1, I s.1]) (fun s => sls cB 5 1 s.2.1 (hd ++ tabL ls (usedTo ls s.1)) :: cel true v9 28 (strs (wordsL ls)) :: cel true v7 22 (ints ls) :: H) (fun s => 256 - s.1) (0, ⟨v75, hv75.pf⟩) (fun _ => rfl) rfl (Nat.zero_le _) (fun W hW => by
    have e : hd ++ tabL ls (usedTo ls 0) = hd := by rw [show tabL ls (usedTo ls 0) = [] from rfl, List.append_nil]
    simp only [e] at hW
    exact sm hW) ?_
  rintro ⟨b, ov⟩ K1 hb hk
  simp only at hb hk ⊢
  have iov : CellI ov.1 := ⟨ov.2⟩
  refine E_fa fun _ => ?_
  refine E_lss ?_
  refine E_if (fun hc => ?_) (fun hc => ?_)
  · have e0 : 0 + b * 1 = b := by omega
    have hblt : b < 256 := by omega
    have hgb := ints_get (at256 hll hblt)
    have hrg := ho.rg b hblt
    have hsu := usedTo_suc ls b
    have hul2 := usedTo_len ls b
    have htn := tab_len ls (usedTo ls b)
    refine E_joinC (σ := Cv) (fun _ => True) (fun s => [pv, ptr v7, ptr v9, s.1, I b]) (fun s => sls cB 5 1 s.1 (hd ++ tabL ls (usedTo ls (b + 1))) :: cel true v9 28 (strs (wordsL ls)) :: cel true v7 22 (ints ls) :: H) (fun q hq => ?_) (fun s _ => ?_)
    · refine E_ixA hblt ?_
      rw [e0]
      refine E_ld' hgb ?_
      refine E_gtr ?_
      refine E_if (fun hp0 => ?_) (fun hp0 => ?_)
      · rw [if_pos hp0] at hsu
        have e1 : hd ++ tabL ls (usedTo ls (b + 1)) = hd ++ tabL ls (usedTo ls b) ++ [UInt8.ofNat b, UInt8.ofNat (ls.getD b 0).toNat] := by
          rw [hsu]; unfold tabL; rw [List.flatMap_append, List.append_assoc]; simp
        refine E_cvt8 (by omega) ?_
        rw [Int.toNat_natCast]
        refine E_ixA hblt ?_
        rw [e0]
        refine E_ld' hgb ?_
        refine E_cvt8 (by omega) ?_
        refine E_sapp2 u_bytes elt_byte (by rw [List.length_append]; omega) fun v' hv' => ?_
        have := hq ⟨v', hv'.pf⟩ trivial
        rw [e1] at this
        exact this
      · rw [if_neg hp0, List.append_nil] at hsu
        have := hq ov trivial
        rw [hsu] at this
        exact this
    · refine E_fa fun _ => ?_
      refine E_addI (by omega) (by omega) ?_
      exact hk (b + 1, s) (by simp only; omega) (by simp only; omega)
  have hbe : b = 256 := by omega
  subst hbe
  clear hk
  rw [show usedTo ls 256 = usedL ls from rfl]
  have htn := tab_len ls (usedL ls)
  generalize hhd2 : hd ++ tabL ls (usedL ls) = bs at h ⊢
  have hbl : bs.length ≤ 1000 := by rw [← hhd2, List.length_append]; omega
  clear hhd2
  refine E_loop (n := 6) (σ := Nat × Cv) (fun s => s.1 ≤ p.length) (fun s => [pv, ptr v9, s.2.1, I (putB ls (p.take s.1)).acc, I (putB ls (p.take s.1)).n, I s.1]) (fun s => sls cB 5 1 s.2.1 (bs ++ (putB ls (p.take s.1)).out) :: cel true v9 28 (strs (wordsL ls)) :: H) (fun s => p.length - s.1) (0, ov) (fun _ => rfl) rfl (Nat.zero_le _) (fun W hW => by
    have e : bs ++ (putB ls (p.take 0)).out = bs := by rw [List.take_zero, show (putB ls []).out = [] from rfl, List.append_nil]
    simp only [e] at hW
    exact sm hW) ?_
  rintro ⟨j, nv⟩ K2 hj hk
  simp only at hj hk ⊢
  have inv : CellI nv.1 := ⟨nv.2⟩
  refine E_fa fun _ => ?_
  refine E_rslen (v := pv) (l := p) ?_
  refine E_lss ?_
  refine E_if (fun hc => ?_) (fun hc => ?_)
  · have hx : p[j]? = some p[j] := List.getElem?_eq_getElem (by omega)
    generalize p[j] = c at hx
    have hcl : c.toNat < 256 := c.toNat_lt
    have e0 : 0 + c.toNat * 1 = c.toNat := by omega
    have hpl := putB_len ho (p.take j)
    have hwl := word_len ho c.toNat
    have hbt := word_bit ls c.toNat
    have hpo := putB_ok ls (p.take j)
    rw [List.length_take] at hpl
    have hk2 : ∀ s : Cv, _ := fun s => hk (j + 1, s) (by simp only; omega) (by simp only; omega)
    simp only at hk2
    rw [putB_suc hx] at hk2
    refine E_rsix (v := pv) (l := p) hx fun _ _ => ?_
    refine E_ptld ?_
    refine E_ixA hcl ?_
    rw [e0]
    refine E_ld' (strs_get (wordsL_at ho hcl)) ?_
    generalize wordL ls c.toNat = w at hwl hbt hk2 ⊢
    generalize putB ls (p.take j) = s0 at hpl hpo hk2 ⊢
    refine E_loop (n := 8) (σ := Nat × Cv) (fun s => s.1 ≤ w.length) (fun s => [pv, ptr v9, s.2.1, I ((w.take s.1).foldl PS.step s0).acc, I ((w.take s.1).foldl PS.step s0).n, I j, str w, I s.1]) (fun s => sls cB 5 1 s.2.1 (bs ++ ((w.take s.1).foldl PS.step s0).out) :: cel true v9 28 (strs (wordsL ls)) :: H) (fun s => w.length - s.1) (0, nv) (fun _ => rfl) rfl (Nat.zero_le _) (fun W hW => hW) ?_
    rintro ⟨t, tv⟩ K3 ht hk3
    simp only at ht hk3 ⊢
    have itv : CellI tv.1 := ⟨tv.2⟩
    refine E_fa fun _ => ?_
    refine E_lenstr ?_
    refine E_lss ?_
    refine E_if (fun hc2 => ?_) (fun hc2 => ?_)
    · have hlt : t < w.length := by omega
      have hxw : w[t]? = some w[t] := List.getElem?_eq_getElem hlt
      have hb1 := hbt w[t] (List.getElem_mem hlt)
      obtain ⟨hd1, hd2⟩ := dig_lt hb1
      have hok1 := PS.run_ok hpo (w := w.take t) fun c hc => hbt c (List.mem_of_mem_take hc)
      have hrl := run_len s0 (w.take t)
      rw [List.length_take] at hrl
      have hk4 : ∀ s : Cv, _ := fun s => hk3 (t + 1, s) (by simp only; omega) (by simp only; omega)
      simp only at hk4
      rw [show (w.take (t + 1)).foldl PS.step s0 = ((w.take t).foldl PS.step s0).step w[t] by rw [List.take_add_one, hxw, List.foldl_append]; rfl] at hk4
      generalize (w.take t).foldl PS.step s0 = q at hok1 hrl hk4 ⊢
      obtain ⟨hq1, hq2⟩ := hok1
      have hq3 : 2 ^ q.n ≤ 2 ^ 7 := Nat.pow_le_pow_right (by omega) (by omega)
      have hch : ∀ {K : Value → WT} {G : List Asrt}, E B G (K (.int .u8 (w[t].toNat : Int))) → E B G (S.chr (str w) (I t) K) := fun hh => by
        refine E_chr (by omega) (by rw [Int.toNat_natCast, strSize]; exact hlt) ?_
        simp only [Int.toNat_natCast]
        exact hh
      refine E_joinC (σ := Cv) (fun _ => True) (fun s => [pv, ptr v9, s.1, I (q.step w[t]).acc, I (q.step w[t]).n, I j, str w, I t]) (fun s => sls cB 5 1 s.1 (bs ++ (q.step w[t]).out) :: cel true v9 28 (strs (wordsL ls)) :: H) (fun k hk5 => ?_) (fun s _ => ?_)
      · refine E_mulI (by omega) (by omega) ?_
        refine hch ?_
        refine E_cvtI (by omega) (by omega) ?_
        refine E_addI (by omega) (by omega) ?_
        refine E_subI (by omega) (by omega) ?_
        rw [show 2 * (q.acc : Int) + (w[t].toNat : Int) - 48 = ((2 * q.acc + dig w[t] : Nat) : Int) by omega]
        refine E_addI (by omega) (by omega) ?_
        refine E_eql ?_
        refine E_if (fun h8 => ?_) (fun h8 => ?_)
        · rw [step_out (by omega)] at hk5
          refine E_cvt8 (by omega) ?_
          rw [Int.toNat_natCast]
          refine E_sapp1 (enc := cB) _ u_bytes elt_byte rfl (by decide) (by rw [List.length_append]; omega) (by rw [List.length_append]; omega) fun v' hv' => ?_
          have := hk5 ⟨v', hv'.pf⟩ trivial
          rw [← List.append_assoc] at this
          exact this
        · rw [step_in (by omega)] at hk5
          exact hk5 tv trivial
      · refine E_fa fun _ => ?_
        refine E_addI (by omega) (by omega) ?_
        exact hk4 s
    · have hte : t = w.length := by omega
      subst hte
      rw [List.take_length]
      refine E_addI (by omega) (by omega) ?_
      exact hk2 tv
  have hje : j = p.length := by omega
  subst hje
  rw [List.take_length]
  clear hk
  have hpl := putB_len ho p
  have hpo := putB_ok ls p
  have hbe : (putB ls p).bytes = (putB ls p).out ++ (putB ls p).tail := rfl
  rw [hbe] at h
  unfold PS.tail at h
  generalize putB ls p = q at hpl hpo h ⊢
  obtain ⟨hq1, hq2⟩ := hpo
  refine E_joinC (σ := Cv) (fun _ => True) (fun s => [s.1]) (fun s => sls cB 5 1 s.1 (bs ++ (q.out ++ if q.n = 0 then [] else [UInt8.ofNat (q.acc * 2 ^ (8 - q.n))])) :: H) (fun k hk5 => ?_) (fun s _ => ?_)
  · refine E_gtr ?_
    refine E_if (fun hn => ?_) (fun hn => ?_)
    · rw [if_neg (by omega)] at hk5
      have hp8 : 2 ^ (q.n) * 2 ^ (8 - q.n) = 256 := by rw [← Nat.pow_add, show q.n + (8 - q.n) = 8 by omega]
      have ha : q.acc * 2 ^ (8 - q.n) < 256 := by
        rw [← hp8]; exact (Nat.mul_lt_mul_right (Nat.pow_pos (by omega))).2 hq2
      have hak : ∀ t, t ≤ 8 - q.n → q.acc * 2 ^ t ≤ q.acc * 2 ^ (8 - q.n) := fun t ht => Nat.mul_le_mul_left _ (Nat.pow_le_pow_right (by omega) ht)
      refine E_loop (n := 3) (σ := Nat) (fun t => t ≤ 8 - q.n) (fun t => [nv.1, I ((q.acc * 2 ^ t : Nat) : Int), I ((q.n + t : Nat) : Int)]) (fun _ => sls cB 5 1 nv.1 (bs ++ q.out) :: H) (fun t => 8 - q.n - t) 0 (fun _ => rfl) (by simp) (Nat.zero_le _) (fun W hW => sm hW) ?_
      rintro t K3 ht hk6
      refine E_fa fun _ => ?_
      refine E_lss ?_
      have hat := hak t ht
      refine E_if (fun hc2 => ?_) (fun hc2 => ?_)
      · refine E_mulI (by omega) (by omega) ?_
        refine E_addI (by omega) (by omega) ?_
        have hk7 := hk6 (t + 1) (by omega) (by omega)
        rw [show q.acc * 2 ^ (t + 1) = 2 * (q.acc * 2 ^ t) by rw [Nat.pow_succ, ← Nat.mul_assoc, Nat.mul_comm]] at hk7
        exact hk7
      · have hte : t = 8 - q.n := by omega
        subst hte
        refine E_cvt8 (by omega) ?_
        rw [Int.toNat_natCast]
        refine E_sapp1 (enc := cB) _ u_bytes elt_byte rfl (by decide) (by rw [List.length_append]; omega) (by rw [List.length_append]; omega) fun v' hv' => ?_
        have := hk5 ⟨v', hv'.pf⟩ trivial
        rw [← List.append_assoc] at this
        exact this
    · rw [if_pos (by omega), List.append_nil] at hk5
      exact sm (hk5 nv trivial)
  · refine E_fa fun _ => ?_
    have : CellI s.1 := ⟨s.2⟩
    exact h s.1
theorem codePuts {pv : Value} {p : List UInt8} [hr : Rb B H pv p] (hp : p.length ≤ 9223372036854775807) (h : E B H (K (.bool true))) : E B H (CF Try.prog 5 [pv] K) := by
  refine E_mono (W := s5 _ K) ?_ fun _ => c5
  unfold s5
  refine E_rslen (v := pv) (l := p) ?_
  refine E_mn ?_
  obtain ⟨m, hm⟩ : ∃ m : Nat, min (p.length : Int) 2000 = (m : Int) := ⟨(min (p.length : Int) 2000).toNat, by omega⟩
  rw [hm]
  refine E_slcB (v := pv) (bs := p) (l := 0) (hh := m) (by simp [S.bound]) rfl (Nat.zero_le _) (by omega) fun v12 hr12 _ => ?_
  rw [List.drop_zero, Nat.sub_zero] at hr12
  have hpm : (p.take m).length ≤ 2000 := by rw [List.length_take]; omega
  have h12 : Rb B H v12 (p.take m) := hr12 H
  generalize p.take m = q at h12 hpm
  clear hr12
  refine E_sbsl0 cB u_bytes elt_byte fun v13 _ => ?_
  refine E_sapps (enc := cB) (u := v12) (m := q) u_bytes elt_byte (by simp; omega) (by simp; omega) fun v15 _ => ?_
  rw [List.nil_append]
  refine put (pv := v15) (p := q) (by omega) fun v19 _ => ?_
  refine E_ext ?_
  refine E_ext ?_
  refine putD (pv := v12) (p := q) (by omega) fun v24 _ => ?_
  refine E_ext ?_
  refine E_ext ?_
  refine live ?_
  refine E_gtf ?_
  refine E_gtf ?_
  refine E_b2sR ?_
  refine E_gtf ?_
  refine E_gtf ?_
  refine E_b2sR ?_
  refine E_gtf ?_
  refine E_streqS ?_
  refine E_ptt ?_
  refine E_gtf ?_
  refine E_gtf ?_
  refine E_gtf ?_
  refine E_eql ?_
  rw [decide_eq_true rfl]
  refine E_ptt ?_
  refine E_gtf ?_
  refine E_gtf ?_
  refine E_b2sR ?_
  refine E_gtf ?_
  refine E_gtf ?_
  refine E_b2sR ?_
  refine E_gtf ?_
  refine E_streqS ?_
  refine E_ptt ?_
  exact sm (G := H) h
end Go.Proofs.Ytblgkgobakhigaa.Cod
end
section
namespace Go.Proofs.Ytblgkgobakhigaa.Row
open Go Go.SL Go.Proofs Go.Proofs.Ytblgkgobakhigaa
open Go.ChangeShapes Go.WideShapes Go.ChangeAt Go.RowKit
set_option maxRecDepth 100000
theorem walk_CodePuts {w : World} {v0 : Value} (h0 : Q_bytes w v0) : Calls Try.prog 5 #[v0] w fun e w' => e = .returned (.bool true) ∧ Below w.heap.size w w' := by
  obtain ⟨a, _, ha, hl⟩ := h0
  have i1 : BaseR w v0 a := ⟨ha⟩
  exact calls_of (args := [v0]) fun K h => Cod.codePuts (p := a) (by omega) h
end Go.Proofs.Ytblgkgobakhigaa.Row
end
