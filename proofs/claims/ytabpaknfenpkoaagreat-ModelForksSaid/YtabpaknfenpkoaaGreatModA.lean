/-
  Model: names (with what Script has proved of them); the model on the heap.
-/
import Derived.Test.YtabpaknfenpkoaaGreatModK
set_option linter.unusedSimpArgs false
set_option linter.unusedVariables false
set_option linter.unusedSectionVars false
namespace Go.Proofs.YtabpaknfenpkoaaGreat.Mod
open Go Go.SL Go.Proofs Go.Proofs.YtabpaknfenpkoaaGreat.Sh
variable {B : World} {H : List Asrt} {K : Value → WT} {W : WT}
theorem E_chrL {s : List UInt8} {i : Nat} {c : UInt8} {k : IntKind} (hs : s[i]? = some c) (h : E B H (K (.int .u8 (c.toNat : Int)))) : E B H (S.chr (str s) (.int k (i : Int)) K) := by
  have hl : i < s.length := (List.getElem?_eq_some_iff.1 hs).1
  have hi : ((i : Int)).toNat < (⟨s.toArray⟩ : ByteArray).size := by rw [strSize]; simpa using hl
  refine E_chr (by omega) hi ?_
  have e : (⟨s.toArray⟩ : ByteArray)[((i : Int)).toNat]'hi = c := by
    have h2 : s[i] = c := by rw [List.getElem?_eq_getElem hl] at hs; exact Option.some.inj hs
    show s.toArray[((i : Int)).toNat]'_ = c
    simpa using h2
  rw [e]; exact h
theorem E_slcL {s : List UInt8} {lo hi : Option Value} {i j : Nat} (h1 : S.bound hi s.length = some j) (h2 : S.bound lo 0 = some i) (h3 : i ≤ j) (h4 : j ≤ s.length) (h : E B H (K (str ((s.drop i).take (j - i))))) : E B H (S.slcS (str s) lo hi K) := fun w hw =>
  ⟨i, j, by rw [strSize]; exact h1, h2, h3, by rw [strSize]; exact h4, by rw [strMid]; exact h w hw⟩
attribute [local irreducible] S.pick S.ld S.ldN S.st S.box S.nc S.fad S.ixS S.ixA S.chr S.prt S.ext S.bin S.sh S.sbin S.beq S.neg1 S.com1 S.not1 S.cvt S.str1 S.lenS S.len S.cap S.lenM S.mx S.mn S.mkM S.cond S.gd S.fa S.dr S.rck S.join S.loop S.cvv S.eqv S.slc S.slcS S.b2s S.lk V U CF Gives E cel mpb osl ros dct dit itr lpo dfo
set_option maxRecDepth 4000
theorem recName [Amb] {s : List UInt8} (hm : s.length ≤ 9223372036854775807) (h : E B H (K (.bool (nameOk s)))) : E B H (CF Tryz.prog 69 [str s] K) := by
  refine E_mono (W := s69 _ K) ?_ fun _ => c69
  unfold s69
  refine E_lenstr ?_
  refine E_loop (σ := Nat) (fun i => i ≤ s.length ∧ ∀ j c, j < i → s[j]? = some c → 33 ≤ c.toNat ∧ c.toNat ≤ 126) (fun i => [str s, I s.length, I i]) (fun _ => H) (fun i => s.length - i) 0 (fun _ => rfl) rfl ⟨Nat.zero_le _, by omega⟩ (fun W hW => hW) ?_
  rintro i K0 ⟨hi, ha⟩ hk
  refine E_fa fun _ => ?_
  refine E_lss ?_
  refine E_if (fun hc => ?_) (fun hc => ?_)
  · have hs : s[i]? = some s[i] := List.getElem?_eq_getElem (by omega)
    generalize s[i] = c at hs
    refine E_join1 [str s, I s.length, I i, .bool (decide (c.toNat < 33 ∨ 126 < c.toNat))] H (fun q hq => ?_) ?_
    · have fin : ∀ q' : Bool, decide (c.toNat < 33 ∨ 126 < c.toNat) = q' → E B H (app 4 q [str s, I s.length, I i, .bool q']) := fun q' h => h ▸ hq
      refine E_chrL hs ?_
      refine E_lss ?_
      by_cases h1 : (c.toNat : Int) < 33
      · (repeat first | refine gS ?_ | refine gA fun _ => ?_ | refine gX fun _ _ => ?_ | refine gT ?_ | refine gF ?_ | refine gI ?_)
        exact fin _ (decide_eq_true (by omega))
      · (repeat first | refine gS ?_ | refine gA fun _ => ?_ | refine gX fun _ _ => ?_ | refine gT ?_ | refine gF ?_ | refine gI ?_)
        refine E_chrL hs ?_
        (repeat first | refine gS ?_ | refine gA fun _ => ?_ | refine gX fun _ _ => ?_ | refine gT ?_ | refine gF ?_ | refine gI ?_)
        refine fin _ ?_
        rw [decide_eq_decide]; omega
    refine E_fa fun _ => ?_
    refine E_if (fun hb => ?_) (fun hb => ?_)
    · have : nameOk s = false := decide_eq_false fun h => by
        have := h.2.2 c (List.mem_of_getElem? hs); omega
      rw [this] at h; exact h
    · refine E_addI (by omega) (by omega) ?_
      refine hk (i + 1) ⟨by omega, fun j d hj hd => ?_⟩ (by omega)
      by_cases hji : j = i
      · subst hji; rw [hs] at hd; cases hd; omega
      · exact ha j d (by omega) hd
  · have hall : ∀ c ∈ s, 33 ≤ c.toNat ∧ c.toNat ≤ 126 := fun c hc' => by
      obtain ⟨j, hj, rfl⟩ := List.getElem_of_mem hc'
      exact ha j _ (by omega) (List.getElem?_eq_getElem hj)
    refine E_strne (b := []) ?_
    by_cases h0 : s ≠ []
    · by_cases h32 : (s.length : Int) ≤ 32
      · have : nameOk s = true := decide_eq_true ⟨h0, by omega, hall⟩
        rw [this] at h
        (repeat first | refine gS ?_ | refine gA fun _ => ?_ | refine gX fun _ _ => ?_ | refine gT ?_ | refine gF ?_ | refine gI ?_)
        rw [decide_eq_true h32]
        exact h
      · have : nameOk s = false := decide_eq_false fun h => by omega
        rw [this] at h
        (repeat first | refine gS ?_ | refine gA fun _ => ?_ | refine gX fun _ _ => ?_ | refine gT ?_ | refine gF ?_ | refine gI ?_)
        rw [decide_eq_false h32]
        exact h
    · have : nameOk s = false := decide_eq_false fun h => h0 h.1
      rw [this] at h
      (repeat first | refine gS ?_ | refine gA fun _ => ?_ | refine gX fun _ _ => ?_ | refine gT ?_ | refine gF ?_ | refine gI ?_)
      exact h
theorem rname [Amb] {s : List UInt8} (hm : s.length ≤ 9223372036854775806) (h : E B H (K (.bool (nameOk s)))) : E B H (CF Tryz.prog 27 [str s] K) := by
  refine E_mono (W := s27 _ K) ?_ fun _ => c27
  unfold s27
  have no : ¬ (s ≠ [] ∧ s.length ≤ 32 ∧ ∀ c ∈ s, 33 ≤ c.toNat ∧ c.toNat ≤ 126) → E B H (K (.bool false)) := fun hn => by
    have : nameOk s = false := decide_eq_false hn
    rw [this] at h; exact h
  refine E_join1 [str s, .bool (decide (s.length < 1 ∨ 32 < s.length))] H (fun q hq => ?_) ?_
  · have hfin : ∀ b : Bool, decide (s.length < 1 ∨ 32 < s.length) = b → E B H (app 2 q [str s, .bool b]) := fun b h => h ▸ hq
    refine E_lenstr ?_
    refine E_lss ?_
    by_cases g : (s.length : Int) < 1
    · (repeat first | refine gS ?_ | refine gA fun _ => ?_ | refine gX fun _ _ => ?_ | refine gT ?_ | refine gF ?_ | refine gI ?_)
      exact hfin _ (decide_eq_true (by omega))
    · (repeat first | refine gS ?_ | refine gA fun _ => ?_ | refine gX fun _ _ => ?_ | refine gT ?_ | refine gF ?_ | refine gI ?_)
      exact hfin _ (by rw [decide_eq_decide]; omega)
  refine E_fa fun _ => ?_
  refine E_if (fun hb => ?_) (fun hb => ?_)
  · exact no fun hh => by
      have : 0 < s.length := List.length_pos_iff.2 hh.1
      omega
  refine E_loop (σ := Nat) (fun i => i ≤ s.length ∧ ∀ j c, j < i → s[j]? = some c → 33 ≤ c.toNat ∧ c.toNat ≤ 126) (fun i => [str s, I i]) (fun _ => H) (fun i => s.length - i) 0 (fun _ => rfl) rfl ⟨Nat.zero_le _, by omega⟩ (fun W hW => hW) ?_
  rintro i K0 ⟨hi, ha⟩ hk
  refine E_fa fun _ => ?_
  refine E_lenstr ?_
  refine E_lss ?_
  refine E_if (fun hc => ?_) (fun hc => ?_)
  · have hs : s[i]? = some s[i] := List.getElem?_eq_getElem (by omega)
    generalize s[i] = c at hs
    refine E_join1 [str s, I i, .bool (decide (c.toNat < 33 ∨ 126 < c.toNat))] H (fun q hq => ?_) ?_
    · have fin : ∀ q' : Bool, decide (c.toNat < 33 ∨ 126 < c.toNat) = q' → E B H (app 3 q [str s, I i, .bool q']) := fun q' h => h ▸ hq
      refine E_chrL hs ?_
      refine E_lss ?_
      by_cases h1 : (c.toNat : Int) < 33
      · (repeat first | refine gS ?_ | refine gA fun _ => ?_ | refine gX fun _ _ => ?_ | refine gT ?_ | refine gF ?_ | refine gI ?_)
        exact fin _ (decide_eq_true (by omega))
      · (repeat first | refine gS ?_ | refine gA fun _ => ?_ | refine gX fun _ _ => ?_ | refine gT ?_ | refine gF ?_ | refine gI ?_)
        refine E_chrL hs ?_
        (repeat first | refine gS ?_ | refine gA fun _ => ?_ | refine gX fun _ _ => ?_ | refine gT ?_ | refine gF ?_ | refine gI ?_)
        refine fin _ ?_
        rw [decide_eq_decide]; omega
    refine E_fa fun _ => ?_
    refine E_if (fun hb => ?_) (fun hb => ?_)
    · exact no fun hh => by have := hh.2.2 c (List.mem_of_getElem? hs); omega
    · refine E_addI (by omega) (by omega) ?_
      refine hk (i + 1) ⟨by omega, fun j d hj hd => ?_⟩ (by omega)
      by_cases hji : j = i
      · subst hji; rw [hs] at hd; cases hd; omega
      · exact ha j d (by omega) hd
  · have hall : ∀ c ∈ s, 33 ≤ c.toNat ∧ c.toNat ≤ 126 := fun c hc' => by
      obtain ⟨j, hj, rfl⟩ := List.getElem_of_mem hc'
      exact ha j _ (by omega) (List.getElem?_eq_getElem hj)
    have : nameOk s = true := decide_eq_true ⟨fun e => hb (by subst e; simp), by omega, hall⟩
    rw [this] at h
    exact h

/-! ### the model on the heap -/
abbrev I (n : Int) : Value := .int .i64 n
abbrev ptr (a : Nat) : Value := .pointer (some ⟨a, 0, none⟩)
def vC (v : Ver) : List Value := [I v.gen, I v.time, str v.text, .bool v.gone]
instance : Enc vC 4 := ⟨fun _ => rfl, fun _ y hy => by simp [vC] at hy; rcases hy with rfl | rfl | rfl | rfl <;> rfl⟩
instance {v : Ver} : AtLen (vC v) 4 := ⟨rfl⟩
instance {v : Ver} : AtI (vC v) 0 (I v.gen) := ⟨rfl⟩
instance {v : Ver} : AtI (vC v) 1 (I v.time) := ⟨rfl⟩
instance {v : Ver} : AtI (vC v) 2 (str v.text) := ⟨rfl⟩
instance {v : Ver} : AtI (vC v) 3 (.bool v.gone) := ⟨rfl⟩
def hC (h : List UInt8 × Int) : List Value := [str h.1, I h.2]
instance : Enc hC 2 := ⟨fun _ => rfl, fun _ y hy => by simp [hC] at hy; rcases hy with rfl | rfl <;> rfl⟩
instance {h : List UInt8 × Int} : AtLen (hC h) 2 := ⟨rfl⟩
instance {h : List UInt8 × Int} : AtI (hC h) 0 (str h.1) := ⟨rfl⟩
instance {h : List UInt8 × Int} : AtI (hC h) 1 (I h.2) := ⟨rfl⟩
def sAgg (s : Se) : Value := .agg #[str s.name, str s.text]
abbrev lk {κ β : Type} [DecidableEq κ] (kv : List (κ × β)) (k : κ) : Option β := kv.lookup k
structure R where
  r1 : Nat
  r2 : Nat
  r3 : Nat
  kf : List (List UInt8 × Value)
  ks : List (List UInt8 × Value)
  ko : List (Int × Value)
  Lv : List (Value × List Ver)
  Lh : List (Nat × List (List UInt8 × Value))
def FOk (Lv : List (Value × List Ver)) (kf : List (List UInt8 × Value)) (V : List Ver) : Prop :=
  ∀ k, (lk kf k = none ∧ fof V k = []) ∨ ∃ v, lk kf k = some v ∧ (v, fof V k) ∈ Lv ∧ fof V k ≠ []
def sof (S : List Sn) (k : List UInt8) : Option Sn := S.find? fun s => decide (s.name = k)
def SOk (Lh : List (Nat × List (List UInt8 × Value))) (ks : List (List UInt8 × Value)) (S : List Sn) : Prop :=
  ∀ k, (lk ks k = none ∧ sof S k = none) ∨ ∃ r kv s, lk ks k = some (.map (some r)) ∧ (r, kv) ∈ Lh ∧ sof S k = some s ∧ ∀ n, lk kv n = (lk s.held n).map kI
def oof (O : List Se) (n : Int) : Option Se := O.find? fun s => decide (s.n = n)
def OOk (ko : List (Int × Value)) (O : List Se) : Prop := ∀ n, lk ko n = (oof O n).map sAgg
structure MoOk (x : R) (M : Mo) : Prop where
  f : FOk x.Lv x.kf M.V
  s : SOk x.Lh x.ks M.S
  o : OOk x.ko M.O
def mo (a : Nat) (M : Mo) : Asrt := ex fun x : R => all [cel true a 82 [.map (some x.r1), .map (some x.r2), .map (some x.r3), I M.began, I M.now, I M.quota],
  dct kL true x.r1 x.kf, dct kL true x.r2 x.ks, dct kI true x.r3 x.ko, spool vC x.Lv, dpool kL x.Lh, pur (MoOk x M)]
theorem E_mo {a : Nat} {M : Mo} (h : ∀ r1 r2 r3 kf ks ko Lv Lh, FOk Lv kf M.V → SOk Lh ks M.S → OOk ko M.O →
    E B (cel true a 82 [.map (some r1), .map (some r2), .map (some r3), I M.began, I M.now, I M.quota] :: dct kL true r1 kf :: dct kL true r2 ks :: dct kI true r3 ko :: spool vC Lv :: dpool kL Lh :: H) W) : E B (mo a M :: H) W := by
  refine E_ex fun x => E_all ?_
  refine E_find (a := pur (MoOk x M)) (by repeat (first | exact Find.here | apply Find.there)) (E_pur fun hr => ?_)
  exact h x.r1 x.r2 x.r3 x.kf x.ks x.ko x.Lv x.Lh hr.f hr.s hr.o
theorem E_moS {a : Nat} {M : Mo} (r1 r2 r3 : Nat) {b n q : Int} {kf ks : List (List UInt8 × Value)} {ko : List (Int × Value)} {Lv : List (Value × List Ver)} {Lh : List (Nat × List (List UInt8 × Value))}
    (hf : FOk Lv kf M.V) (hs : SOk Lh ks M.S) (ho : OOk ko M.O) (hb : b = M.began := by rfl) (hn : n = M.now := by rfl) (hq : q = M.quota := by rfl) (h : E B (mo a M :: H) W) :
    E B (cel true a 82 [.map (some r1), .map (some r2), .map (some r3), I b, I n, I q] :: dct kL true r1 kf :: dct kL true r2 ks :: dct kI true r3 ko :: spool vC Lv :: dpool kL Lh :: H) W := by
  subst hb hn hq
  refine E_pur' (show MoOk ⟨r1, r2, r3, kf, ks, ko, Lv, Lh⟩ M from ⟨hf, hs, ho⟩) ?_
  have h' := E_all' (E_ex' (f := fun x : R => all [cel true a 82 [.map (some x.r1), .map (some x.r2), .map (some x.r3), I M.began, I M.now, I M.quota],
    dct kL true x.r1 x.kf, dct kL true x.r2 x.ks, dct kI true x.r3 x.ko, spool vC x.Lv, dpool kL x.Lh, pur (MoOk x M)]) ⟨r1, r2, r3, kf, ks, ko, Lv, Lh⟩ h)
  exact E_same (by repeat (first | exact Same.refl | (refine Same.cons (by repeat (first | exact Find.here | apply Find.there)) ?_) | (refine Same.drop ?_))) h'

/-! ### small functions -/
theorem u_pModel : Tryz.prog.underlying 23 = some (.pointer 82) := by kernel_rfl
theorem str_ans : Str Tryz.prog 33 [(0, 1), (1, 1), (2, 1), (3, 1)] [I 0, I 0, .slice none 0 0, .slice none 0 0] := str_of (zv := .agg #[I 0, I 0, .slice none 0 0, .slice none 0 0]) (by kernel_rfl) (by kernel_rfl) rfl
abbrev ans (e n : Int) (b h : Value) : Value := .agg #[I e, I n, b, h]
abbrev nil : Value := .slice none 0 0
theorem wrong [Amb] {e : Int} (h : E B H (K (ans e 0 nil nil))) : E B H (CF Tryz.prog 39 [I e] K) := by
  refine E_mono (W := s39 _ K) ?_ fun _ => c39
  unfold s39
  (repeat first | refine gS ?_ | refine gA fun _ => ?_ | refine gX fun _ _ => ?_ | refine gT ?_ | refine gF ?_ | refine gI ?_)
  refine E_build (l := [I e, I 0, nil, nil]) str_ans ?_
  (repeat first | refine gS ?_ | refine gA fun _ => ?_ | refine gX fun _ _ => ?_ | refine gT ?_ | refine gF ?_ | refine gI ?_)
  exact sm h
theorem rwrong [Amb] {e : Int} (h : E B H (K (ans e 0 nil nil))) : E B H (CF Tryz.prog 28 [I e] K) := by
  refine E_mono (W := s28 _ K) ?_ fun _ => c28
  unfold s28
  (repeat first | refine gS ?_ | refine gA fun _ => ?_ | refine gX fun _ _ => ?_ | refine gT ?_ | refine gF ?_ | refine gI ?_)
  refine E_build (l := [I e, I 0, nil, nil]) str_ans ?_
  (repeat first | refine gS ?_ | refine gA fun _ => ?_ | refine gX fun _ _ => ?_ | refine gT ?_ | refine gF ?_ | refine gI ?_)
  exact sm h
end Go.Proofs.YtabpaknfenpkoaaGreat.Mod
