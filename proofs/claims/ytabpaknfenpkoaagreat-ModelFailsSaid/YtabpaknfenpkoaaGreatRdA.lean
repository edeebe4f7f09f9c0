/-
  Model: the document's, on the heap.
-/
import Derived.Test.YtabpaknfenpkoaaGreatModR
set_option linter.unusedSimpArgs false
set_option linter.unusedVariables false
set_option linter.unusedSectionVars false
namespace Go.Proofs.YtabpaknfenpkoaaGreat.Mod
open Go Go.SL Go.Proofs Go.Proofs.YtabpaknfenpkoaaGreat.Sh
variable {B : World} {H : List Asrt} {K : Value → WT} {W : WT}
variable {a : Nat} {M : Mo} {o : Od} {bv kv : Value} {t u : Int}
def rvC (v : Ver) : List Value := [str v.name, I v.gen, I v.time, str v.text, .bool v.gone]
instance : Enc rvC 5 := ⟨fun _ => rfl, fun _ y hy => by simp [rvC] at hy; rcases hy with rfl | rfl | rfl | rfl | rfl <;> rfl⟩
instance {v : Ver} : AtLen (rvC v) 5 := ⟨rfl⟩
instance {v : Ver} : AtI (rvC v) 0 (str v.name) := ⟨rfl⟩
instance {v : Ver} : AtI (rvC v) 1 (I v.gen) := ⟨rfl⟩
instance {v : Ver} : AtI (rvC v) 2 (I v.time) := ⟨rfl⟩
instance {v : Ver} : AtI (rvC v) 3 (str v.text) := ⟨rfl⟩
instance {v : Ver} : AtI (rvC v) 4 (.bool v.gone) := ⟨rfl⟩
abbrev Cv := { v : Value // isCell v = true }
instance {v : Cv} : CellI v.1 := ⟨v.2⟩
def rsC (p : List UInt8 × Cv) : List Value := [str p.1, p.2.1]
instance : Enc rsC 2 := ⟨fun _ => rfl, fun p y hy => by
  simp [rsC] at hy
  rcases hy with rfl | rfl
  · rfl
  · exact p.2.2⟩
instance {p : List UInt8 × Cv} : AtLen (rsC p) 2 := ⟨rfl⟩
instance {p : List UInt8 × Cv} : AtI (rsC p) 0 (str p.1) := ⟨rfl⟩
instance {p : List UInt8 × Cv} : AtI (rsC p) 1 p.2.1 := ⟨rfl⟩
def roC (s : Se) : List Value := [I s.n, str s.name, str s.text]
instance : Enc roC 3 := ⟨fun _ => rfl, fun _ y hy => by simp [roC] at hy; rcases hy with rfl | rfl | rfl <;> rfl⟩
instance {s : Se} : AtLen (roC s) 3 := ⟨rfl⟩
instance {s : Se} : AtI (roC s) 0 (I s.n) := ⟨rfl⟩
instance {s : Se} : AtI (roC s) 1 (str s.name) := ⟨rfl⟩
instance {s : Se} : AtI (roC s) 2 (str s.text) := ⟨rfl⟩
structure RR where
  vs : Value
  ss : Value
  os : Value
  Lv : List (Value × List Ver)
  Ls : List (Value × List (List UInt8 × Cv))
  Lo : List (Value × List Se)
  Lh : List (Value × List (List UInt8 × Int))
  SS : List (List UInt8 × Cv)
structure RmoOk (x : RR) (M : Mo) : Prop where
  v : (x.vs, M.V) ∈ x.Lv
  s : (x.ss, x.SS) ∈ x.Ls
  o : (x.os, M.O) ∈ x.Lo
  sl : x.SS.length = M.S.length
  sh : ∀ (i : Nat) (p : List UInt8 × Cv) (s : Sn), x.SS[i]? = some p → M.S[i]? = some s → p.1 = s.name ∧ (p.2.1, s.held) ∈ x.Lh
def rmo (a : Nat) (M : Mo) : Asrt := ex fun x : RR => all [cel true a 70 [x.vs, x.ss, x.os, I M.began, I M.now, I M.quota], spool rvC x.Lv, spool rsC x.Ls, spool roC x.Lo, spool hC x.Lh, pur (RmoOk x M)]
theorem E_rmo (h : ∀ vs ss os Lv Ls Lo Lh SS [CellI vs] [CellI ss] [CellI os], (vs, M.V) ∈ Lv → (ss, SS) ∈ Ls → (os, M.O) ∈ Lo → SS.length = M.S.length → (∀ (i : Nat) p s, SS[i]? = some p → M.S[i]? = some s → p.1 = s.name ∧ (p.2.1, s.held) ∈ Lh) →
    E B (cel true a 70 [vs, ss, os, I M.began, I M.now, I M.quota] :: spool rvC Lv :: spool rsC Ls :: spool roC Lo :: spool hC Lh :: H) W) : E B (rmo a M :: H) W := by
  refine E_ex fun x => E_all ?_
  refine E_find (a := pur (RmoOk x M)) (by repeat (first | exact Find.here | apply Find.there)) (E_pur fun hr => ?_)
  refine fd (a := spool rvC x.Lv) (slQ_cell hr.v fun h1 => ?_)
  refine fd (a := spool rsC x.Ls) (slQ_cell hr.s fun h2 => ?_)
  refine fd (a := spool roC x.Lo) (slQ_cell hr.o fun h3 => ?_)
  haveI : CellI x.vs := ⟨h1⟩
  haveI : CellI x.ss := ⟨h2⟩
  haveI : CellI x.os := ⟨h3⟩
  exact E_same (by repeat (first | exact Same.refl | (refine Same.cons (by repeat (first | exact Find.here | apply Find.there)) ?_) | (refine Same.drop ?_))) (h x.vs x.ss x.os x.Lv x.Ls x.Lo x.Lh x.SS hr.v hr.s hr.o hr.sl hr.sh)
theorem E_rmoS (vs ss os : Value) {b n q : Int} {Lv : List (Value × List Ver)} {Ls : List (Value × List (List UInt8 × Cv))} {Lo : List (Value × List Se)} {Lh : List (Value × List (List UInt8 × Int))} {SS : List (List UInt8 × Cv)}
    (iV : (vs, M.V) ∈ Lv) (iS : (ss, SS) ∈ Ls) (iO : (os, M.O) ∈ Lo) (hsl : SS.length = M.S.length) (hsh : ∀ (i : Nat) p s, SS[i]? = some p → M.S[i]? = some s → p.1 = s.name ∧ (p.2.1, s.held) ∈ Lh)
    (hb : b = M.began := by rfl) (hn : n = M.now := by rfl) (hq : q = M.quota := by rfl) (h : E B (rmo a M :: H) W) : E B (cel true a 70 [vs, ss, os, I b, I n, I q] :: spool rvC Lv :: spool rsC Ls :: spool roC Lo :: spool hC Lh :: H) W := by
  subst hb hn hq
  refine E_pur' (show RmoOk ⟨vs, ss, os, Lv, Ls, Lo, Lh, SS⟩ M from ⟨iV, iS, iO, hsl, hsh⟩) ?_
  have h' := E_all' (E_ex' (f := fun x : RR => all [cel true a 70 [x.vs, x.ss, x.os, I M.began, I M.now, I M.quota], spool rvC x.Lv, spool rsC x.Ls, spool roC x.Lo, spool hC x.Lh, pur (RmoOk x M)]) ⟨vs, ss, os, Lv, Ls, Lo, Lh, SS⟩ h)
  exact E_same (by repeat (first | exact Same.refl | (refine Same.cons (by repeat (first | exact Find.here | apply Find.there)) ?_) | (refine Same.drop ?_))) h'
theorem u_rvers : Tryz.prog.underlying 66 = some (.slice 102) := by kernel_rfl
theorem u_rshots : Tryz.prog.underlying 67 = some (.slice 104) := by kernel_rfl
theorem u_rsess : Tryz.prog.underlying 68 = some (.slice 72) := by kernel_rfl
theorem elt_rver : Elt Tryz.prog 102 5 56 [.string ⟨#[]⟩, I 0, I 0, .string ⟨#[]⟩, .bool false] := elt_of (zv := .agg #[.string ⟨#[]⟩, I 0, I 0, .string ⟨#[]⟩, .bool false]) (by kernel_rfl) rfl rfl
theorem elt_rshot : Elt Tryz.prog 104 2 40 [.string ⟨#[]⟩, .slice none 0 0] := elt_of (zv := .agg #[.string ⟨#[]⟩, .slice none 0 0]) (by kernel_rfl) rfl rfl
theorem elt_rses : Elt Tryz.prog 72 3 40 [I 0, .string ⟨#[]⟩, .string ⟨#[]⟩] := elt_of (zv := .agg #[I 0, .string ⟨#[]⟩, .string ⟨#[]⟩]) (by kernel_rfl) rfl rfl
theorem str_rver : Str Tryz.prog 102 [(0, 1), (1, 1), (2, 1), (3, 1), (4, 1)] [.string ⟨#[]⟩, I 0, I 0, .string ⟨#[]⟩, .bool false] := str_of (zv := .agg #[.string ⟨#[]⟩, I 0, I 0, .string ⟨#[]⟩, .bool false]) (by kernel_rfl) (by kernel_rfl) rfl
theorem str_rshot : Str Tryz.prog 104 [(0, 1), (1, 1)] [.string ⟨#[]⟩, .slice none 0 0] := str_of (zv := .agg #[.string ⟨#[]⟩, .slice none 0 0]) (by kernel_rfl) (by kernel_rfl) rfl
theorem str_rses : Str Tryz.prog 72 [(0, 1), (1, 1), (2, 1)] [I 0, .string ⟨#[]⟩, .string ⟨#[]⟩] := str_of (zv := .agg #[I 0, .string ⟨#[]⟩, .string ⟨#[]⟩]) (by kernel_rfl) (by kernel_rfl) rfl
theorem str_rmodel : Str Tryz.prog 70 [(0, 1), (1, 1), (2, 1), (3, 1), (4, 1), (5, 1)] [.slice none 0 0, .slice none 0 0, .slice none 0 0, I 0, I 0, I 0] := str_of (zv := .agg #[.slice none 0 0, .slice none 0 0, .slice none 0 0, I 0, I 0, I 0]) (by kernel_rfl) (by kernel_rfl) rfl
attribute [local irreducible] S.pick S.ld S.ldN S.st S.box S.nc S.fad S.ixS S.ixA S.chr S.prt S.ext S.bin S.sh S.sbin S.beq S.neg1 S.com1 S.not1 S.cvt S.str1 S.lenS S.len S.cap S.lenM S.mx S.mn S.mkM S.cond S.gd S.fa S.dr S.rck S.join S.loop S.cvv S.eqv S.slc S.slcS S.b2s S.lk V U CF Gives E cel mpb osl ros dct dit itr lpo dfo
set_option maxRecDepth 4000
attribute [local irreducible] mo ansH rmo
/-- Where a live generation stands in all. -/
def findP (n : List UInt8) (g : Int) (v : Ver) : Bool := decide (v.name = n) && liveP g v
theorem lastIdx_take {α : Type} {p : α → Bool} {l : List α} {i : Nat} {x : α} (hx : l[i]? = some x) : lastIdx p (l.take (i + 1)) = if p x then some i else lastIdx p (l.take i) := by
  rw [List.take_add_one, hx]
  show lastIdx p (l.take i ++ [x]) = _
  rw [lastIdx_snoc, List.length_take, Nat.min_eq_left (by have := (List.getElem?_eq_some_iff.1 hx).1; omega)]
theorem rfind {n : List UInt8} {g : Int} (hn : M.V.length ≤ 1000000) (h : E B (rmo a M :: H) (K (I (idxI (lastIdx (findP n g) M.V))))) : E B (rmo a M :: H) (CF Tryz.prog 34 [ptr a, str n, I g] K) := by
  refine E_rmo fun vs ss os Lv Ls Lo Lh SS iv is io iV iS iO hsl hsh => ?_
  have hend := E_rmoS vs ss os (SS := SS) iV iS iO hsl hsh rfl rfl rfl h
  have rV := rs_pool (B := B) (enc := rvC) iV
  refine E_mono (W := s34 _ _ _ K) ?_ fun _ => c34
  unfold s34
  refine E_loop (σ := Nat) (fun i => i ≤ M.V.length) (fun i => [ptr a, str n, I g, I (idxI (lastIdx (findP n g) (M.V.take i))), I i]) (fun _ => cel true a 70 [vs, ss, os, I M.began, I M.now, I M.quota] :: spool rvC Lv :: spool rsC Ls :: spool roC Lo :: spool hC Lh :: H) (fun i => M.V.length - i) 0 (fun _ => rfl) rfl (Nat.zero_le _) (fun W hW => hW) ?_
  intro i K0 hi hk
  refine E_fa fun _ => ?_
  (repeat first | refine gS ?_ | refine gA fun _ => ?_ | refine gX fun _ _ => ?_ | refine gT ?_ | refine gF ?_ | refine gI ?_)
  refine E_if (fun hc => ?_) (fun hc => ?_)
  · have hx : M.V[i]? = some M.V[i] := List.getElem?_eq_getElem (by omega)
    generalize M.V[i] = x at hx
    have hst := lastIdx_take (p := findP n g) hx
    refine E_join1 [ptr a, str n, I g, I (idxI (lastIdx (findP n g) (M.V.take (i + 1)))), I i] (cel true a 70 [vs, ss, os, I M.began, I M.now, I M.quota] :: spool rvC Lv :: spool rsC Ls :: spool roC Lo :: spool hC Lh :: H) (fun q hq => ?_) ?_
    · refine E_join1 [ptr a, str n, I g, I (idxI (lastIdx (findP n g) (M.V.take i))), I i, .bool (findP n g x)] (cel true a 70 [vs, ss, os, I M.began, I M.now, I M.quota] :: spool rvC Lv :: spool rsC Ls :: spool roC Lo :: spool hC Lh :: H) (fun q' hq' => ?_) ?_
      · have fin : ∀ b : Bool, findP n g x = b → E B (cel true a 70 [vs, ss, os, I M.began, I M.now, I M.quota] :: spool rvC Lv :: spool rsC Ls :: spool roC Lo :: spool hC Lh :: H) (app 6 q' [ptr a, str n, I g, I (idxI (lastIdx (findP n g) (M.V.take i))), I i, .bool b]) := fun b hb => hb ▸ hq'
        (repeat first | refine gS ?_ | refine gA fun _ => ?_ | refine gX fun _ _ => ?_ | refine gT ?_ | refine gF ?_ | refine gI ?_)
        by_cases h1 : x.name = n
        · rw [decide_eq_true h1]
          (repeat first | refine gS ?_ | refine gA fun _ => ?_ | refine gX fun _ _ => ?_ | refine gT ?_ | refine gF ?_ | refine gI ?_)
          cases hgo : x.gone with
          | true =>
            (repeat first | refine gS ?_ | refine gA fun _ => ?_ | refine gX fun _ _ => ?_ | refine gT ?_ | refine gF ?_ | refine gI ?_)
            exact fin false (by simp [findP, liveP, hgo])
          | false =>
            (repeat first | refine gS ?_ | refine gA fun _ => ?_ | refine gX fun _ _ => ?_ | refine gT ?_ | refine gF ?_ | refine gI ?_)
            by_cases h0 : g = 0
            · (repeat first | refine gS ?_ | refine gA fun _ => ?_ | refine gX fun _ _ => ?_ | refine gT ?_ | refine gF ?_ | refine gI ?_)
              exact fin true (by simp [findP, liveP, hgo, h1, h0])
            · (repeat first | refine gS ?_ | refine gA fun _ => ?_ | refine gX fun _ _ => ?_ | refine gT ?_ | refine gF ?_ | refine gI ?_)
              refine fin _ ?_
              simp [findP, liveP, hgo, h1, h0]
        · rw [decide_eq_false h1]
          (repeat first | refine gS ?_ | refine gA fun _ => ?_ | refine gX fun _ _ => ?_ | refine gT ?_ | refine gF ?_ | refine gI ?_)
          exact fin false (by simp [findP, h1])
      · refine E_fa fun _ => ?_
        cases hp : findP n g x with
        | true =>
          rw [hst, if_pos hp] at hq
          (repeat first | refine gS ?_ | refine gA fun _ => ?_ | refine gX fun _ _ => ?_ | refine gT ?_ | refine gF ?_ | refine gI ?_)
          exact hq
        | false =>
          rw [hst, if_neg (by simp [hp])] at hq
          (repeat first | refine gS ?_ | refine gA fun _ => ?_ | refine gX fun _ _ => ?_ | refine gT ?_ | refine gF ?_ | refine gI ?_)
          exact hq
    · refine E_fa fun _ => ?_
      refine E_addI (by omega) (by omega) ?_
      exact hk (i + 1) (by omega) (by omega)
  · have hie : i = M.V.length := by omega
    subst hie
    rw [List.take_length]
    exact hend
def fstIdx (O : List Se) (n : Int) : Option Nat := O.findIdx? fun s => decide (s.n = n)
theorem rsession {n : Int} (hl : M.O.length ≤ 1000000) (h : E B (rmo a M :: H) (K (I (idxI (fstIdx M.O n))))) : E B (rmo a M :: H) (CF Tryz.prog 31 [ptr a, I n] K) := by
  refine E_rmo fun vs ss os Lv Ls Lo Lh SS iv is io iV iS iO hsl hsh => ?_
  have hend := E_rmoS vs ss os (SS := SS) iV iS iO hsl hsh rfl rfl rfl h
  have rO := rs_pool (B := B) (enc := roC) iO
  refine E_mono (W := s31 _ _ K) ?_ fun _ => c31
  unfold s31
  refine E_loop (σ := Nat) (fun i => i ≤ M.O.length ∧ ∀ x ∈ M.O.take i, ¬ x.n = n) (fun i => [ptr a, I n, I i]) (fun _ => cel true a 70 [vs, ss, os, I M.began, I M.now, I M.quota] :: spool rvC Lv :: spool rsC Ls :: spool roC Lo :: spool hC Lh :: H) (fun i => M.O.length - i) 0 (fun _ => rfl) rfl ⟨Nat.zero_le _, by simp⟩ (fun W hW => hW) ?_
  rintro i K0 ⟨hi, ha⟩ hk
  refine E_fa fun _ => ?_
  (repeat first | refine gS ?_ | refine gA fun _ => ?_ | refine gX fun _ _ => ?_ | refine gT ?_ | refine gF ?_ | refine gI ?_)
  refine E_if (fun hc => ?_) (fun hc => ?_)
  · have hx : M.O[i]? = some M.O[i] := List.getElem?_eq_getElem (by omega)
    generalize M.O[i] = x at hx
    (repeat first | refine gS ?_ | refine gA fun _ => ?_ | refine gX fun _ _ => ?_ | refine gT ?_ | refine gF ?_ | refine gI ?_)
    refine E_if (fun hc2 => ?_) (fun hc2 => ?_)
    · have e : fstIdx M.O n = some i := by
        unfold fstIdx
        rw [List.findIdx?_eq_some_iff_getElem]
        obtain ⟨hlt, hxe⟩ := List.getElem?_eq_some_iff.1 hx
        refine ⟨hlt, by rw [hxe]; simpa using hc2, fun j hj => ?_⟩
        have := ha M.O[j] (List.mem_take_iff_getElem.2 ⟨j, by omega, rfl⟩)
        simpa using this
      rw [e] at hend
      exact hend
    · refine E_addI (by omega) (by omega) ?_
      refine hk (i + 1) ⟨by omega, fun y hy => ?_⟩ (by omega)
      rw [List.take_add_one, hx] at hy
      rcases List.mem_append.1 hy with hy | hy
      · exact ha y hy
      · simp at hy; subst hy; exact hc2
  · have hie : i = M.O.length := by omega
    subst hie
    rw [List.take_length] at ha
    have e : fstIdx M.O n = none := by
      unfold fstIdx
      rw [List.findIdx?_eq_none_iff]
      intro x hx
      simpa using ha x hx
    rw [e] at hend
    exact hend
end Go.Proofs.YtabpaknfenpkoaaGreat.Mod
