/-
  How a disk lies in memory; its small methods.
-/
import Derived.Test.YtfholicobkpilaaDiskA
set_option linter.unusedSimpArgs false
set_option linter.unusedVariables false
set_option linter.unusedSectionVars false
namespace Go.Proofs.Ytfholicobkpilaa.Disk
open Go Go.SL Go.Proofs Go.Proofs.Ytfholicobkpilaa.Sh

structure DRep (D : Dk) (vs : List Value) (kv : List (Int × Value)) (L : List (Value × List UInt8)) : Prop where
  len : vs.length = D.S.length
  sur : ∀ (i : Nat) s, D.S[i]? = some s → ∃ v, vs[i]? = some v ∧ CellI v ∧ (v, s.sure) ∈ L
  las : ∀ (i : Nat) s b, D.S[i]? = some s → s.last = some b → ∃ v, kv.lookup (i : Int) = some v ∧ CellI v ∧ (v, b) ∈ L
  nol : ∀ (i : Nat) s, D.S[i]? = some s → s.last = none → kv.lookup (i : Int) = none
  dom : ∀ k ∈ kv.map (·.1), ∃ (i : Nat) (s : Sec), k = (i : Int) ∧ D.S[i]? = some s
  nod : (kv.map (·.1)).Nodup
  ok : D.Ok
structure DW where
  sv : Value
  m : Nat
  vs : List Value
  kv : List (Int × Value)
  L : List (Value × List UInt8)
/-- The disk D at a. -/
def disk (a : Nat) (D : Dk) : Asrt := ex fun (x : DW) => all [cel true a 86 [x.sv, .map (some x.m), I D.trip, .bool D.down, I D.life],
  osl 32 1 x.sv D.S.length x.vs, dct kI true x.m x.kv, ros x.L, pur (DRep D x.vs x.kv x.L)]

variable {B : World} {H : List Asrt} {K : Value → WT} {W : WT}
theorem E_disk {a : Nat} {D : Dk} (h : ∀ b cap m vs sp kv L, DRep D vs kv L → D.S.length ≤ cap → sp.length = cap - D.S.length →
    E B (cel true a 86 [.slice (some ⟨b, 0, none⟩) D.S.length cap, .map (some m), I D.trip, .bool D.down, I D.life] :: cel true b 32 (vs ++ sp) :: dct kI true m kv :: ros L :: H) W) : E B (disk a D :: H) W := by
  refine E_ex fun x => E_all ?_
  refine E_find (a := pur (DRep D x.vs x.kv x.L)) (by repeat (first | exact Find.here | apply Find.there)) (E_pur fun hr => ?_)
  refine E_find (a := osl 32 1 x.sv D.S.length x.vs) (by repeat (first | exact Find.here | apply Find.there)) (E_oslo hr.ok.n1 fun b cap sp hv hle hxl hsl => ?_)
  rw [hv]
  exact E_same (by repeat (first | exact Same.refl | (refine Same.cons (by repeat (first | exact Find.here | apply Find.there)) ?_) | (refine Same.drop ?_))) (h b cap x.m x.vs sp x.kv x.L hr hle (by simpa using hsl))
theorem E_disks {a b cap m : Nat} {n : Nat} {D : Dk} {vs sp : List Value} {kv : List (Int × Value)} {L : List (Value × List UInt8)} {tr li : Int} {dn : Bool} (hr : DRep D vs kv L) (hle : n ≤ cap) (hsl : sp.length = cap - n)
    (hn : n = D.S.length) (h1 : tr = D.trip) (h2 : dn = D.down) (h3 : li = D.life)
    (h : E B (disk a D :: H) W) : E B (cel true a 86 [.slice (some ⟨b, 0, none⟩) n cap, .map (some m), I tr, .bool dn, I li] :: cel true b 32 (vs ++ sp) :: dct kI true m kv :: ros L :: H) W := by
  subst hn h1 h2 h3
  refine E_find (a := cel true b 32 (vs ++ sp)) (by repeat (first | exact Find.here | apply Find.there)) (E_osls (n := D.S.length) (cap := cap) (sz := 1) hle (by rw [hr.len]; simp) (by simpa using hsl) ?_)
  refine E_pur' hr ?_
  have h' := E_all' (E_ex' (f := fun (x : DW) => all [cel true a 86 [x.sv, .map (some x.m), I D.trip, .bool D.down, I D.life],
    osl 32 1 x.sv D.S.length x.vs, dct kI true x.m x.kv, ros x.L, pur (DRep D x.vs x.kv x.L)]) ⟨.slice (some ⟨b, 0, none⟩) D.S.length cap, m, vs, kv, L⟩ h)
  exact E_same (by repeat (first | exact Same.refl | (refine Same.cons (by repeat (first | exact Find.here | apply Find.there)) ?_) | (refine Same.drop ?_))) h'
theorem E_dkok {a : Nat} {D : Dk} (h : D.Ok → E B (disk a D :: H) W) : E B (disk a D :: H) W :=
  E_disk fun b cap m vs sp kv L hr hle hsl => E_disks hr hle hsl rfl rfl rfl rfl (h hr.ok)
end Go.Proofs.Ytfholicobkpilaa.Disk
