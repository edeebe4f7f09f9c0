/-
  The shallow form of an operation, and that it says what the model's operation does.
-/
import Derived.Test.YtfholicobkpilaaSlPrim
set_option linter.unusedSimpArgs false
set_option linter.unusedVariables false
set_option linter.unusedSectionVars false
namespace Go.SL
open Go.RowKit

abbrev Env := Nat → Value
def ev (n : Nat) (e : Env) : Operand → Value
  | .tmp t => match Nat.blt t n with | true => e t | false => undef
  | .const v => v
  | .global g => .pointer (some ⟨g, 0, none⟩)
  | .func f => .func (.func f) #[] #[]
def upd (n : Nat) (e : Env) (d : Option Tmp) (v : Value) : Env := match d with
  | none => e
  | some d => match Nat.blt d n with
    | true => fun k => match Nat.beq k d with | true => v | false => e k
    | false => e
def callOk (P : Program) (f : FuncId) : Bool := match P.funcs[f]? with
  | some fn => fn.body.isSome && !(fn.name == "runtime.NumGoroutine")
  | none => false
def nope : WT := fun _ => False

namespace S
def cvv (P : Program) (f : Value) (args : List Value) (K : Value → WT) : WT := match f with
  | .func (.func g) first captured => fun w => callOk P g = true ∧ CF P g (first.toList ++ args ++ captured.toList) K w
  | .func fn first captured => Gives P (invoke (.fn fn captured) (first ++ args.toArray)) K
  | _ => nope
def cOp : Bool → Operand
  | true => .const undef
  | false => .tmp 0
def eqS (op : BinOp) (t : TypeId) (c : Bool) (x y : Value) : Sem Value := do
  eqGuard op t (cOp c) (.tmp 0) x y
  binOp op t x y
def eqv (P : Program) (op : BinOp) (t : TypeId) (c : Bool) (x y : Value) (K : Value → WT) : WT := V P (eqS op t c x y) K
def bound (v : Option Value) (d : Nat) : Option Nat := match v with
  | none => some d
  | some (.int _ n) => match decide (0 ≤ n) with | true => some n.toNat | false => none
  | some _ => none
def slc (sz : Nat) (x : Value) (lo hi mx : Option Value) (K : Value → WT) : WT := fun w => match x with
  | .slice a len cap => ∃ l h m, bound mx cap = some m ∧ bound hi len = some h ∧ bound lo 0 = some l ∧ l ≤ h ∧ h ≤ m ∧ m ≤ cap ∧ (mx.isSome = true → hi.isSome = true) ∧
      K (.slice (if m = l then a else a.map (·.add (l * sz))) (h - l) (m - l)) w
  | _ => False
/-- Bytes read as a string. -/
def bytesOf : List Value → ByteArray → Option ByteArray
  | [], s => some s
  | .int .u8 n :: l, s => bytesOf l (s.push (UInt8.ofNat n.toNat))
  | _, _ => none
def b2s (x : Value) (K : Value → WT) : WT := fun w => match x with
  | .slice none _ _ => K (.string .empty) w
  | .slice (some a) len _ => match cellsFrom w a 0 len with
    | some cs => match bytesOf cs .empty with
      | some s => K (.string s) w
      | none => False
    | none => False
  | _ => False
/-- A map is asked, whose keys are integers or strings. -/
def lk (kd : TypeDesc) (z : Value) (ok : Bool) (m k : Value) (K : Value → WT) : WT := fun w => match m with
  | .map none => K (match ok with | true => .tuple #[z, .bool false] | false => z) w
  | .map (some r) => match w.heap[r]? with
    | some (.map es _) => match Instr.findNow kd k es.toList 0 with
      | some (some (_, v)) => K (match ok with | true => .tuple #[v, .bool true] | false => v) w
      | some none => K (match ok with | true => .tuple #[z, .bool false] | false => z) w
      | none => False
    | _ => False
  | _ => False
def slcS (x : Value) (lo hi : Option Value) (K : Value → WT) : WT := fun w => match x with
  | .string s => ∃ l h, bound hi s.size = some h ∧ bound lo 0 = some l ∧ l ≤ h ∧ h ≤ s.size ∧ K (.string (s.extract l h)) w
  | _ => False
end S

def isC : Operand → Bool
  | .const _ => true
  | _ => false
def bi (P : Program) (b : Builtin) (argTypes : Array TypeId) (type : TypeId) (args : List Value) (K : Value → WT) : WT := match b with
  | .len => match args with
    | [x] => match argTypes[0]? with
      | some t => match P.underlying t with
        | some .string => S.lenS x K
        | some (.slice _) => S.len x K
        | some (.map _ _) => S.lenM x K
        | _ => nope
      | none => nope
    | _ => nope
  | .cap => match args with
    | [x] => match argTypes[0]? with
      | some t => match P.underlying t with
        | some (.slice _) => S.cap x K
        | _ => nope
      | none => nope
    | _ => nope
  | .max => match args with | [x, y] => S.mx x y K | _ => nope
  | .min => match args with | [x, y] => S.mn x y K | _ => nope
  | .append => V P (Builtin.append_ argTypes type args.toArray) K
  | .copy => V P (Builtin.copy_ argTypes type args.toArray) K
  | .delete => V P (Builtin.delete_ argTypes type args.toArray) K
  | .clear => V P (Builtin.clear_ argTypes type args.toArray) K
  | _ => nope

def opK (P : Program) (ρ : Operand → Value) (o : Oper) (K : Value → WT) : WT := match o.op with
  | .move x => K (ρ x)
  | .assign x => K (ρ x)
  | .pick c a b => S.pick (ρ c) (ρ a) (ρ b) K
  | .alloc T => match P.info? T with
    | some { zero := some z, .. } => S.box T z K
    | _ => nope
  | .box T x => S.box T (ρ x) K
  | .build t parts => V P (Instr.build t (parts.toList.map fun p => (p.1, ρ p.2)).toArray) K
  | .buildSlice t n parts => V P (Instr.buildSlice t n (parts.toList.map fun p => (p.1, ρ p.2)).toArray) K
  | .load t a => match P.info? t with
    | some i => match P.underlying t with
      | some (.struct _) | some (.array _ _) => S.ldN i.size (ρ a) K
      | some _ => S.ld (ρ a) K
      | none => nope
    | none => nope
  | .store t a x => match P.info? t with
    | some i => S.st i.size (ρ a) (ρ x) K
    | none => nope
  | .nilCheck x => S.nc (ρ x) K
  | .binOp op t x y _ => match P.underlying t with
    | some (.int _) => match op with
      | .shl => S.sh op (ρ x) (ρ y) K
      | .shr => S.sh op (ρ x) (ρ y) K
      | _ => S.bin op (ρ x) (ρ y) K
    | some .string => S.sbin op (ρ x) (ρ y) K
    | some .bool => S.beq op (ρ x) (ρ y) K
    | _ => S.eqv P op t (isC x || isC y) (ρ x) (ρ y) K
  | .unOp op _ x => match op with
    | .neg => S.neg1 (ρ x) K
    | .xor => S.com1 (ρ x) K
    | .not => S.not1 (ρ x) K
    | _ => nope
  | .convert src dst x => match P.underlying src, P.underlying dst with
    | some (.int _), some (.int k) => S.cvt k (ρ x) K
    | some .string, some .string => S.str1 (ρ x) K
    | some (.slice el), some .string => match P.underlying el with
      | some (.int .u8) => S.b2s (ρ x) K
      | _ => V P (convert src dst (ρ x)) K
    | _, _ => V P (convert src dst (ρ x)) K
  | .makeInterface t x => match P.underlying t with
    | some (.interface _) => nope
    | some _ => K (.iface t (ρ x))
    | none => nope
  | .makeFunc fn first captured => K (.func fn (first.toList.map ρ).toArray (captured.toList.map ρ).toArray)
  | .makeMap t r => match r with
    | none => S.mkM K
    | some _ => match P.underlying t with
      | some (.map _ _) => match r.map ρ with
        | some (.int _ _) => S.mkM K
        | _ => nope
      | _ => nope
  | .makeSlice t l c => V P (Instr.makeSlice t (ρ l) (ρ c)) K
  | .slice t x lo hi mx => match P.underlying t with
    | some (.slice el) => match P.info? el with
      | some i => S.slc i.size (ρ x) (lo.map ρ) (hi.map ρ) (mx.map ρ) K
      | none => nope
    | some .string => match mx with
      | none => S.slcS (ρ x) (lo.map ρ) (hi.map ρ) K
      | some _ => nope
    | _ => V P (Instr.sliceAt t (ρ x) (lo.map ρ) (hi.map ρ) (mx.map ρ)) K
  | .fieldAddr s x f => match P.underlying s with
    | some (.struct fs) => match fs[f]? with
      | some fd => match P.info? fd.type with
        | some i => match i.size with
          | 0 => nope
          | _ + 1 => S.fad (ρ x) fd.offset K
        | none => nope
      | none => nope
    | _ => nope
  | .field t x f => match P.underlying t with
    | some (.struct fs) => match fs[f]? with
      | some fd => match P.info? fd.type with
        | some i => match P.underlying fd.type with
          | some (.struct _) | some (.array _ _) => S.prt true fd.offset i.size (ρ x) K
          | some _ => S.prt false fd.offset i.size (ρ x) K
          | none => nope
        | none => nope
      | none => nope
    | _ => nope
  | .indexAddr t x i => match P.underlying t with
    | some (.slice el) => match P.info? el with
      | some j => S.ixS j.size (ρ x) (ρ i) K
      | none => nope
    | some (.array len el) => match P.info? el with
      | some j => S.ixA len j.size (ρ x) (ρ i) K
      | none => nope
    | _ => nope
  | .index t x i => match P.underlying t with
    | some .string => S.chr (ρ x) (ρ i) K
    | _ => V P (Instr.index t (ρ x) (ρ i)) K
  | .lookup t x i ok => match P.underlying t with
    | some (.map k el) => match P.underlying k with
      | some (.int kk) => match P.info? el with
        | some { zero := some z, .. } => S.lk (.int kk) z ok (ρ x) (ρ i) K
        | _ => nope
      | some .string => match P.info? el with
        | some { zero := some z, .. } => S.lk .string z ok (ρ x) (ρ i) K
        | _ => nope
      | _ => V P (Instr.lookup t (ρ x) (ρ i) ok) K
    | _ => nope
  | .mapUpdate t m k x => U P (Instr.mapUpdate t (ρ m) (ρ k) (ρ x)) K
  | .insert t m k x => U P (Instr.mapUpdate t (ρ m) (ρ k) (ρ x)) K
  | .mapEntry t m k => V P (Instr.mapEntry t (ρ m) (ρ k)) K
  | .entryStore t m s x => U P (Instr.entryStore t (ρ m) (ρ s) (ρ x)) K
  | .range t x => V P (Instr.range t (ρ x)) K
  | .next it isString => V P (Instr.next (ρ it) isString o.type) K
  | .entry it => V P (Instr.entry (ρ it)) K
  | .typeAssert x t u ok => V P (Instr.typeAssert (ρ x) t u ok) K
  | .extract t i => S.ext (ρ t) i K
  | .call c => match c.callee with
    | .builtin b => bi P b c.argTypes o.type (c.args.toList.map ρ) K
    | .value (.func f) => match callOk P f with
      | true => CF P f (c.args.toList.map ρ) K
      | false => Gives P (callFunc f (c.args.toList.map ρ).toArray) K
    | .value x => S.cvv P (ρ x) (c.args.toList.map ρ) K
    | .invoke r name => Gives P (invoke (.fn (.method name) #[]) ((ρ r) :: c.args.toList.map ρ).toArray) K
  | _ => nope

/-! ### soundness, operation by operation -/
theorem amap (xs : Array Operand) (f : Operand → Value) : xs.map f = (xs.toList.map f).toArray := by cases xs; simp
theorem amapP (xs : Array (Nat × Operand)) (f : Operand → Value) : (xs.map fun (i, x) => (i, f x)) = (xs.toList.map fun p => (p.1, f p.2)).toArray := by cases xs; simp

theorem run_bind {P : Program} {α β : Type} (s : Sem α) (f : α → Sem β) (w : World) :
    (s >>= f).run P w = match s.run P w with | .ok a w' => (f a).run P w' | .halt h w' => .halt h w' := by
  show (Sem.bind s f).run P w = _
  induction s generalizing w with
  | pure a => rfl
  | load m a k ih => simp only [Sem.bind, Sem.run]; split; · exact ih _ _
                     · split; · exact ih _ _
                       · rfl
  | store m a v k ih =>
    simp only [Sem.bind]
    cases v <;> simp only [Sem.run] <;> cases w.cell? a <;> simp only <;> (try cases hf : w.frozen? a) <;> (try simp only [if_true, if_false, Bool.false_eq_true, ih]) <;> (try (cases w.farStore P a _ _ <;> simp only [ih]))
  | new o k ih => exact ih _ _
  | shape r k ih => exact ih _ _
  | freeze a n k ih => exact ih _
  | frozen a k ih => exact ih _ _
  | getObj r k ih => simp only [Sem.bind, Sem.run]; split; · rfl
                     · exact ih _ _
                     · rfl
  | setObj r o k ih => simp only [Sem.bind, Sem.run]; split; · rfl
                       · exact ih _
                       · rfl
  | choose q k ih => simp only [Sem.bind, Sem.run]; split <;> exact ih _ _
  | sys c k ih => exact ih _ _
  | program k ih => exact ih _ _
  | mark m k ih => exact ih _
  | halt h => rfl
theorem run_pure {P : Program} {α : Type} (a : α) (w : World) : (pure a : Sem α).run P w = .ok a w := rfl

theorem gives_V {P : Program} {s : Sem Value} {K : Value → WT} {w : World} (h : V P s K w) : Gives P (do pure (.value (← s))) K w := by
  unfold V at h; unfold Gives
  rw [run_bind]
  split at h
  · rename_i h'; simp only [h', run_pure]; exact h
  · exact h.elim
theorem gives_U {P : Program} {s : Sem Unit} {K : Value → WT} {w : World} (h : U P s K w) : Gives P (do s; pure .skip) K w := by
  unfold U at h; unfold Gives
  rw [run_bind]
  split at h
  · rename_i h'; simp only [h', run_pure]; exact h
  · exact h.elim
/-- A value that is at hand, in the same world. -/
theorem gives_ok {P : Program} {s : Sem Value} {K : Value → WT} {w w' : World} {v : Value} (hr : s.run P w = .ok v w') (h : K v w') : Gives P (do pure (.value (← s))) K w :=
  gives_V (by unfold V; rw [hr]; exact h)

theorem run_underlying' {P : Program} {t : TypeId} {d : TypeDesc} {w : World} (h : P.underlying t = some d) : (underlying t).run P w = .ok d w := by
  unfold underlying; rw [run_bind]; show (match P.underlying t with | some d => (pure d : Sem TypeDesc) | none => _).run P w = _
  rw [h]; rfl
theorem run_info' {P : Program} {t : TypeId} {d : TypeInfo} {w : World} (h : P.info? t = some d) : (typeInfo t).run P w = .ok d w := by
  unfold typeInfo; rw [run_bind]; show (match P.info? t with | some d => (pure d : Sem TypeInfo) | none => _).run P w = _
  rw [h]; rfl
theorem run_size' {P : Program} {t : TypeId} {d : TypeInfo} {w : World} (h : P.info? t = some d) : (sizeOf t).run P w = .ok d.size w := by
  unfold sizeOf; rw [run_bind, run_info' h]; rfl
theorem run_load' {P : Program} {a : Addr} {v : Value} {w : World} (h : w.cell? a = some v) : (load a).run P w = .ok v w := by
  unfold load Sem.run; simp only [h]; rfl
theorem run_loadCells {P : Program} {a : Addr} {w : World} : ∀ (n i : Nat) (acc : Array Value) (cs : List Value), cellsFrom w a i n = some cs → (loadCellsFrom a i n acc).run P w = .ok (acc ++ cs.toArray) w
  | 0, i, acc, cs, h => by simp [cellsFrom] at h; subst h; simp [loadCellsFrom, run_pure]
  | n + 1, i, acc, cs, h => by
    simp only [cellsFrom] at h
    split at h
    · rename_i v hv
      simp only [Option.map_eq_some_iff] at h
      obtain ⟨l, hl, rfl⟩ := h
      simp only [loadCellsFrom]
      rw [run_bind, run_load' hv]
      simp only
      rw [run_loadCells n (i + 1) (acc.push v) l hl]
      simp
    · cases h
theorem run_storeCells {P : Program} {a : Addr} : ∀ (vs : List Value) (i : Nat) (w w' : World), putFrom a i vs w = some w' → (storeCells a vs i).run P w = .ok () w'
  | [], i, w, w', h => by simp [putFrom] at h; subst h; simp [storeCells, run_pure]
  | v :: vs, i, w, w', h => by
    simp only [putFrom] at h
    split at h
    · rename_i h1 h2 h3
      simp only [storeCells]
      rw [run_bind]
      have : (store (a.add i) v).run P w = .ok () (w.setCell (a.add i) v) := by
        unfold store
        cases v <;> simp [isCell] at h1 <;> simp only [Sem.run, h2, h3] <;> rfl
      rw [this]
      exact run_storeCells vs (i + 1) _ _ h
    · cases h
end Go.SL
