/-
  The shallow form of an operation is sound: what it says holds, the model's own operation brings about.
-/
import Derived.Test.YtfholicobkpilaaSlShal
set_option linter.unusedSimpArgs false
set_option linter.unusedVariables false
set_option linter.unusedSectionVars false
namespace Go.SL
open Go.RowKit
variable {P : Program} {ρ : Operand → Value} {K : Value → WT} {w : World}

theorem gives_mono {s : Sem Next} {K' : Value → WT} (h : Gives P s K w) (hk : ∀ v w, K v w → K' v w) : Gives P s K' w := by
  unfold Gives at *
  split at h
  · exact hk _ _ h
  · exact hk _ _ h
  · unfold CF at *
    refine Calls.mono h fun e w' h' => ?_
    cases e with
    | returned v => exact hk _ _ h'
    | panicked c => exact h'
    | outgrown => exact h'
  · refine RoundIn.mono h fun e w' h' => ?_
    cases e with
    | returned v => exact hk _ _ h'
    | panicked c => exact h'
    | outgrown => exact h'
  · exact h

def isAggD : TypeDesc → Bool
  | .struct _ | .array _ _ => true
  | _ => false

theorem run_load_agg {t : TypeId} {i : TypeInfo} {ad : Addr} {cs : List Value} (hi : P.info? t = some i) (ha : (isAgg t).run P w = .ok true w)
    (hc : cellsFrom w ad 0 i.size = some cs) : (Instr.loadAt t (.pointer (some ad))).run P w = .ok (.agg cs.toArray) w := by
  unfold Instr.loadAt Instr.sureAddr loadVar
  rw [run_bind]; simp only [run_pure]
  rw [run_bind, ha]; simp only [if_true]
  rw [run_bind, run_size' hi]; simp only
  unfold loadCells
  rw [run_bind, run_loadCells _ _ _ _ hc]; simp [run_pure]
theorem run_load_one {t : TypeId} {ad : Addr} {v : Value} (ha : (isAgg t).run P w = .ok false w)
    (hc : w.cell? ad = some v) : (Instr.loadAt t (.pointer (some ad))).run P w = .ok v w := by
  unfold Instr.loadAt Instr.sureAddr loadVar
  rw [run_bind]; simp only [run_pure]
  rw [run_bind, ha]; simp only [Bool.false_eq_true, if_false]
  exact run_load' hc
theorem run_isAgg_t {t : TypeId} {d : TypeDesc} (hu : P.underlying t = some d) (hd : isAggD d = true) : (isAgg t).run P w = .ok true w := by
  unfold isAgg; rw [run_bind, run_underlying' hu]; cases d <;> simp_all [run_pure, isAggD]
theorem run_isAgg_f {t : TypeId} {d : TypeDesc} (hu : P.underlying t = some d) (hd : isAggD d = false) : (isAgg t).run P w = .ok false w := by
  unfold isAgg; rw [run_bind, run_underlying' hu]; cases d <;> simp_all [run_pure, isAggD]

theorem ldN_sound {t : TypeId} {i : TypeInfo} {d : TypeDesc} {a : Value} (hi : P.info? t = some i) (hu : P.underlying t = some d)
    (hd : isAggD d = true) (h : S.ldN i.size a K w) : V P (Instr.loadAt t a) K w := by
  unfold S.ldN at h
  split at h
  · rename_i ad
    split at h
    · rename_i cs hc
      unfold V; rw [run_load_agg hi (run_isAgg_t hu hd) hc]; exact h
    · exact h.elim
  · exact h.elim
theorem ld_sound {t : TypeId} {d : TypeDesc} {a : Value} (hu : P.underlying t = some d)
    (hd : isAggD d = false) (h : S.ld a K w) : V P (Instr.loadAt t a) K w := by
  unfold S.ld at h
  split at h
  · rename_i ad
    split at h
    · rename_i v hc
      unfold V; rw [run_load_one (run_isAgg_f hu hd) hc]; exact h
    · exact h.elim
  · exact h.elim
theorem st_sound {t : TypeId} {i : TypeInfo} {a v : Value} (hi : P.info? t = some i) (h : S.st i.size a v K w) : U P (Instr.storeAt t a v) K w := by
  unfold S.st at h
  split at h
  · rename_i ad
    obtain ⟨hs, h⟩ := h
    split at h
    · rename_i w' hw
      unfold U Instr.storeAt Instr.sureAddr storeVar
      rw [run_bind]; simp only [run_pure]
      rw [run_bind, run_size' hi]; simp only
      rw [if_neg (by simp [hs]), run_storeCells _ _ _ _ hw]
      exact h
    · exact h.elim
  · exact h.elim
theorem box_sound {T : TypeId} {v : Value} (h : S.box T v K w) : V P (Instr.box T v) K w := h
theorem alloc_sound {T : TypeId} {i : TypeInfo} {z : Value} (hi : P.info? T = some i) (hz : i.zero = some z) (h : S.box T z K w) : V P (Instr.alloc T true (.tuple #[])) K w := by
  unfold V Instr.alloc zeroValue
  rw [run_bind, run_bind, run_info' hi]; simp only [hz, run_pure]
  exact h

theorem V_run {s s' : Sem Value} (hr : s'.run P w = s.run P w) (h : V P s K w) : V P s' K w := by unfold V at *; rw [hr]; exact h

theorem bin_sound {op : BinOp} {t : TypeId} {x y : Value} {xo yo : Operand} (h : S.bin op x y K w) : V P (do eqGuard op t xo yo x y; binOp op t x y) K w := by
  unfold S.bin at h
  split at h
  · rename_i k a k' b
    obtain ⟨rfl, h⟩ := h
    refine V_run (s := binOp op t (.int k a) (.int k b)) ?_ ?_
    · rw [run_bind]
      cases op <;> rfl
    · unfold V binOp
      cases op <;> first
        | exact h
        | exact h.elim
        | (simp only [ne_eq, not_true_eq_false, if_false, Op.intDiv, if_neg h.1]; exact h.2)
        | (simp only [ne_eq, not_true_eq_false, if_false, Op.intCmp, run_pure, bne, BEq.beq, decide_not] at h ⊢; exact h)
  · exact h.elim
theorem sh_sound {op : BinOp} {t : TypeId} {x y : Value} {xo yo : Operand} (h : S.sh op x y K w) : V P (do eqGuard op t xo yo x y; binOp op t x y) K w := by
  unfold S.sh at h
  split at h
  · rename_i k a k' b
    refine V_run (s := binOp op t (.int k a) (.int k' b)) ?_ ?_
    · rw [run_bind]
      cases op <;> rfl
    · have hb : ¬ b < 0 := by omega
      unfold V binOp
      cases op <;> first
        | exact h.2.elim
        | (simp only [Op.shift, if_neg hb]; exact h.2)
  · exact h.elim
theorem sbin_sound {op : BinOp} {t : TypeId} {x y : Value} {xo yo : Operand} (h : S.sbin op x y K w) : V P (do eqGuard op t xo yo x y; binOp op t x y) K w := by
  unfold S.sbin at h
  split at h
  · rename_i a b
    refine V_run (s := binOp op t (.string a) (.string b)) ?_ ?_
    · rw [run_bind]
      cases op <;> rfl
    · unfold V binOp
      cases op <;> first
        | exact h
        | exact h.elim
        | (have hb : ¬ ((a.size + b.size : Nat) : Int) > IntKind.i64.max := by (have : IntKind.i64.max = 9223372036854775807 := by decide); omega
           simp only [Op.stringOp, if_neg hb]; exact h.2)
  · exact h.elim
theorem beq_sound {op : BinOp} {t : TypeId} {x y : Value} {xo yo : Operand} (hu : P.underlying t = some .bool) (h : S.beq op x y K w) : V P (do eqGuard op t xo yo x y; binOp op t x y) K w := by
  unfold S.beq at h
  split at h
  · rename_i a b
    have he : (Op.equal t (.bool a) (.bool b)).run P w = .ok (a == b) w := by
      unfold Op.equal Op.maxDepth Op.equalIn
      rw [run_bind, run_underlying' hu]; rfl
    refine V_run (s := binOp op t (.bool a) (.bool b)) ?_ ?_
    · rw [run_bind]
      cases op <;> rfl
    · unfold V binOp
      cases op <;> first
        | exact h.elim
        | (simp only [run_bind, he, run_pure]; exact h)
  · exact h.elim
theorem eqGuard_c {op : BinOp} {t : TypeId} {xo yo : Operand} {x y : Value} :
    eqGuard op t xo yo x y = eqGuard op t (S.cOp (isC xo || isC yo)) (.tmp 0) x y := by
  unfold eqGuard
  cases op <;> try rfl
  all_goals
    cases x <;> cases y <;> try rfl
    all_goals (cases xo <;> cases yo <;> rfl)

theorem chr_sound {t : TypeId} {x i : Value} (hu : P.underlying t = some .string) (h : S.chr x i K w) : V P (Instr.index t x i) K w := by
  unfold S.chr at h
  split at h
  · rename_i s k n
    obtain ⟨h0, b, hb, h⟩ := h
    unfold V Instr.index asIntOf
    rw [run_bind]; simp only [run_pure]
    rw [run_bind, run_underlying' hu]; simp only [if_pos h0, hb, run_pure]
    exact h
  · exact h.elim
theorem ixS_sound {t el : TypeId} {j : TypeInfo} {x i : Value} (hu : P.underlying t = some (.slice el)) (hj : P.info? el = some j) (h : S.ixS j.size x i K w) : V P (Instr.indexAt t x i) K w := by
  unfold S.ixS at h
  split at h
  · rename_i a len c k n
    obtain ⟨h0, h1, h⟩ := h
    unfold V Instr.indexAt asIntOf
    simp only [run_bind, run_pure, run_underlying' hu, run_size' hj, if_pos (And.intro h0 h1)]
    exact h
  · exact h.elim
theorem ixA_sound {t el : TypeId} {len : Nat} {j : TypeInfo} {x i : Value} (hu : P.underlying t = some (.array len el)) (hj : P.info? el = some j) (h : S.ixA len j.size x i K w) : V P (Instr.indexAt t x i) K w := by
  unfold S.ixA at h
  split at h
  · rename_i a k n
    obtain ⟨h0, h1, h⟩ := h
    unfold V Instr.indexAt asIntOf
    simp only [run_bind, run_pure, run_underlying' hu, run_size' hj, Instr.sureAddr, if_pos (And.intro h0 h1)]
    exact h
  · exact h.elim
theorem fad_sound {s : TypeId} {fs : Array Field} {f : Nat} {fd : Field} {j : TypeInfo} {x : Value} (hu : P.underlying s = some (.struct fs)) (hf : fs[f]? = some fd)
    (hj : P.info? fd.type = some j) (h0 : j.size ≠ 0) (h : S.fad x fd.offset K w) : V P (Instr.fieldAt s x f) K w := by
  unfold S.fad at h
  split at h
  · rename_i ad
    unfold V Instr.fieldAt
    rw [run_bind, run_underlying' hu]; simp only [hf]
    rw [run_bind]; simp only [Instr.sureAddr, run_pure]
    rw [run_bind]
    unfold fieldPlace
    rw [run_bind, run_size' hj]; simp only [if_neg h0, run_pure]
    exact h
  · exact h.elim
theorem prt_sound {t : TypeId} {fs : Array Field} {f : Nat} {fd : Field} {j : TypeInfo} {d : TypeDesc} {x : Value} (hu : P.underlying t = some (.struct fs)) (hf : fs[f]? = some fd)
    (hj : P.info? fd.type = some j) (hd : P.underlying fd.type = some d) (h : S.prt (isAggD d) fd.offset j.size x K w) : V P (Instr.field t x f) K w := by
  unfold S.prt at h
  split at h
  · rename_i cs
    unfold V Instr.field
    rw [run_bind, run_underlying' hu]; simp only [hf]
    rw [run_bind]; simp only [asAgg, run_pure]
    unfold part
    split at h
    · rename_i ht
      rw [run_bind, run_isAgg_t hd ht]; simp only [if_true]
      rw [run_bind, run_size' hj]
      exact h
    · rename_i hf'
      rw [run_bind, run_isAgg_f hd hf']; simp only [Bool.false_eq_true, if_false]
      split at h
      · rename_i v hv; simp only [hv, run_pure]; exact h
      · exact h.elim
  · exact h.elim
theorem ext_sound {x : Value} {i : Nat} (h : S.ext x i K w) : V P (Instr.extract x i) K w := by
  unfold S.ext at h
  unfold V Instr.extract
  split at h
  · split at h
    · rename_i hv; simp only [hv, run_pure]; exact h
    · exact h.elim
  · exact h.elim
theorem pick_sound {c a b : Value} (h : S.pick c a b K w) : Gives P (do pure (.value (if ← asBool c then a else b))) K w := by
  unfold S.pick at h
  split at h
  · rename_i x
    unfold Gives
    rw [run_bind]; simp only [asBool, run_pure]
    cases x <;> exact h
  · exact h.elim
theorem nc_sound {x : Value} {xo : Operand} {ρ : Operand → Value} {o : Oper} (ho : o.op = .nilCheck xo) (hx : ρ xo = x) (h : S.nc x K w) : Gives P (execOp ρ o) K w := by
  unfold execOp
  rw [ho]; simp only; rw [hx]
  unfold S.nc at h
  cases x with
  | pointer a => cases a with
    | none => exact h.elim
    | some a => exact h
  | func fn first captured => cases fn <;> first | exact h.elim | exact h
  | nilFunc => exact h.elim
  | nilIface => exact h.elim
  | _ => exact h
theorem bound_run {v : Value} {d n y : Nat} {c : BoundsCode} (h : S.bound (some v) d = some n) (hn : n ≤ y) : (Instr.sliceBound v y c).run P w = .ok n w := by
  unfold S.bound at h
  split at h
  · rename_i heq; cases heq
  · rename_i k i heq
    cases heq
    split at h
    · rename_i hd
      have h0 : 0 ≤ i := of_decide_eq_true hd
      cases h
      unfold Instr.sliceBound asIntOf
      simp only [run_bind, run_pure]
      rw [if_pos ⟨h0, by omega⟩]; rfl
    · cases h
  · cases h
theorem bounds_run {b : Bool} {len cap l h m : Nat} {lo hi mx : Option Value} (h1 : S.bound mx cap = some m) (h2 : S.bound hi len = some h) (h3 : S.bound lo 0 = some l)
    (h4 : l ≤ h) (h5 : h ≤ m) (h6 : m ≤ cap) (h7 : mx.isSome = true → hi.isSome = true) : (Instr.sliceBounds b len cap lo hi mx).run P w = .ok (l, h, m) w := by
  unfold Instr.sliceBounds
  cases mx with
  | none =>
    simp [S.bound] at h1; subst h1
    cases hi with
    | none =>
      simp [S.bound] at h2; subst h2
      cases lo with
      | none => simp [S.bound] at h3; subst h3; rfl
      | some v => simp only [run_bind, run_pure, bound_run h3 h4]
    | some u =>
      cases lo with
      | none => simp [S.bound] at h3; subst h3; simp only [run_bind, run_pure, bound_run h2 h5]
      | some v => simp only [run_bind, run_pure, bound_run h3 h4, bound_run h2 h5]
  | some x =>
    cases hi with
    | none => simp at h7
    | some u =>
      cases lo with
      | none => simp [S.bound] at h3; subst h3; simp only [run_bind, run_pure, bound_run h2 h5, bound_run h1 h6]
      | some v => simp only [run_bind, run_pure, bound_run h3 h4, bound_run h2 h5, bound_run h1 h6]
theorem slc_sound {t el : TypeId} {j : TypeInfo} {x : Value} {lo hi mx : Option Value} (hu : P.underlying t = some (.slice el)) (hj : P.info? el = some j) (h : S.slc j.size x lo hi mx K w) :
    V P (Instr.sliceAt t x lo hi mx) K w := by
  unfold S.slc at h
  split at h
  · rename_i a len cap
    obtain ⟨l, h', m, h1, h2, h3, h4, h5, h6, h7, hk⟩ := h
    unfold V Instr.sliceAt Instr.slice
    simp only [run_bind, run_underlying' hu, bounds_run h1 h2 h3 h4 h5 h6 h7, run_size' hj, run_pure]
    exact hk
  · exact h.elim
theorem slcS_sound {t : TypeId} {x : Value} {lo hi : Option Value} (hu : P.underlying t = some .string) (h : S.slcS x lo hi K w) :
    V P (Instr.sliceAt t x lo hi none) K w := by
  unfold S.slcS at h
  split at h
  · rename_i s
    obtain ⟨l, h', h2, h3, h4, h5, hk⟩ := h
    unfold V Instr.sliceAt Instr.slice
    simp only [run_bind, run_underlying' hu, Option.isSome_none, Bool.false_eq_true, if_false, bounds_run (mx := none) (b := false) (cap := s.size) rfl h2 h3 h4 h5 (Nat.le_refl _) (by simp), run_pure]
    exact hk
  · exact h.elim
theorem run_getObj' {r : Nat} {o : Obj} (h : w.heap[r]? = some o) (hc : ∀ c el f, o ≠ .cells c el f) : (getObj r).run P w = .ok o w := by
  unfold getObj Sem.run
  rw [h]
  cases o <;> first | rfl | (exact absurd rfl (hc _ _ _))
theorem bytesOf_run : ∀ (cs : List Value) (s s' : ByteArray), S.bytesOf cs s = some s' →
    (forIn cs s (fun c r => match c with
      | .int .u8 n => pure (ForInStep.yield (r.push (UInt8.ofNat n.toNat)))
      | _ => do
        (stuck "bytesToString: byte expected" : Sem PUnit)
        pure (ForInStep.yield r)) : Sem ByteArray).run P w = .ok s' w
  | [], s, s', h => by simp only [S.bytesOf, Option.some.injEq] at h; subst h; rfl
  | c :: cs, s, s', h => by
    unfold S.bytesOf at h
    split at h
    · rename_i heq; cases heq
    · rename_i heq
      obtain ⟨rfl, rfl⟩ := List.cons.inj heq
      simp only [List.forIn_cons, run_bind, run_pure]
      exact bytesOf_run _ _ _ h
    · cases h
theorem b2s_sound {x : Value} (h : S.b2s x K w) : V P (Conv.bytesToString x) K w := by
  unfold S.b2s at h
  split at h
  · exact h
  · rename_i a len cap
    split at h
    · rename_i cs hc
      split at h
      · rename_i s hs
        unfold V Conv.bytesToString loadCells
        simp only
        rw [run_bind, run_loadCells _ _ _ _ hc]
        have := bytesOf_run (P := P) (w := w) cs .empty s hs
        simp only [run_bind, Array.empty_append] at this ⊢
        simp only [List.forIn_toArray]
        erw [this]
        exact h
      · exact h.elim
    · exact h.elim
  · exact h.elim
theorem find_run {kt : TypeId} {k : Value} {es : List MapEntry} {d : TypeDesc} {r : Option (Nat × Value)} (hd : P.underlying kt = some d) (h : Instr.findNow d k es 0 = some r) : (Instr.findKey kt k es).run P w = .ok r w := by
  unfold Instr.findKey
  rw [run_bind, run_underlying' hd]; simp only [h, run_pure]
theorem checkKey_run {b : Bool} {kt : TypeId} {k : Value} {d : TypeDesc} (hd : P.underlying kt = some d) (h : (match d with | .int _ | .string => true | _ => false) = true) : (Instr.checkKey b 10000 kt k).run P w = .ok () w := by
  unfold Instr.checkKey
  rw [run_bind, run_underlying' hd]
  cases d <;> first | rfl | cases h
theorem zero_run {t : TypeId} {i : TypeInfo} {z : Value} (hi : P.info? t = some i) (hz : i.zero = some z) : (zeroValue t).run P w = .ok z w := by
  unfold zeroValue
  rw [run_bind, run_info' hi]; simp only [hz, run_pure]
theorem lk_sound {t kt el : TypeId} {kd : TypeDesc} {i : TypeInfo} {z m k : Value} {ok : Bool} (ht : P.underlying t = some (.map kt el)) (hk : P.underlying kt = some kd)
    (hd : (match kd with | .int _ | .string => true | _ => false) = true) (hi : P.info? el = some i) (hz : i.zero = some z) (h : S.lk kd z ok m k K w) : V P (Instr.lookup t m k ok) K w := by
  unfold S.lk at h
  split at h
  · unfold V Instr.lookup
    simp only [run_bind, run_underlying' ht, run_pure, checkKey_run hk hd, find_run (P := P) (w := w) hk (show Instr.findNow kd k (#[] : Array MapEntry).toList 0 = some none from rfl), zero_run hi hz]
    cases ok <;> exact h
  · split at h
    · rename_i hm
      split at h
      · rename_i hf
        unfold V Instr.lookup
        simp only [run_bind, run_underlying' ht, run_getObj' hm (by simp), run_pure, checkKey_run hk hd, find_run (P := P) (w := w) hk hf]
        cases ok <;> exact h
      · rename_i hf
        unfold V Instr.lookup
        simp only [run_bind, run_underlying' ht, run_getObj' hm (by simp), run_pure, checkKey_run hk hd, find_run (P := P) (w := w) hk hf, zero_run hi hz]
        cases ok <;> exact h
      · exact h.elim
    · exact h.elim
  · exact h.elim
theorem ints_mx {x y : Value} (h : S.mx x y K w) (ts : Array TypeId) (ty : TypeId) : V P (Builtin.max_ ts ty #[x, y]) K w := by
  unfold S.mx at h
  split at h
  · exact h
  · exact h.elim
theorem ints_mn {x y : Value} (h : S.mn x y K w) (ts : Array TypeId) (ty : TypeId) : V P (Builtin.min_ ts ty #[x, y]) K w := by
  unfold S.mn at h
  split at h
  · exact h
  · exact h.elim
theorem lenS_sound {t ty : TypeId} {x : Value} {ts : Array TypeId} (ht : ts[0]? = some t) (hu : P.underlying t = some .string) (h : S.lenS x K w) : V P (Builtin.len_ ts ty #[x]) K w := by
  unfold S.lenS at h
  split at h
  · unfold V Builtin.len_; simp only [ht, List.getElem?_toArray, List.getElem?_cons_zero, run_bind, run_underlying' hu, run_pure]; exact h
  · exact h.elim
theorem len_sound {t ty el : TypeId} {x : Value} {ts : Array TypeId} (ht : ts[0]? = some t) (hu : P.underlying t = some (.slice el)) (h : S.len x K w) : V P (Builtin.len_ ts ty #[x]) K w := by
  unfold S.len at h
  split at h
  · unfold V Builtin.len_; simp only [ht, List.getElem?_toArray, List.getElem?_cons_zero, run_bind, run_underlying' hu, run_pure]; exact h
  · exact h.elim
theorem cap_sound {t ty el : TypeId} {x : Value} {ts : Array TypeId} (ht : ts[0]? = some t) (hu : P.underlying t = some (.slice el)) (h : S.cap x K w) : V P (Builtin.cap_ ts ty #[x]) K w := by
  unfold S.cap at h
  split at h
  · unfold V Builtin.cap_; simp only [ht, List.getElem?_toArray, List.getElem?_cons_zero, run_bind, run_underlying' hu, run_pure]; exact h
  · exact h.elim
theorem lenM_sound {t ty k el : TypeId} {x : Value} {ts : Array TypeId} (ht : ts[0]? = some t) (hu : P.underlying t = some (.map k el)) (h : S.lenM x K w) : V P (Builtin.len_ ts ty #[x]) K w := by
  unfold S.lenM at h
  split at h
  · unfold V Builtin.len_; simp only [ht, List.getElem?_toArray, List.getElem?_cons_zero, run_bind, run_underlying' hu, run_pure]; exact h
  · split at h
    · rename_i hm
      unfold V Builtin.len_
      simp only [ht, List.getElem?_toArray, List.getElem?_cons_zero, run_bind, run_underlying' hu, run_pure, run_getObj' hm (by simp)]
      exact h
    · exact h.elim
  · exact h.elim
theorem bi_sound {b : Builtin} {ts : Array TypeId} {ty : TypeId} {args : List Value} {consts : Array Bool} (h : bi P b ts ty args K w) : Gives P (builtin b ts ty consts args.toArray) K w := by
  cases b <;> try exact h.elim
  case append => exact gives_V h
  case copy => exact gives_V h
  case delete => exact gives_V h
  case clear => exact gives_V h
  case max => match args, h with | [x, y], h => exact gives_V (ints_mx h _ _)
  case min => match args, h with | [x, y], h => exact gives_V (ints_mn h _ _)
  case len =>
    match args, h with
    | [x], h =>
      simp only [bi] at h
      cases ht : ts[0]? with
      | none => simp only [ht] at h; exact h.elim
      | some t =>
        simp only [ht] at h
        cases hu : P.underlying t with
        | none => simp only [hu] at h; exact h.elim
        | some d =>
          simp only [hu] at h
          cases d <;> first
            | exact h.elim
            | exact gives_V (lenS_sound ht hu h)
            | exact gives_V (len_sound ht hu h)
            | exact gives_V (lenM_sound ht hu h)
  case cap =>
    match args, h with
    | [x], h =>
      simp only [bi] at h
      cases ht : ts[0]? with
      | none => simp only [ht] at h; exact h.elim
      | some t =>
        simp only [ht] at h
        cases hu : P.underlying t with
        | none => simp only [hu] at h; exact h.elim
        | some d =>
          simp only [hu] at h
          cases d <;> first
            | exact h.elim
            | exact gives_V (cap_sound ht hu h)

theorem run_callFunc {f : FuncId} {args : Array Value} (h : callOk P f = true) : (callFunc f args).run P w = .ok (.enter f args) w := by
  unfold callOk at h
  unfold callFunc
  rw [run_bind]
  show Sem.run P (match P.funcs[f]? with | none => _ | some fn => _) w = _
  cases hf : P.funcs[f]? with
  | none => simp [hf] at h
  | some fn =>
    simp only [hf, Bool.and_eq_true, Bool.not_eq_true'] at h ⊢
    have hb : fn.body.isNone = false := by cases hx : fn.body <;> simp_all
    simp only [h.2, hb, Bool.false_eq_true, if_false, run_pure]
theorem cf_sound {f : FuncId} {args : List Value} (h : callOk P f = true) (hc : CF P f args K w) : Gives P (callFunc f args.toArray) K w := by
  unfold Gives; rw [run_callFunc h]; simpa using hc

theorem opK_sound {o : Oper} (hρ : ∀ f, ρ (.func f) = .func (.func f) #[] #[]) (h : opK P ρ o K w) : Gives P (execOp ρ o) K w := by
  cases hop : o.op <;> simp only [opK, hop] at h <;> try exact h.elim
  case move x => unfold execOp; simp only [hop]; exact h
  case assign x => unfold execOp; simp only [hop]; exact h
  case pick c a b => unfold execOp; simp only [hop]; exact pick_sound h
  case alloc T =>
    unfold execOp; simp only [hop]
    cases hi : P.info? T with
    | none => simp only [hi] at h; exact h.elim
    | some i =>
      cases hz : i.zero with
      | none => obtain ⟨_, _, _, _, _, _, _, z, _, _⟩ := i; simp only at hz; subst hz; simp only [hi] at h; exact h.elim
      | some z =>
        refine gives_V (alloc_sound hi hz ?_)
        obtain ⟨_, _, _, _, _, _, _, z, _, _⟩ := i; simp only at hz; subst hz; simp only [hi] at h; exact h
  case box T x => unfold execOp; simp only [hop]; exact gives_V (box_sound h)
  case build t ps => unfold execOp; simp only [hop]; rw [amapP]; exact gives_V h
  case buildSlice t n ps => unfold execOp; simp only [hop]; rw [amapP]; exact gives_V h
  case load t a =>
    unfold execOp; simp only [hop]
    cases hi : P.info? t with
    | none => simp only [hi] at h; exact h.elim
    | some i =>
      simp only [hi] at h
      cases hu : P.underlying t with
      | none => simp only [hu] at h; exact h.elim
      | some d =>
        simp only [hu] at h
        cases d <;> first
          | exact gives_V (ldN_sound hi hu rfl h)
          | exact gives_V (ld_sound hu rfl h)
  case store t a x =>
    unfold execOp; simp only [hop]
    cases hi : P.info? t with
    | none => simp only [hi] at h; exact h.elim
    | some i => simp only [hi] at h; exact gives_U (st_sound hi h)
  case nilCheck x => exact nc_sound hop rfl h
  case binOp op t x y yt =>
    unfold execOp; simp only [hop]
    have heqv : ∀ {K : Value → WT} {w : World}, S.eqv P op t (isC x || isC y) (ρ x) (ρ y) K w → Gives P (do pure (.value (← (do eqGuard op t x y (ρ x) (ρ y); binOp op t (ρ x) (ρ y))))) K w := fun h => by
      refine gives_V ?_
      unfold S.eqv S.eqS at h
      rw [eqGuard_c (xo := x) (yo := y)]; exact h
    cases hu : P.underlying t with
    | none => simp only [hu] at h; exact heqv h
    | some d =>
      simp only [hu] at h
      cases d with
      | int k =>
        cases op <;> simp only at h <;> first
          | exact gives_V (sh_sound h)
          | exact gives_V (bin_sound h)
      | string => exact gives_V (sbin_sound h)
      | bool => exact gives_V (beq_sound hu h)
      | _ => exact heqv h
  case unOp op t x =>
    unfold execOp; simp only [hop]
    cases op <;> simp only at h <;> try exact h.elim
    all_goals
      refine gives_V ?_
      generalize ρ x = vx at h ⊢
      cases vx <;> first | exact h.elim | exact h
  case convert src dst x =>
    unfold execOp; simp only [hop]
    refine gives_V ?_
    cases hs : P.underlying src with
    | none => simp only [hs] at h; exact h
    | some ds =>
      cases hd : P.underlying dst with
      | none => simp only [hs, hd] at h; exact h
      | some dd =>
        cases ds <;> cases dd <;> simp only [hs, hd] at h <;> try exact h
        · unfold S.cvt at h
          split at h
          · rename_i k' n hx
            unfold V convert
            simp only [run_bind, run_underlying' hs, run_underlying' hd, hx]
            exact h
          · exact h.elim
        · unfold S.str1 at h
          split at h
          · rename_i n hx
            unfold V convert
            simp only [run_bind, run_underlying' hs, run_underlying' hd, hx]
            exact h
          · exact h.elim
        · rename_i el
          cases hel : P.underlying el with
          | none => simp only [hel] at h; exact h
          | some de =>
            simp only [hel] at h
            cases de with
            | int k =>
              cases k <;> try exact h
              have h' := b2s_sound (P := P) h
              have hx : ∃ a l c, ρ x = .slice a l c := by
                generalize ρ x = vx at h
                cases vx <;> first | exact ⟨_, _, _, rfl⟩ | exact h.elim
              obtain ⟨a, l, c, hx⟩ := hx
              rw [hx] at h' ⊢
              unfold V convert
              simp only [run_bind, run_underlying' hs, run_underlying' hd, run_underlying' hel]
              exact h'
            | _ => exact h
  case makeInterface t x =>
    unfold execOp; simp only [hop]
    cases hu : P.underlying t with
    | none => simp only [hu] at h; exact h.elim
    | some d =>
      simp only [hu] at h
      refine gives_V ?_
      unfold V Instr.makeInterface
      rw [run_bind, run_underlying' hu]
      cases d <;> first | exact h.elim | exact h
  case makeFunc fn first captured =>
    unfold execOp; simp only [hop]
    rw [amap, amap]; exact h
  case makeMap t r =>
    unfold execOp; simp only [hop]
    refine gives_V ?_
    cases r with
    | none => exact h
    | some r =>
      simp only at h
      cases hu : P.underlying t with
      | none => simp only [hu] at h; exact h.elim
      | some d =>
        simp only [hu] at h
        cases d <;> simp only at h <;> try exact h.elim
        simp only [Option.map_some] at h
        generalize hr : ρ r = vr at h
        cases vr <;> simp only at h <;> try exact h.elim
        unfold V Instr.makeMap
        simp only [Option.map_some, hr, run_bind, run_underlying' hu, asInt, asIntOf, run_pure]
        exact h
  case makeSlice t l c => unfold execOp; simp only [hop]; exact gives_V h
  case slice t x lo hi mx =>
    unfold execOp; simp only [hop]
    refine gives_V ?_
    cases hu : P.underlying t with
    | none => simp only [hu] at h; exact h
    | some d =>
      simp only [hu] at h
      cases d with
      | slice el =>
        simp only at h
        cases hi : P.info? el with
        | none => simp only [hi] at h; exact h.elim
        | some i => simp only [hi] at h; exact slc_sound hu hi h
      | string =>
        cases mx with
        | none => exact slcS_sound hu h
        | some _ => exact h.elim
      | _ => exact h
  case fieldAddr s x f =>
    unfold execOp; simp only [hop]
    refine gives_V ?_
    cases hu : P.underlying s with
    | none => simp only [hu] at h; exact h.elim
    | some d =>
      simp only [hu] at h
      cases d <;> simp only at h <;> try exact h.elim
      rename_i fs
      cases hf : fs[f]? with
      | none => simp only [hf] at h; exact h.elim
      | some fd =>
        simp only [hf] at h
        cases hj : P.info? fd.type with
        | none => simp only [hj] at h; exact h.elim
        | some j =>
          simp only [hj] at h
          cases hz : j.size with
          | zero => simp only [hz] at h; exact h.elim
          | succ n => simp only [hz] at h; exact fad_sound hu hf hj (by omega) h
  case field t x f =>
    unfold execOp; simp only [hop]
    refine gives_V ?_
    cases hu : P.underlying t with
    | none => simp only [hu] at h; exact h.elim
    | some d =>
      simp only [hu] at h
      cases d <;> simp only at h <;> try exact h.elim
      rename_i fs
      cases hf : fs[f]? with
      | none => simp only [hf] at h; exact h.elim
      | some fd =>
        simp only [hf] at h
        cases hj : P.info? fd.type with
        | none => simp only [hj] at h; exact h.elim
        | some j =>
          simp only [hj] at h
          cases hd : P.underlying fd.type with
          | none => simp only [hd] at h; exact h.elim
          | some d => simp only [hd] at h; exact prt_sound hu hf hj hd (by cases d <;> exact h)
  case indexAddr t x i =>
    unfold execOp; simp only [hop]
    refine gives_V ?_
    cases hu : P.underlying t with
    | none => simp only [hu] at h; exact h.elim
    | some d =>
      simp only [hu] at h
      cases d <;> simp only at h <;> try exact h.elim
      · rename_i el
        cases hj : P.info? el with
        | none => simp only [hj] at h; exact h.elim
        | some j => simp only [hj] at h; exact ixS_sound hu hj h
      · rename_i len el
        cases hj : P.info? el with
        | none => simp only [hj] at h; exact h.elim
        | some j => simp only [hj] at h; exact ixA_sound hu hj h
  case index t x i =>
    unfold execOp; simp only [hop]
    refine gives_V ?_
    cases hu : P.underlying t with
    | none => simp only [hu] at h; exact h
    | some d =>
      simp only [hu] at h
      cases d <;> first | exact chr_sound hu h | exact h
  case lookup t x i ok =>
    unfold execOp; simp only [hop]
    refine gives_V ?_
    cases ht : P.underlying t with
    | none => simp only [ht] at h; exact h.elim
    | some d =>
      simp only [ht] at h
      cases d <;> simp only at h <;> try exact h.elim
      rename_i kt el
      cases hk : P.underlying kt with
      | none => simp only [hk] at h; exact h
      | some dk =>
        simp only [hk] at h
        cases dk <;> simp only at h <;> try exact h
        all_goals
          cases hi : P.info? el with
          | none => simp only [hi] at h; exact h.elim
          | some j =>
            cases hz : j.zero with
            | none => obtain ⟨_, _, _, _, _, _, _, z, _, _⟩ := j; simp only at hz; subst hz; simp only [hi] at h; exact h.elim
            | some z =>
              refine lk_sound ht hk rfl hi hz ?_
              obtain ⟨_, _, _, _, _, _, _, z, _, _⟩ := j; simp only at hz; subst hz; simp only [hi] at h; exact h
  case mapUpdate t m k x => unfold execOp; simp only [hop]; exact gives_U h
  case insert t m k x => unfold execOp; simp only [hop]; exact gives_U h
  case mapEntry t m k => unfold execOp; simp only [hop]; exact gives_V h
  case entryStore t m s x => unfold execOp; simp only [hop]; exact gives_U h
  case range t x => unfold execOp; simp only [hop]; exact gives_V h
  case next it b => unfold execOp; simp only [hop]; exact gives_V h
  case entry it => unfold execOp; simp only [hop]; exact gives_V h
  case typeAssert x t u ok => unfold execOp; simp only [hop]; exact gives_V h
  case extract t i => unfold execOp; simp only [hop]; exact gives_V (ext_sound h)
  case call c =>
    unfold execOp; simp only [hop]
    cases hc : c.callee with
    | builtin b =>
      simp only [hc] at h
      unfold resolve; simp only [hc]
      unfold Gives; rw [run_bind, run_pure]; simp only
      rw [amap]
      exact bi_sound h
    | invoke r name =>
      simp only [hc] at h
      unfold resolve; simp only [hc]
      unfold Gives; rw [run_bind, run_pure]; simp only
      rw [amap]
      simpa [Gives] using h
    | value x =>
      simp only [hc] at h
      unfold resolve; simp only [hc]
      rw [amap]
      cases x with
      | func f =>
        simp only [hρ] at h ⊢
        unfold Deferred.ofValue Gives; rw [run_bind, run_pure]; simp only
        have : (invoke (.fn (.func f) #[]) (#[] ++ (List.map ρ c.args.toList).toArray)) = callFunc f (List.map ρ c.args.toList).toArray := by
          simp [invoke]
        rw [this]
        cases hk : callOk P f with
        | true => simp only [hk] at h; exact cf_sound hk h
        | false => simp only [hk] at h; exact h
      | _ =>
        simp only at h
        generalize ρ _ = vx at h ⊢
        unfold S.cvv at h
        split at h
        · obtain ⟨hk, h⟩ := h
          unfold Deferred.ofValue Gives; rw [run_bind, run_pure]; simp only
          have := cf_sound hk h
          unfold Gives at this
          unfold invoke
          rename_i g first captured
          have he : (first.toList ++ List.map ρ c.args.toList ++ captured.toList).toArray = first ++ (List.map ρ c.args.toList).toArray ++ captured := by
            cases first; cases captured; simp
          rw [he] at this
          exact this
        · unfold Deferred.ofValue Gives; rw [run_bind, run_pure]; simp only
          exact h
        · exact h.elim
end Go.SL
