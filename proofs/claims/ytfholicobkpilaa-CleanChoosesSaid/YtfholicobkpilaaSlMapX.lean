/-
  maps.Clone.
-/
import Derived.Test.YtfholicobkpilaaSlDictIt
import Derived.Laws.Externs
import Derived.MapKept
set_option linter.unusedSimpArgs false
set_option linter.unusedVariables false
set_option linter.unusedSectionVars false
namespace Go.SL
open Go.RowKit
variable {B : World} {H : List Asrt} {K : Value → WT} {P : Program}

theorem equal_map {t k e : TypeId} {a : Option Nat} {w : World} (hu : P.underlying t = some (.map k e)) :
    (Op.equal t (.map a) (.map none)).run P w = .ok a.isNone w := by
  unfold Op.equal Op.maxDepth Op.equalIn
  rw [run_bind, run_underlying' hu]
  cases a <;> rfl
theorem E_meq {t k e : TypeId} {c : Bool} {a : Option Nat} (hu : P.underlying t = some (.map k e)) (hk : E B H (K (.bool a.isNone))) : E B H (S.eqv P .eql t c (.map a) (.map none) K) :=
  E_eqS (fun w => by
    unfold S.eqS
    rw [run_bind]
    have : (eqGuard .eql t (S.cOp c) (.tmp 0) (.map a) (.map none)).run P w = .ok () w := by rfl
    rw [this]; simp only [binOp, run_bind, equal_map hu, run_pure]) hk
theorem E_tamap {t xT k e : TypeId} {v : Value} (h : P.underlying t = some (.map k e)) (hk : E B H (K v)) : E B H (V P (Instr.typeAssert (.iface t v) xT t false) K) :=
  E_Vok fun w hw => ⟨v, w, by
    unfold Instr.typeAssert
    simp [run_bind, run_underlying' h, run_pure], hk w hw⟩
theorem run_mclone {r : Nat} {es : Array MapEntry} {clock : Nat} {w : World} (t : TypeId) (hb : w.heap[r]? = some (.map es clock)) :
    (Extern.MapsClone.clone #[.iface t (.map (some r))]).run P w = .ok (.iface t (.map (some w.heap.size))) { w with heap := w.heap.push (.map es clock) } := by
  have e : Extern.MapsClone.clone #[.iface t (.map (some r))] = (getObj r >>= fun o => match o with
      | .map entries clock => (newObj (.map entries clock) >>= fun n => pure (.iface t (.map (some n))))
      | _ => stuck "maps.clone: a map expected") := rfl
  rw [e]
  simp only [run_bind, run_getObj' hb (by simp)]
  simp only [newObj, Sem.run, run_bind, run_pure]
section
variable {κ : Type} [DecidableEq κ] {enc : κ → Value}
theorem E_mclone {fn : Func} {f t r : Nat} {kv : List (κ × Value)} {H' : List Asrt} [ht : TakD H enc true r kv H'] (hf : P.funcs[f]? = some fn)
    (hg : ∀ w, (callFunc f #[.iface t (.map (some r))]).run P w = ((Extern.MapsClone.clone #[.iface t (.map (some r))]).run P w).andThen fun v w' => .ok (.value v) w')
    (h : ∀ r', E B (dct enc true r' kv :: dct enc true r kv :: H') (K (.iface t (.map (some r'))))) : E B H (Gives P (callFunc f #[.iface t (.map (some r))]) K) := by
  refine E_find ht.pf (E_dopen fun es cl hd => ?_)
  intro w hw
  unfold Gives
  rw [hg, run_mclone t (sat.get hw)]
  have h2 : E B (mpb true w.heap.size es cl :: mpb true r es cl :: H') (K (.iface t (.map (some w.heap.size)))) :=
    E_dshut (enc := enc) (kv := kv) hd (E_perm (List.Perm.swap ..) (E_dshut (enc := enc) (kv := kv) hd (E_perm (List.Perm.swap ..) (h w.heap.size))))
  exact h2 _ (hw.new (.map es.toArray cl))
end

/-! ### structs' places -/
theorem run_mapM {α β : Type} {g : α → Sem β} {h : α → Option β} {w : World} : ∀ {l : List α} {r : List β}, (∀ x ∈ l, ∀ y, h x = some y → (g x).run P w = .ok y w) → l.map h = r.map some → (l.mapM g).run P w = .ok r w
  | [], r, _, hr => by
    have : r = [] := by simpa using hr.symm
    subst this; rfl
  | x :: l, [], _, hr => by simp at hr
  | x :: l, y :: r, hg, hr => by
    simp only [List.map_cons, List.cons.injEq] at hr
    have h1 := hg x (List.mem_cons_self ..) y hr.1
    have h2 := run_mapM (g := g) (h := h) (fun x hx => hg x (List.mem_cons_of_mem _ hx)) hr.2
    rw [List.mapM_cons]
    simp only [run_bind, h1, h2, run_pure]
theorem str_of {t : TypeId} {pl : List (Nat × Nat)} {zv : Value} {z : List Value}
    (h : (match P.underlying t with | some (.struct fs) => some (fs.toList.map fun f => (P.info? f.type).map fun i => (f.offset, i.size)) | _ => none) = some (pl.map some))
    (hz : (P.info? t).bind (·.zero) = some zv) (hc : zv.cells.toList = z) : Str P t pl z := by
  cases hu : P.underlying t with
  | none => simp [hu] at h
  | some d =>
    rw [hu] at h
    cases d <;> simp only [Option.some.injEq, reduceCtorEq] at h
    rename_i fs
    cases hi : P.info? t with
    | none => simp [hi] at hz
    | some i =>
      simp only [hi, Option.bind_some] at hz
      refine ⟨fs, zv, hu, fun w => ?_, fun w => zero_run hi hz, hc⟩
      rw [Array.mapM_eq_mapM_toList]
      have := run_mapM (P := P) (w := w) (g := fun f : Field => (do pure (f.offset, ← sizeOf f.type) : Sem (Nat × Nat))) (h := fun f => (P.info? f.type).map fun i => (f.offset, i.size)) (l := fs.toList) (r := pl) (fun f hf y hy => by
        cases hf : P.info? f.type with
        | none => simp [hf] at hy
        | some i =>
          simp only [hf, Option.map_some, Option.some.injEq] at hy
          simp only [run_bind, run_size' hf, run_pure, hy]) h
      rw [← bind_pure_comp, run_bind, this]; rfl

/-! ### conversions -/
theorem run_markS {b o : Nat} {T : TypeId} {l : List Value} {fr : Nat × Nat} {w : World} (h : w.heap[b]? = some (.cells l.toArray T fr)) : (markStringish ⟨b, o, none⟩).run P w = .ok () (w.freeze ⟨b, l.length, none⟩ 1) := by
  unfold markStringish
  rw [run_bind]
  have : (shape b).run P w = .ok (w.shape? b) w := rfl
  rw [this]
  have hs : w.shape? b = some (T, l.length) := by unfold World.shape?; simp [h]
  simp only [hs]
  rfl
theorem E_cvslice {t e b o n cap : Nat} {T : TypeId} {l : List Value} {H' : List Asrt} [hf : TakC H b T l H'] (hu : P.underlying t = some (.slice e)) (he : P.underlying e = some (.int .u8))
    (h : E B (cel true b T l :: H') (K (.slice (some ⟨b, o, none⟩) n cap))) : E B H (V P (convert t t (.slice (some ⟨b, o, none⟩) n cap)) K) := by
  refine E_find hf.pf ?_
  refine E_Vok fun w hw => ?_
  obtain ⟨fr, hh, _⟩ := cel_own (l' := l) hw rfl
  refine ⟨_, _, ?_, h _ (cel_mark hw)⟩
  unfold convert
  rw [run_bind, run_underlying' hu]
  simp only [run_bind, run_underlying' hu, run_underlying' he, beq_self_eq_true, run_markS hh, run_pure]
theorem osl_sat {w : World} {T sz n b cap : Nat} {xs spare : List Value} (hle : n ≤ cap) (hxl : xs.length = n * sz) (hsl : spare.length = (cap - n) * sz) (h : sat B (cel true b T (xs ++ spare) :: H) w) :
    sat B (osl T sz (.slice (some ⟨b, 0, none⟩) n cap) n xs :: H) w := by
  obtain ⟨hb, ch, ⟨l1, l2, e', h1, h2⟩, hc⟩ := h
  exact ⟨hb, ch, ⟨l1, l2, e', .inr ⟨_, cap, spare, rfl, hle, hxl, hsl, h1⟩, h2⟩, hc⟩
theorem E_s2b {ts t e : Nat} {s : ByteArray} (hs : P.underlying ts = some .string) (hu : P.underlying t = some (.slice e)) (he : P.underlying e = some (.int .u8))
    (h : ∀ v [CellI v], E B (osl e 1 v s.size (bcs s.data.toList) :: H) (K v)) : E B H (V P (convert ts t (.string s)) K) := by
  refine E_Vok fun w hw => ?_
  obtain ⟨cap, w1, hch, hcap, g1, g2, g3, g4⟩ : ∃ cap w1, (choose (.appendCap s.size 0 e)).run P w = .ok cap w1 ∧ s.size ≤ cap ∧ w1.heap = w.heap ∧ w1.os = w.os ∧ w1.tape = w.tape ∧ w1.output = w.output := by
    unfold choose Sem.run
    split
    · rename_i hf
      simp [Question.forced] at hf
    · exact ⟨_, _, rfl, by simp [Question.cut], rfl, rfl, rfl, rfl⟩
  have hw1 : sat B H w1 := hw.same g1 g2 g3 g4
  have hcells : (s.data.map (fun b => (Value.int .u8 b.toNat : Value)) ++ Array.replicate (cap - s.size) (Value.int .u8 0)) = (bcs s.data.toList ++ List.replicate (cap - s.size) (Value.int .u8 0)).toArray := by
    apply Array.ext'
    simp [bcs]
  have hs2 := sat_cel_new hw1 e (bcs s.data.toList ++ List.replicate (cap - s.size) (Value.int .u8 0)) (0, 0) (.inl rfl)
  have hh : ({ w1 with heap := w1.heap.push (.cells (bcs s.data.toList ++ List.replicate (cap - s.size) (Value.int .u8 0)).toArray e (0, 0)) } : World).heap[w1.heap.size]? = some (.cells (bcs s.data.toList ++ List.replicate (cap - s.size) (Value.int .u8 0)).toArray e (0, 0)) := by simp
  have hs3 := cel_mark hs2
  have hs4 := osl_sat (n := s.size) (cap := cap) (sz := 1) hcap (show (bcs s.data.toList).length = s.size * 1 by rw [bcs_length, Nat.mul_one]; rfl) (by simp) hs3
  refine ⟨_, _, ?_, h _ _ hs4⟩
  · unfold convert
    rw [run_bind, run_underlying' hs]
    simp only [run_bind, run_underlying' hu, run_underlying' he]
    unfold Conv.stringToBytes
    simp only [run_bind, hch, hcells]
    have hnew : (newRow e (bcs s.data.toList ++ List.replicate (cap - s.size) (Value.int .u8 0)).toArray).run P w1 = .ok ⟨w1.heap.size, 0, none⟩ { w1 with heap := w1.heap.push (.cells (bcs s.data.toList ++ List.replicate (cap - s.size) (Value.int .u8 0)).toArray e (0, 0)) } := by
      simp only [newRow, newObj, Sem.run, run_bind, run_pure]
    rw [hnew]
    simp only [run_markS hh, run_pure]

/-! ### odds and ends -/
theorem E_xor {k : IntKind} {a b : Int} (h : E B H (K (.int k (k.wrap (BitVec.ofInt k.bits a ^^^ BitVec.ofInt k.bits b).toNat)))) : E B H (S.bin .xor (.int k a) (.int k b) K) := fun w hw => ⟨rfl, h w hw⟩
/-- Cells of the start world. -/
theorem E_ldNb {b o n : Nat} {cs : List Value} (hc : ∀ k, k < cs.length → B.cell? ⟨b, o + k, none⟩ = cs[k]?) (hn : cs.length = n) (h : E B H (K (.agg cs.toArray))) : E B H (S.ldN n (.pointer (some ⟨b, o, none⟩)) K) := by
  intro w hw
  have key : ∀ m i, i + m = cs.length → cellsFrom w ⟨b, o, none⟩ i m = some (cs.drop i) := by
    intro m
    induction m with
    | zero => intro i hi; simp only [cellsFrom]; rw [List.drop_eq_nil_of_le (by omega)]
    | succ m ih =>
      intro i hi
      have hlt : i < cs.length := by omega
      simp only [cellsFrom, add_at]
      have h1 := hc i hlt
      rw [List.getElem?_eq_getElem hlt] at h1
      rw [cell_base hw h1]
      simp only
      rw [ih (i + 1) (by omega)]
      simp
  unfold S.ldN
  have := key n 0 (by omega)
  simp only [this, List.drop_zero]
  exact h w hw
theorem E_beqS {a : Bool} (h : E B H (K (.bool true))) : E B H (S.beq .eql (.bool a) (.bool a) K) := fun w hw => by
  unfold S.beq
  simpa using h w hw
end Go.SL
