/-
  Part 7: BnJ.
-/
import Derived.Lib.Overlaps
import Derived.Test.YtmbfmkiagdhcoaaGreatPkBinNonef
set_option linter.unusedSimpArgs false
set_option linter.unusedVariables false
set_option linter.unusedSectionVars false
section
namespace Go.Proofs.YtmbfmkiagdhcoaaGreat.Ext
open Go Go.SL Go.Proofs Go.Proofs.YtmbfmkiagdhcoaaGreat.Sh Go.Proofs.YtmbfmkiagdhcoaaGreat.Oct Go.Proofs.YtmbfmkiagdhcoaaGreat.Disk Go.Proofs.YtmbfmkiagdhcoaaGreat.Slot
variable {B : World} {H : List Asrt} {K : Value → WT} {W : WT}
section
variable {P : Program}
theorem E_copyC {dT sT ty T sz by_ b o dLen dCap b2 o2 sLen sCap n : Nat} {T2 : TypeId} {κ : Bool} {z l l2 cs : List Value} {H' : List Asrt} [hd : TakC H b T l H'] [hs : HasC H b2 κ T2 l2]
    (hu : P.underlying dT = some (.slice T)) (he : Elt P T sz by_ z) (hn : Nat.min sLen dLen = n) (hcs : (l2.drop o2).take (n * sz) = cs) (hl : cs.length = n * sz) (hc : ∀ v ∈ cs, isCell v = true)
    (hle : o + n * sz ≤ l.length) (h : E B (cel true b T (setAll l o cs) :: H') (K (.int .i64 (n : Int)))) :
    E B H (V P (Builtin.copy_ #[dT, sT] ty #[.slice (some ⟨b, o, none⟩) dLen dCap, .slice (some ⟨b2, o2, none⟩) sLen sCap]) K) := by
  obtain ⟨i, zv, hi, hsz, hb, hzv, hzl, hzn⟩ := he.pf
  refine E_Vok fun w hw => ?_
  have hw2 := sat_perm hd.pf.perm hw
  obtain ⟨w', h1, h2⟩ := putFrom_eq (o := o) cs l 0 w hw2 hc (by omega)
  refine ⟨_, w', ?_, h w' (by simpa using h2)⟩
  have hcf := cellsFrom_eq (fun x => sat_cell (hf := hs) hw x) (n * sz) 0 o2 cs (by simpa using hcs) hl
  unfold Builtin.copy_
  simp only [List.getElem?_toArray, List.getElem?_cons_zero, List.getElem?_cons_succ, run_bind, run_underlying' hu, Builtin.lenOf, run_pure, hn, run_size' hi, hsz]
  unfold Builtin.firstCells loadCells
  simp only [run_bind]
  rw [Go.SL.run_loadCells _ _ _ _ hcf]
  have e0 : (#[] ++ cs.toArray : Array Value).toList = cs := by simp
  simp only [run_pure, e0, Go.SL.run_storeCells _ _ _ _ h1]
  rfl
theorem E_appzF {ty t0 t1 T sz by_ n cap b : Nat} {T2 : TypeId} {κ : Bool} {kk : IntKind} {k : Int} {z l : List Value} [hf : HasC H b κ T2 l] (hu : P.underlying t0 = some (.slice T)) (hd : P.underlying t1 = some (.int kk))
    (he : Elt P T sz by_ z) (h0 : 0 ≤ k) (hb : (n + k.toNat) * by_ ≤ 140737488355328) (hm : n + k.toNat ≤ 9223372036854775807) (hby1 : 1 ≤ by_) (hlt : cap < n + k.toNat) (hle : n * sz ≤ l.length)
    (h : ∀ v' [CellI v'], E B (osl T sz v' (n + k.toNat) (l.take (n * sz) ++ rep k.toNat z) :: H) (K v')) : E B H (V P (Builtin.append_ #[t0, t1] ty #[.slice (some ⟨b, 0, none⟩) n cap, .int .i64 k]) K) := by
  obtain ⟨i, zv, hinfo, hsz, hby, hzv, hzl, hzn⟩ := he.pf
  subst hsz
  refine E_Vok fun w hw => ?_
  have hwk : IntKind.i64.wrap k = k := wrapI (by omega) (by omega)
  have hl0 : ¬ k < 0 := by omega
  have e48 : (2 : Int) ^ 48 = 281474976710656 := by decide
  have e48n : (2 : Nat) ^ 48 = 281474976710656 := by decide
  have hkk : (k.toNat : Int) = k := Int.toNat_of_nonneg h0
  have hbig : ¬ k * (i.bytes : Int) > 281474976710656 := by
    rw [hby]
    have h1 : k.toNat * by_ ≤ (n + k.toNat) * by_ := Nat.mul_le_mul_right _ (by omega)
    have h2 : ((k.toNat * by_ : Nat) : Int) ≤ 140737488355328 := by omega
    rw [Int.natCast_mul, hkk] at h2
    omega
  have happ : ∀ w', (if k.toNat * i.size = 0 then pure #[] else do pure (rep k.toNat (← zeroValue T).cells.toList).toArray : Sem (Array Value)).run P w' = .ok (rep k.toNat z).toArray w' := by
    intro w'
    by_cases hk0 : k.toNat * i.size = 0
    · rw [if_pos hk0]
      have : rep k.toNat z = [] := by rw [← List.length_eq_zero_iff, rep_length, hzn, hk0]
      rw [this]; rfl
    · rw [if_neg hk0, run_bind, zero_run hinfo hzv]
      simp only [run_pure, hzl]
  have hrl : (rep k.toNat z).length = k.toNat * i.size := rep_len hzn
  have hxl : (l.take (n * i.size)).length = n * i.size := by rw [List.length_take]; omega
  have hd' : sat B H w.drew := hw.same rfl rfl rfl rfl
  have hold2 : (Builtin.firstCells i.size n (.slice (some ⟨b, 0, none⟩) n cap)).run P w.drew = .ok (l.take (n * i.size)).toArray w.drew := by
    unfold Builtin.firstCells loadCells
    rw [Go.SL.run_loadCells _ _ _ _ (cellsFrom_eq (fun o => sat_cell (hf := hf) hd' o) (n * i.size) 0 0 _ (by simp) hxl)]
    simp
  have h1 := nextslicecap_le hlt
  have h2 := Nat.mul_le_mul_right i.bytes h1
  rw [Nat.mul_assoc, hby] at h2
  have hfit : ¬ Builtin.nextslicecap (n + k.toNat) cap * i.bytes > 281474976710656 := by rw [hby]; omega
  have hn : ¬ n + k.toNat ≤ cap := by omega
  have h63 : ¬ ((n + k.toNat : Nat) : Int) > IntKind.i64.max := by
    have : IntKind.i64.max = 9223372036854775807 := by decide
    omega
  have hcap : n + k.toNat ≤ grownCap w (n + k.toNat) cap T := by unfold grownCap Question.cut; simp
  refine ⟨.slice (some ⟨w.heap.size, 0, none⟩) (n + k.toNat) (grownCap w (n + k.toNat) cap T),
    { w.drew with heap := w.drew.heap.push (.cells (l.take (n * i.size) ++ rep k.toNat z ++ rep (grownCap w (n + k.toNat) cap T - (n + k.toNat)) z).toArray T) }, ?_, ?_⟩
  · unfold Builtin.append_
    simp only [List.getElem?_toArray, List.getElem?_cons_zero, List.getElem?_cons_succ, run_bind, run_underlying' hu, run_underlying' hd, run_size' hinfo, run_pure, if_true, asInt, asIntOf, hwk, if_neg hl0, run_info' hinfo, e48, if_neg hbig, if_neg hn, e48n, if_neg hfit]
    rw [if_neg (fun h => h63 h.1)]
    simp only [run_bind, run_pure, run_info' hinfo]
    rw [if_neg hfit]
    have hch : (choose (.appendCap (n + k.toNat) cap T)).run P w = .ok (grownCap w (n + k.toNat) cap T) w.drew := by
      unfold choose Sem.run; simp [Question.forced, grownCap, Sem.run]
    have hroom : ∀ b w', (askRoom b).run P w' = .ok () w' := fun b w' => by unfold askRoom; split <;> rfl
    simp only [run_bind, hch, hroom, run_info' hinfo]
    rw [hold2]
    simp only [Bool.not_true, Bool.false_eq_true, if_false, zero_run hinfo hzv, run_pure, newRow, newObj, Sem.run, run_bind, zeroCells_eq, hzl]
    rw [happ w.drew]
    simp
  · refine h _ _ ?_
    have := sat_cel_new hd' T (l.take (n * i.size) ++ rep k.toNat z ++ rep (grownCap w (n + k.toNat) cap T - (n + k.toNat)) z) (0, 0) (by simp)
    obtain ⟨hb', ch', ⟨l1, l2, e, h1, h2⟩, hc'⟩ := this
    exact ⟨hb', ch', ⟨l1, l2, e, .inr ⟨_, _, rep (grownCap w (n + k.toNat) cap T - (n + k.toNat)) z, rfl, hcap, by rw [List.length_append, hxl, hrl, Nat.add_mul], rep_len hzn, h1⟩, h2⟩, hc'⟩
abbrev raw (b : Nat) (T : TypeId) (l : List Value) : Asrt := pt true b (.cells l.toArray T (0, 0))
theorem E_raw {b : Nat} {T : TypeId} {l : List Value} (h : E B (cel true b T l :: H) W) : E B (raw b T l :: H) W := E_imp (fun _ hl => ⟨(0, 0), fun _ => .inl rfl, hl⟩) h
theorem E_bslU {t T : TypeId} {n sz by_ : Nat} {z l : List Value} {ps : List (Nat × Value)} (hu : P.underlying t = some (.slice T)) (he : Elt P T sz by_ z)
    (hs0 : 0 < n * sz ∧ n * sz ≤ 1000) (hfl : Instr.fill (fun i => some (i * sz, sz)) (rep n z).toArray ps = some l.toArray)
    (h : ∀ b, E B (raw b T l :: H) (K (.slice (some ⟨b, 0, none⟩) n n))) : E B H (V P (Instr.buildSlice t n ps.toArray) K) := by
  obtain ⟨i, zv, hi, hs, hb, hz, hzl, hzn⟩ := he.pf
  refine E_Vok fun w hw => ⟨_, _, ?_, h _ _ (hw.new (.cells l.toArray T (0, 0)))⟩
  unfold Instr.buildSlice
  simp only [run_bind, run_underlying' hu, run_size' hi, hs]
  have e24 : (2 : Nat) ^ 24 = 16777216 := by decide
  rw [if_neg (by rw [e24]; omega), if_neg (by omega)]
  simp only [run_bind, run_pure, zero_run hi hz]
  have hsz : zv.cells.size = sz := by rw [← Array.length_toList, hzl, hzn]
  have hc : (Array.range (n * sz)).map (fun i => zv.cells[i % zv.cells.size]!) = (rep n z).toArray := by
    have := zero_cells zv.cells n (.inl (by rw [hsz]; intro h; rw [h] at hs0; simp at hs0))
    rw [hsz, hzl] at this
    rw [hsz]; exact this
  rw [hc]
  simp only [hfl, newRow, newObj, run_bind, Sem.run, run_pure]
end
end Go.Proofs.YtmbfmkiagdhcoaaGreat.Ext
end
