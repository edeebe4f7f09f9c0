/-
  Names: NamesTells.
-/
import Derived.Test.YtjafpncngmbcdaaGreatNnK
set_option linter.unusedSimpArgs false
set_option linter.unusedVariables false
set_option linter.unusedSectionVars false
namespace Go.Proofs.YtjafpncngmbcdaaGreat.Nam
open Go Go.SL Go.Proofs Go.Proofs.YtjafpncngmbcdaaGreat.Sh
variable {B : World} {H : List Asrt} {K : Value → WT} {W : WT} {a b : Nat} {M : Bk} {f : Fa} {rv hv mv : Value}
variable {fv sv : Cv} {L : List FC} {LS : List SC} {Pf : List (Value × List FC)} {Lv : List (Value × List VR)} {Lr : List (Value × List Rf)} {Ps : List (Value × List SC)} {Lh : List (Value × List (List UInt8 × Int))}
/-- What is told of a generation that may be. -/
def ansV (o : Option Ver) : Ver := o.getD ⟨[], 0, 0, [], false⟩
def ansE (o : Option Ver) : Int := if o.isSome then 0 else 9
theorem getM_mem {V : List Ver} {n : List UInt8} {g : Int} {v : Ver} (h : getM V n g = some v) : v ∈ V := by
  unfold getM liveV at h
  split at h
  · cases h
  · rename_i w hw
    split at h
    · cases h
    · cases h; exact (genV_some hw).1
theorem viaM_mem {s n : List UInt8} {v : Ver} (h : viaM M s n = some v) : v ∈ M.V := by
  unfold viaM at h
  split at h
  · cases h
  · split at h
    · cases h
    · exact (genV_some h).1
theorem ans_get (hw : Inv M) (n : List UInt8) (g : Int) : (ansV (getM M.V n g)).refs.length ≤ 256 := by
  cases h : getM M.V n g with
  | none => exact Nat.zero_le _
  | some v => exact hw.r v (getM_mem h)
theorem ans_via (hw : Inv M) (s n : List UInt8) : (ansV (viaM M s n)).refs.length ≤ 256 := by
  cases h : viaM M s n with
  | none => exact Nat.zero_le _
  | some v => exact hw.r v (viaM_mem h)
attribute [local irreducible] S.pick S.ld S.ldN S.st S.box S.nc S.fad S.ixS S.ixA S.chr S.prt S.ext S.bin S.sh S.sbin S.beq S.neg1 S.com1 S.not1 S.cvt S.str1 S.lenS S.len S.cap S.lenM S.mx S.mn S.mkM S.cond S.gd S.fa S.dr S.rck S.join S.loop S.cvv S.eqv S.slc S.slcS S.b2s S.lk V U CF Gives E cel mpb osl ros dct dit itr lpo dfo
set_option maxRecDepth 8000
attribute [local irreducible] bk dbk checkB stepM
theorem getW {n : List UInt8} {g : Int} (hw : Inv M) (h : ∀ c [CellI c], E B (sls rfC 38 35 c (ansV (getM M.V n g)).refs :: bk a M :: H) (K (.tuple #[.agg #[I (ansV (getM M.V n g)).gen, I (ansV (getM M.V n g)).time, c, .bool (ansV (getM M.V n g)).gone], I (ansE (getM M.V n g))]))) :
    E B (bk a M :: H) (CF Tryz.prog 11 [ptr a, str n, I g] K) := by
  refine get hw (fun e => ?_) (fun v c _ e => ?_)
  · rw [e] at h
    refine sls_nil rfC 35 (T := 38) ?_
    exact h nil
  · rw [e] at h
    exact h c
theorem viaW {s n : List UInt8} (hw : Inv M) (h : ∀ c [CellI c], E B (sls rfC 38 35 c (ansV (viaM M s n)).refs :: bk a M :: H) (K (.tuple #[.agg #[I (ansV (viaM M s n)).gen, I (ansV (viaM M s n)).time, c, .bool (ansV (viaM M s n)).gone], I (ansE (viaM M s n))]))) :
    E B (bk a M :: H) (CF Tryz.prog 13 [ptr a, str s, str n] K) := by
  refine via hw (fun e => ?_) (fun v c _ e => ?_)
  · rw [e] at h
    refine sls_nil rfC 35 (T := 38) ?_
    exact h nil
  · rw [e] at h
    exact h c
theorem getDW {n : List UInt8} {g : Int} (hw : Inv M) (h : ∀ (Lr : List (Value × List Rf)) c [CellI c], (∀ H', Rs B (spool rfC Lr :: H') c rfC (ansV (getM M.V n g)).refs) → E B (spool rfC Lr :: dbk a M :: H) (K (.tuple #[.agg #[I (ansV (getM M.V n g)).gen, I (ansV (getM M.V n g)).time, c, .bool (ansV (getM M.V n g)).gone], I (ansE (getM M.V n g))]))) :
    E B (dbk a M :: H) (CF Tryz.prog 12 [ptr a, str n, I g] K) := by
  refine E_dbk fun fv sv L LS Pf Lv Lr Ps Lh hd => ?_
  have fin : ∀ {W}, E B (spool rfC Lr :: dbk a M :: H) W → E B (cel true a 88 [fv.1, sv.1, I M.now] :: spool fC Pf :: spool vC Lv :: spool rfC Lr :: spool shC Ps :: spool hC Lh :: H) W := fun hW => by
    refine fd (a := spool rfC Lr) (pool_dup ?_)
    refine sm (G := cel true a 88 [fv.1, sv.1, I M.now] :: spool fC Pf :: spool vC Lv :: spool rfC Lr :: spool shC Ps :: spool hC Lh :: spool rfC Lr :: H) ?_
    refine E_dbkS hd rfl ?_
    exact sm hW
  refine getD hd hw (fun e => fin ?_) (fun v c e hm => fin ?_)
  · rw [e] at h
    exact h Lr nil fun H' => ⟨fun _ => .inl ⟨rfl, rfl, rfl⟩⟩
  · rw [e] at h
    exact h Lr c.1 (rs_pool hm)
theorem viaDW {s n : List UInt8} (hw : Inv M) (h : ∀ (Lr : List (Value × List Rf)) c [CellI c], (∀ H', Rs B (spool rfC Lr :: H') c rfC (ansV (viaM M s n)).refs) → E B (spool rfC Lr :: dbk a M :: H) (K (.tuple #[.agg #[I (ansV (viaM M s n)).gen, I (ansV (viaM M s n)).time, c, .bool (ansV (viaM M s n)).gone], I (ansE (viaM M s n))]))) :
    E B (dbk a M :: H) (CF Tryz.prog 14 [ptr a, str s, str n] K) := by
  refine E_dbk fun fv sv L LS Pf Lv Lr Ps Lh hd => ?_
  have fin : ∀ {W}, E B (spool rfC Lr :: dbk a M :: H) W → E B (cel true a 88 [fv.1, sv.1, I M.now] :: spool fC Pf :: spool vC Lv :: spool rfC Lr :: spool shC Ps :: spool hC Lh :: H) W := fun hW => by
    refine fd (a := spool rfC Lr) (pool_dup ?_)
    refine sm (G := cel true a 88 [fv.1, sv.1, I M.now] :: spool fC Pf :: spool vC Lv :: spool rfC Lr :: spool shC Ps :: spool hC Lh :: spool rfC Lr :: H) ?_
    refine E_dbkS hd rfl ?_
    exact sm hW
  refine viaD hd hw (fun e => fin ?_) (fun v c e hm => fin ?_)
  · rw [e] at h
    exact h Lr nil fun H' => ⟨fun _ => .inl ⟨rfl, rfl, rfl⟩⟩
  · rw [e] at h
    exact h Lr c.1 (rs_pool hm)
theorem nextDW {n : List UInt8} (hw : Inv M) (h : E B (dbk a M :: H) (K (I (nextG M.V n)))) : E B (dbk a M :: H) (CF Tryz.prog 17 [ptr a, str n] K) := by
  refine E_dbk fun fv sv L LS Pf Lv Lr Ps Lh hd => ?_
  refine nextD hd hw ?_
  exact E_dbkS hd rfl h
theorem namesTells {v0 : Value} {l : List FV} {name shot : List UInt8} {gen : Int} (hl : ∀ H, Rs B H v0 faE l) (hin : ∀ p ∈ l, FIn B p) (h : E B H (K (.bool true))) : E B H (CF Tryz.prog 4 [v0, str name, str shot, I gen] K) := by
  refine E_mono (W := s4 _ _ _ _ K) ?_ fun _ => c4
  unfold s4
  refine play hl hin fun a b => ?_
  have hw := inv_run (l.map (·.1))
  generalize runM (l.map (·.1)) = M at hw ⊢
  have q1 := ans_get hw name gen
  have q2 := ans_via hw shot name
  have hnx := hw.fl name
  (repeat first | refine gS ?_ | refine gA fun _ => ?_ | refine gX fun _ _ => ?_ | refine gT ?_ | refine gF ?_ | refine gI ?_)
  refine getW hw fun c1 _ => ?_
  generalize ho1 : getM M.V name gen = o1 at q1 ⊢
  (repeat first | refine gS ?_ | refine gA fun _ => ?_ | refine gX fun _ _ => ?_ | refine gT ?_ | refine gF ?_ | refine gI ?_)
  rename_i b12
  refine fd (a := dbk b M) (getDW hw fun Lr1 c2 _ i2 => ?_)
  rw [ho1] at i2 ⊢
  (repeat first | refine gS ?_ | refine gA fun _ => ?_ | refine gX fun _ _ => ?_ | refine gT ?_ | refine gF ?_ | refine gI ?_)
  rename_i b14
  refine fd (a := bk a M) (viaW hw fun c3 _ => ?_)
  generalize ho2 : viaM M shot name = o2 at q2 ⊢
  (repeat first | refine gS ?_ | refine gA fun _ => ?_ | refine gX fun _ _ => ?_ | refine gT ?_ | refine gF ?_ | refine gI ?_)
  rename_i b16
  refine fd (a := dbk b M) (viaDW hw fun Lr2 c4 _ i4 => ?_)
  rw [ho2] at i4 ⊢
  (repeat first | refine gS ?_ | refine gA fun _ => ?_ | refine gX fun _ _ => ?_ | refine gT ?_ | refine gF ?_ | refine gI ?_)
  rename_i b18
  refine E_loop (n := 13) (σ := Nat × List Rf) (fun s => s.1 ≤ (ansV o1).refs.length ∧ s.2.length = (ansV o1).refs.length) (fun s => [str name, I gen, ptr a, ptr b, ptr b12, I (ansE o1), ptr b14, I (ansE o1), ptr b16, I (ansE o2), ptr b18, I (ansE o2), I s.1])
    (fun s => cel true b12 31 [I (ansV o1).gen, I (ansV o1).time, c1, .bool (ansV o1).gone] :: sls rfC 38 35 c1 s.2 :: cel true b14 31 [I (ansV o1).gen, I (ansV o1).time, c2, .bool (ansV o1).gone] :: cel true b16 31 [I (ansV o2).gen, I (ansV o2).time, c3, .bool (ansV o2).gone] :: sls rfC 38 35 c3 (ansV o2).refs :: cel true b18 31 [I (ansV o2).gen, I (ansV o2).time, c4, .bool (ansV o2).gone] :: spool rfC Lr1 :: spool rfC Lr2 :: bk a M :: dbk b M :: H)
    (fun s => (ansV o1).refs.length - s.1) (0, (ansV o1).refs) (fun _ => rfl) rfl ⟨Nat.zero_le _, rfl⟩ (fun W hW => sm hW) ?_
  rintro ⟨j, rs⟩ K0 ⟨hj, hrl⟩ hk0
  simp only at hj hrl hk0 ⊢
  refine E_fa fun _ => ?_
  (repeat first | refine gS ?_ | refine gA fun _ => ?_)
  refine E_if (fun hc => ?_) (fun hc => ?_)
  · have hy : rs[j]? = some rs[j] := List.getElem?_eq_getElem (by omega)
    generalize rs[j] = x at hy
    (repeat first | refine gS ?_ | refine gA fun _ => ?_)
    refine E_rsix (v := c1) (l := rs) hy fun _ _ => ?_
    refine E_ptfad0 fun _ _ => ?_
    refine E_ptld (u := I x.slot) ?_
    refine E_xorA fun n => ?_
    refine fd (a := sls rfC 38 35 c1 rs) ?_
    refine E_sfld { x with slot := n } hy (by decide) (rfC_slot x n) ?_
    refine E_addI (by omega) (by omega) ?_
    exact sm (hk0 (j + 1, rs.set j { x with slot := n }) ⟨by simp only; omega, by simp [hrl]⟩ (by simp only; omega))
  · refine fd (a := bk a M) (getW hw fun c5 _ => ?_)
    rw [ho1]
    (repeat first | refine gS ?_ | refine gA fun _ => ?_)
    refine alive ?_
    (repeat first | refine gS ?_ | refine gA fun _ => ?_)
    refine sameVersion (l := (ansV o1).refs) (fun G => rs_app G inferInstance) (fun G => rs_app G inferInstance) (by omega) ?_
    (repeat first | refine gS ?_ | refine gA fun _ => ?_)
    rw [decide_eq_true (rfl : ansE o1 = ansE o1)]
    (repeat first | refine gS ?_ | refine gA fun _ => ?_)
    rw [decide_eq_true (by omega : (rs.length : Int) = (ansV o1).refs.length)]
    (repeat first | refine gS ?_ | refine gA fun _ => ?_)
    refine sameVersion (l := (ansV o2).refs) (fun G => rs_app G inferInstance) (fun G => rs_app G inferInstance) (by omega) ?_
    (repeat first | refine gS ?_ | refine gA fun _ => ?_)
    rw [decide_eq_true (rfl : ansE o2 = ansE o2)]
    (repeat first | refine gS ?_ | refine gA fun _ => ?_)
    refine fd (a := bk a M) (next (by omega) (fun v hv => ⟨(hw.g v hv).2, (hw.g v hv).1⟩) ?_)
    (repeat first | refine gS ?_ | refine gA fun _ => ?_)
    refine fd (a := dbk b M) (nextDW hw ?_)
    (repeat first | refine gS ?_ | refine gA fun _ => ?_)
    rw [decide_eq_true (rfl : nextG M.V name = nextG M.V name)]
    (repeat first | refine gS ?_ | refine gA fun _ => ?_)
    exact sm h
end Go.Proofs.YtjafpncngmbcdaaGreat.Nam
