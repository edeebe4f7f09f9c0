/-
  Names: the document's book; where a file stands, a snapshot; a generation found; Next.
-/
import Derived.Test.YtjafpncngmbcdaaGreatNmW
set_option linter.unusedSimpArgs false
set_option linter.unusedVariables false
set_option linter.unusedSectionVars false
namespace Go.Proofs.YtjafpncngmbcdaaGreat.Nam
open Go Go.SL Go.Proofs Go.Proofs.YtjafpncngmbcdaaGreat.Sh
variable {B : World} {H : List Asrt} {K : Value → WT} {W : WT} {a : Nat} {M : Bk} {f : Fa}
def posL (ns : List (List UInt8)) (k : List UInt8) : Nat := (ns.takeWhile fun x => decide (x < k)).length
theorem pos_at {ns : List (List UInt8)} {k x : List UInt8} {i : Nat} (hs : ns.Pairwise (· < ·)) (hx : ns[i]? = some x) (ha : ∀ y ∈ ns.take i, y < k) (hn : ¬ x < k) : posL ns k = i ∧ (k ∈ ns ↔ x = k) := by
  obtain ⟨hi, hxe⟩ := List.getElem?_eq_some_iff.1 hx
  have e : ns = ns.take i ++ x :: ns.drop (i + 1) := by rw [← hxe, List.getElem_cons_drop, List.take_append_drop]
  constructor
  · unfold posL
    rw [e, List.takeWhile_append_of_pos (fun y hy => by simpa using ha y hy), List.takeWhile_cons, if_neg (by simpa using hn)]
    simp; omega
  · constructor
    · intro hk
      rw [e] at hk hs
      rcases List.mem_append.1 hk with hk | hk
      · exact (slt_irr _ (ha k hk)).elim
      · rcases List.mem_cons.1 hk with hk | hk
        · exact hk.symm
        · have h1 := (List.pairwise_cons.1 (List.pairwise_append.1 hs).2.1).1 k hk
          exact (hn h1).elim
    · intro h; rw [← h]; exact List.mem_of_getElem? hx
theorem takeWhile_all {ns : List (List UInt8)} {k : List UInt8} (ha : ∀ y ∈ ns, y < k) : ns.takeWhile (fun x => decide (x < k)) = ns := by
  induction ns with
  | nil => rfl
  | cons x t ih => rw [List.takeWhile_cons, if_pos (by simpa using ha x (by simp)), ih fun y hy => ha y (List.mem_cons_of_mem _ hy)]
theorem pos_end {ns : List (List UInt8)} {k : List UInt8} (ha : ∀ y ∈ ns, y < k) : posL ns k = ns.length ∧ k ∉ ns := by
  constructor
  · unfold posL
    rw [takeWhile_all ha]
  · exact fun hk => slt_irr _ (ha k hk)
theorem pos_le (ns : List (List UInt8)) (k : List UInt8) : posL ns k ≤ ns.length := by
  unfold posL
  exact (List.takeWhile_prefix _).length_le
theorem pos_mem {ns : List (List UInt8)} {k : List UInt8} (hs : ns.Pairwise (· < ·)) (hk : k ∈ ns) : ns[posL ns k]? = some k := by
  obtain ⟨i, hi, hke⟩ := List.getElem_of_mem hk
  have := pos_at (x := k) (i := i) (k := k) hs (by rw [List.getElem?_eq_getElem hi, hke]) (fun y hy => by
    obtain ⟨j, hj, e⟩ := List.mem_take_iff_getElem.1 hy
    have := List.pairwise_iff_getElem.1 hs j i (by omega) hi (by omega)
    rw [e, hke] at this; exact this) (slt_irr k)
  rw [this.1, List.getElem?_eq_getElem hi, hke]
structure DR where
  fv : Cv
  sv : Cv
  L : List FC
  LS : List SC
  Pf : List (Value × List FC)
  Lv : List (Value × List VR)
  Lr : List (Value × List Rf)
  Ps : List (Value × List SC)
  Lh : List (Value × List (List UInt8 × Int))
/-- What the document's book lies in. -/
structure DOk (x : DR) (M : Bk) : Prop where
  f : (x.fv.1, x.L) ∈ x.Pf
  fs : FsOk x.Lv x.Lr x.L M.V
  s : (x.sv.1, x.LS) ∈ x.Ps
  sh : ShOk x.Lh x.LS M.S
def dbk (a : Nat) (M : Bk) : Asrt := ex fun x : DR => all [cel true a 88 [x.fv.1, x.sv.1, I M.now], spool fC x.Pf, spool vC x.Lv, spool rfC x.Lr, spool shC x.Ps, spool hC x.Lh, pur (DOk x M)]
theorem E_dbk (h : ∀ fv sv L LS Pf Lv Lr Ps Lh, DOk ⟨fv, sv, L, LS, Pf, Lv, Lr, Ps, Lh⟩ M → E B (cel true a 88 [fv.1, sv.1, I M.now] :: spool fC Pf :: spool vC Lv :: spool rfC Lr :: spool shC Ps :: spool hC Lh :: H) W) : E B (dbk a M :: H) W := by
  refine E_ex fun x => E_all ?_
  refine E_find (a := pur (DOk x M)) (by repeat (first | exact Find.here | apply Find.there)) (E_pur fun hr => ?_)
  exact h x.fv x.sv x.L x.LS x.Pf x.Lv x.Lr x.Ps x.Lh hr
theorem E_dbkS {fv sv : Cv} {L : List FC} {LS : List SC} {Pf : List (Value × List FC)} {Lv : List (Value × List VR)} {Lr : List (Value × List Rf)} {Ps : List (Value × List SC)} {Lh : List (Value × List (List UInt8 × Int))} {n : Int}
    (hd : DOk ⟨fv, sv, L, LS, Pf, Lv, Lr, Ps, Lh⟩ M) (hn : n = M.now := by rfl) (h : E B (dbk a M :: H) W) : E B (cel true a 88 [fv.1, sv.1, I n] :: spool fC Pf :: spool vC Lv :: spool rfC Lr :: spool shC Ps :: spool hC Lh :: H) W := by
  subst hn
  refine E_pur' hd ?_
  have h' := E_all' (E_ex' (f := fun x : DR => all [cel true a 88 [x.fv.1, x.sv.1, I M.now], spool fC x.Pf, spool vC x.Lv, spool rfC x.Lr, spool shC x.Ps, spool hC x.Lh, pur (DOk x M)]) ⟨fv, sv, L, LS, Pf, Lv, Lr, Ps, Lh⟩ h)
  exact E_same (by repeat (first | exact Same.refl | (refine Same.cons (by repeat (first | exact Find.here | apply Find.there)) ?_) | (refine Same.drop ?_))) h'
variable {fv sv : Cv} {L : List FC} {LS : List SC} {Pf : List (Value × List FC)} {Lv : List (Value × List VR)} {Lr : List (Value × List Rf)} {Ps : List (Value × List SC)} {Lh : List (Value × List (List UInt8 × Int))}
theorem DOk.len (hd : DOk ⟨fv, sv, L, LS, Pf, Lv, Lr, Ps, Lh⟩ M) : L.length = (nms M.V).length := by rw [← hd.fs.1, List.length_map]
theorem DOk.lenS (hd : DOk ⟨fv, sv, L, LS, Pf, Lv, Lr, Ps, Lh⟩ M) : LS.length = M.S.length := by rw [← hd.sh.1, List.length_map]
theorem DOk.get (hd : DOk ⟨fv, sv, L, LS, Pf, Lv, Lr, Ps, Lh⟩ M) {i : Nat} {k : List UInt8} (h : (nms M.V)[i]? = some k) : ∃ c l, L[i]? = some (k, c) ∧ VOk Lv Lr c.1 l (fof M.V k) := by
  rw [← hd.fs.1, List.getElem?_map] at h
  cases hp : L[i]? with
  | none => rw [hp] at h; cases h
  | some p =>
    rw [hp] at h
    obtain ⟨k', c⟩ := p
    cases h
    obtain ⟨l, hl⟩ := hd.fs.2 _ (List.mem_of_getElem? hp)
    exact ⟨c, l, rfl, hl⟩
theorem DOk.getS (hd : DOk ⟨fv, sv, L, LS, Pf, Lv, Lr, Ps, Lh⟩ M) {i : Nat} {s : Sn} (h : M.S[i]? = some s) : ∃ c, LS[i]? = some (s, c) ∧ (c.1, s.held) ∈ Lh := by
  rw [← hd.sh.1, List.getElem?_map] at h
  cases hp : LS[i]? with
  | none => rw [hp] at h; cases h
  | some p =>
    rw [hp] at h
    obtain ⟨s', c⟩ := p
    cases h
    exact ⟨c, rfl, hd.sh.2 _ (List.mem_of_getElem? hp)⟩
theorem snm (M : Bk) (i : Nat) : (M.S.map fun s : Sn => s.name)[i]? = (M.S[i]?).map fun s : Sn => s.name := List.getElem?_map ..
theorem nms_len32 (hd : DOk ⟨fv, sv, L, LS, Pf, Lv, Lr, Ps, Lh⟩ M) (hw : Inv M) : L.length ≤ 64 := by rw [hd.len]; exact hw.nl
attribute [local irreducible] S.pick S.ld S.ldN S.st S.box S.nc S.fad S.ixS S.ixA S.chr S.prt S.ext S.bin S.sh S.sbin S.beq S.neg1 S.com1 S.not1 S.cvt S.str1 S.lenS S.len S.cap S.lenM S.mx S.mn S.mkM S.cond S.gd S.fa S.dr S.rck S.join S.loop S.cvv S.eqv S.slc S.slcS S.b2s S.lk V U CF Gives E cel mpb osl ros dct dit itr lpo dfo
set_option maxRecDepth 8000
attribute [local irreducible] bk dbk
theorem fileD {k : List UInt8} (hd : DOk ⟨fv, sv, L, LS, Pf, Lv, Lr, Ps, Lh⟩ M) (hw : Inv M) (h : E B (cel true a 88 [fv.1, sv.1, I M.now] :: spool fC Pf :: spool vC Lv :: spool rfC Lr :: spool shC Ps :: spool hC Lh :: H) (K (.tuple #[I (posL (nms M.V) k), .bool (decide (k ∈ nms M.V))]))) : E B (cel true a 88 [fv.1, sv.1, I M.now] :: spool fC Pf :: spool vC Lv :: spool rfC Lr :: spool shC Ps :: spool hC Lh :: H) (CF Tryz.prog 44 [ptr a, str k] K) := by
  have hL := nms_len32 hd hw
  have hns := nms_lt hw.v.n
  have hlen := hd.len
  refine E_mono (W := s44 _ _ K) ?_ fun _ => c44
  unfold s44
  have rf : ∀ H, Rs B (spool fC Pf :: H) fv.1 fC L := rs_pool hd.f
  refine E_loop (n := 3) (σ := Nat) (fun i => i ≤ L.length ∧ ∀ y ∈ (nms M.V).take i, y < k) (fun i => [ptr a, str k, I i]) (fun _ => cel true a 88 [fv.1, sv.1, I M.now] :: spool fC Pf :: spool vC Lv :: spool rfC Lr :: spool shC Ps :: spool hC Lh :: H) (fun i => L.length - i) 0 (fun _ => rfl) rfl ⟨Nat.zero_le _, by simp⟩ (fun W hW => sm hW) ?_
  rintro i K0 ⟨hi, ha⟩ hk0
  refine E_fa fun _ => ?_
  by_cases hil : (i : Int) < (L.length : Int)
  · have hx : (nms M.V)[i]? = some (nms M.V)[i] := List.getElem?_eq_getElem (by omega)
    generalize (nms M.V)[i] = x at hx
    obtain ⟨p, hx', hpx⟩ : ∃ p, L[i]? = some p ∧ p.1 = x := by
      obtain ⟨c, l, h1, _⟩ := hd.get hx
      exact ⟨_, h1, rfl⟩
    subst hpx
    have hle := fun hn : ¬ p.1 < k => pos_at hns hx ha hn
    refine E_join1 [ptr a, str k, I i, .bool (decide (p.1 < k))] (cel true a 88 [fv.1, sv.1, I M.now] :: spool fC Pf :: spool vC Lv :: spool rfC Lr :: spool shC Ps :: spool hC Lh :: H) (fun q hq => ?_) ?_
    · (repeat first | refine gS ?_ | refine gA fun _ => ?_ | refine gX fun _ _ => ?_ | refine gT ?_ | refine gF ?_ | refine gI ?_)
      exact sm hq
    · refine E_fa fun _ => ?_
      refine E_if (fun hlt => ?_) (fun hlt => ?_)
      · refine E_addI (by omega) (by omega) ?_
        refine hk0 (i + 1) ⟨by omega, fun y hy => ?_⟩ (by omega)
        rw [List.take_add_one, hx] at hy
        rcases List.mem_append.1 hy with hy | hy
        · exact ha y hy
        · simp at hy; subst hy; exact hlt
      · obtain ⟨e1, e2⟩ := hle hlt
        rw [e1, decide_eq_decide.2 e2] at h
        (repeat first | refine gS ?_ | refine gA fun _ => ?_ | refine gX fun _ _ => ?_ | refine gT ?_ | refine gF ?_ | refine gI ?_)
        exact sm h
  · have hie : i = (nms M.V).length := by omega
    have hall := pos_end (ns := nms M.V) (k := k) (by rw [hie, List.take_length] at ha; exact ha)
    rw [hall.1, decide_eq_false hall.2, ← hie] at h
    refine E_join1 [ptr a, str k, I i, .bool false] (cel true a 88 [fv.1, sv.1, I M.now] :: spool fC Pf :: spool vC Lv :: spool rfC Lr :: spool shC Ps :: spool hC Lh :: H) (fun q hq => ?_) ?_
    · (repeat first | refine gS ?_ | refine gA fun _ => ?_ | refine gX fun _ _ => ?_ | refine gT ?_ | refine gF ?_ | refine gI ?_)
      exact sm hq
    · refine E_fa fun _ => ?_
      refine E_ff ?_
      (repeat first | refine gS ?_ | refine gA fun _ => ?_ | refine gX fun _ _ => ?_ | refine gT ?_ | refine gF ?_ | refine gI ?_)
      exact sm h
theorem shotD {k : List UInt8} (hd : DOk ⟨fv, sv, L, LS, Pf, Lv, Lr, Ps, Lh⟩ M) (hw : Inv M) (h : E B (cel true a 88 [fv.1, sv.1, I M.now] :: spool fC Pf :: spool vC Lv :: spool rfC Lr :: spool shC Ps :: spool hC Lh :: H) (K (.tuple #[I (posL (M.S.map fun s : Sn => s.name) k), .bool (decide (k ∈ M.S.map fun s : Sn => s.name))]))) : E B (cel true a 88 [fv.1, sv.1, I M.now] :: spool fC Pf :: spool vC Lv :: spool rfC Lr :: spool shC Ps :: spool hC Lh :: H) (CF Tryz.prog 47 [ptr a, str k] K) := by
  have hL := (show LS.length ≤ 64 by have := hd.lenS; have := hw.s16; omega)
  have hns := List.pairwise_map.2 hw.ss
  have hlen : LS.length = (M.S.map fun s : Sn => s.name).length := by rw [List.length_map]; exact hd.lenS
  refine E_mono (W := s47 _ _ K) ?_ fun _ => c47
  unfold s47
  have rf : ∀ H, Rs B (spool shC Ps :: H) sv.1 shC LS := rs_pool hd.s
  refine E_loop (n := 3) (σ := Nat) (fun i => i ≤ LS.length ∧ ∀ y ∈ (M.S.map fun s : Sn => s.name).take i, y < k) (fun i => [ptr a, str k, I i]) (fun _ => cel true a 88 [fv.1, sv.1, I M.now] :: spool fC Pf :: spool vC Lv :: spool rfC Lr :: spool shC Ps :: spool hC Lh :: H) (fun i => LS.length - i) 0 (fun _ => rfl) rfl ⟨Nat.zero_le _, by simp⟩ (fun W hW => sm hW) ?_
  rintro i K0 ⟨hi, ha⟩ hk0
  refine E_fa fun _ => ?_
  by_cases hil : (i : Int) < (LS.length : Int)
  · have hx : (M.S.map fun s : Sn => s.name)[i]? = some (M.S.map fun s : Sn => s.name)[i] := List.getElem?_eq_getElem (by omega)
    generalize (M.S.map fun s : Sn => s.name)[i] = x at hx
    obtain ⟨p, hx', hpx⟩ : ∃ p, LS[i]? = some p ∧ p.1.name = x := by
      rw [snm] at hx
      obtain ⟨t, ht, rfl⟩ := Option.map_eq_some_iff.1 hx
      obtain ⟨c, h1, _⟩ := hd.getS ht
      exact ⟨_, h1, rfl⟩
    subst hpx
    have hle := fun hn : ¬ p.1.name < k => pos_at hns hx ha hn
    refine E_join1 [ptr a, str k, I i, .bool (decide (p.1.name < k))] (cel true a 88 [fv.1, sv.1, I M.now] :: spool fC Pf :: spool vC Lv :: spool rfC Lr :: spool shC Ps :: spool hC Lh :: H) (fun q hq => ?_) ?_
    · (repeat first | refine gS ?_ | refine gA fun _ => ?_ | refine gX fun _ _ => ?_ | refine gT ?_ | refine gF ?_ | refine gI ?_)
      exact sm hq
    · refine E_fa fun _ => ?_
      refine E_if (fun hlt => ?_) (fun hlt => ?_)
      · refine E_addI (by omega) (by omega) ?_
        refine hk0 (i + 1) ⟨by omega, fun y hy => ?_⟩ (by omega)
        rw [List.take_add_one, hx] at hy
        rcases List.mem_append.1 hy with hy | hy
        · exact ha y hy
        · simp at hy; subst hy; exact hlt
      · obtain ⟨e1, e2⟩ := hle hlt
        rw [e1, decide_eq_decide.2 e2] at h
        (repeat first | refine gS ?_ | refine gA fun _ => ?_ | refine gX fun _ _ => ?_ | refine gT ?_ | refine gF ?_ | refine gI ?_)
        exact sm h
  · have hie : i = (M.S.map fun s : Sn => s.name).length := by omega
    have hall := pos_end (ns := M.S.map fun s : Sn => s.name) (k := k) (by rw [hie, List.take_length] at ha; exact ha)
    rw [hall.1, decide_eq_false hall.2, ← hie] at h
    refine E_join1 [ptr a, str k, I i, .bool false] (cel true a 88 [fv.1, sv.1, I M.now] :: spool fC Pf :: spool vC Lv :: spool rfC Lr :: spool shC Ps :: spool hC Lh :: H) (fun q hq => ?_) ?_
    · (repeat first | refine gS ?_ | refine gA fun _ => ?_ | refine gX fun _ _ => ?_ | refine gT ?_ | refine gF ?_ | refine gI ?_)
      exact sm hq
    · refine E_fa fun _ => ?_
      refine E_ff ?_
      (repeat first | refine gS ?_ | refine gA fun _ => ?_ | refine gX fun _ _ => ?_ | refine gT ?_ | refine gF ?_ | refine gI ?_)
      exact sm h
end Go.Proofs.YtjafpncngmbcdaaGreat.Nam
