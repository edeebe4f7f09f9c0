/-
  Names: a book on the heap; New, at, live, held, Next.
-/
import Derived.Test.YtjafpncngmbcdaaGreatNmF
set_option linter.unusedSimpArgs false
set_option linter.unusedVariables false
set_option linter.unusedSectionVars false
namespace Go.Proofs.YtjafpncngmbcdaaGreat.Nam
open Go Go.SL Go.Proofs Go.Proofs.YtjafpncngmbcdaaGreat.Sh
variable {B : World} {H : List Asrt} {K : Value → WT} {W : WT} {a : Nat} {M : Bk}
theorem u_pBook : Tryz.prog.underlying 23 = some (.pointer 81) := by kernel_rfl
theorem u_files : Tryz.prog.underlying 78 = some (.map 9 63) := by kernel_rfl
theorem u_shots : Tryz.prog.underlying 79 = some (.map 9 90) := by kernel_rfl
theorem u_vers : Tryz.prog.underlying 63 = some (.slice 31) := by kernel_rfl
theorem u_refs : Tryz.prog.underlying 29 = some (.slice 38) := by kernel_rfl
theorem u_helds : Tryz.prog.underlying 44 = some (.slice 53) := by kernel_rfl
theorem key_files : Key Tryz.prog 78 9 63 .string := ⟨u_files, u_string, rfl⟩
theorem key_shots : Key Tryz.prog 79 9 90 .string := ⟨u_shots, u_string, rfl⟩
theorem elt_ver : Elt Tryz.prog 31 4 48 [I 0, I 0, nil, .bool false] := elt_of (zv := .agg #[I 0, I 0, nil, .bool false]) (by kernel_rfl) rfl rfl
theorem elt_held : Elt Tryz.prog 53 2 24 [.string ⟨#[]⟩, I 0] := elt_of (zv := .agg #[.string ⟨#[]⟩, I 0]) (by kernel_rfl) rfl rfl
theorem str_held : Str Tryz.prog 53 [(0, 1), (1, 1)] [.string ⟨#[]⟩, I 0] := str_of (zv := .agg #[.string ⟨#[]⟩, I 0]) (by kernel_rfl) (by kernel_rfl) rfl
theorem str_book : Str Tryz.prog 81 [(0, 1), (1, 1), (2, 1)] [.map none, .map none, I 0] := str_of (zv := .agg #[.map none, .map none, I 0]) (by kernel_rfl) (by kernel_rfl) rfl
theorem eq_held (a b : List UInt8 × Int) (w : World) : (Op.equal 53 (.agg #[str a.1, I a.2]) (.agg #[str b.1, I b.2])).run Tryz.prog w = .ok (decide (a = b)) w := by
  rw [run_eqStruct (xs := [str a.1, I a.2]) (ys := [str b.1, I b.2]) (bs := [decide (a.1 = b.1), decide (a.2 = b.2)]) [9, 3] (by kernel_rfl) (by kernel_rfl) (by kernel_rfl) rfl (fun i t b' h1 h2 => by
    match i, h1, h2 with
    | 0, h1, h2 => cases h1; cases h2; exact ⟨_, _, rfl, rfl, eqV_str u_string⟩
    | 1, h1, h2 => cases h1; cases h2; exact ⟨_, _, rfl, rfl, eqV_int u_int⟩
    | n + 2, h1, h2 => simp at h1) w]
  obtain ⟨a1, a2⟩ := a
  obtain ⟨b1, b2⟩ := b
  by_cases h1 : a1 = b1 <;> by_cases h2 : a2 = b2 <;> simp [h1, h2]
/-- A generation, and where its refs lie. -/
abbrev VR := Ver × Cv
def vC (p : VR) : List Value := [I p.1.gen, I p.1.time, p.2.1, .bool p.1.gone]
instance : Enc vC 4 := ⟨fun _ => rfl, fun p y hy => by
  simp [vC] at hy
  rcases hy with rfl | rfl | rfl | rfl
  all_goals first | rfl | exact p.2.2⟩
instance {v : VR} : AtLen (vC v) 4 := ⟨rfl⟩
instance {v : VR} : AllC (vC v) := ⟨fun y hy => Enc.cell (enc := vC) v y hy⟩
instance {v : VR} : AtI (vC v) 0 (I v.1.gen) := ⟨rfl⟩
instance {v : VR} : AtI (vC v) 1 (I v.1.time) := ⟨rfl⟩
instance {v : VR} : AtI (vC v) 2 v.2.1 := ⟨rfl⟩
instance {v : VR} : AtI (vC v) 3 (.bool v.1.gone) := ⟨rfl⟩
abbrev shV (s : Sn) (hv : Value) : Value := .agg #[str s.name, I s.time, hv]
structure R where
  r1 : Nat
  r2 : Nat
  kf : List (List UInt8 × Value)
  ks : List (List UInt8 × Value)
  Lv : List (Value × List VR)
  Lr : List (Value × List Rf)
  Lh : List (Value × List (List UInt8 × Int))
/-- Generations that lie in a slice l, each one's refs in the pool. -/
structure VOk (Lv : List (Value × List VR)) (Lr : List (Value × List Rf)) (v : Value) (l : List VR) (V : List Ver) : Prop where
  m : (v, l) ∈ Lv
  e : l.map (·.1) = V
  r : ∀ p ∈ l, (p.2.1, p.1.refs) ∈ Lr
def FOk (Lv : List (Value × List VR)) (Lr : List (Value × List Rf)) (kf : List (List UInt8 × Value)) (V : List Ver) : Prop :=
  ∀ k, (lk kf k = none ∧ fof V k = []) ∨ ∃ v l, lk kf k = some v ∧ VOk Lv Lr v l (fof V k) ∧ fof V k ≠ []
def SOk (Lh : List (Value × List (List UInt8 × Int))) (ks : List (List UInt8 × Value)) (S : List Sn) : Prop :=
  ∀ k, (lk ks k = none ∧ sof S k = none) ∨ ∃ (hv : Cv) (s : Sn), lk ks k = some (shV s hv.1) ∧ sof S k = some s ∧ (hv.1, s.held) ∈ Lh
def bk (a : Nat) (M : Bk) : Asrt := ex fun x : R => all [cel true a 81 [.map (some x.r1), .map (some x.r2), I M.now], dct kL true x.r1 x.kf, dct kL true x.r2 x.ks, spool vC x.Lv, spool rfC x.Lr, spool hC x.Lh, pur (FOk x.Lv x.Lr x.kf M.V ∧ SOk x.Lh x.ks M.S)]
theorem E_bk {a : Nat} {M : Bk} (h : ∀ r1 r2 kf ks Lv Lr Lh, FOk Lv Lr kf M.V → SOk Lh ks M.S →
    E B (cel true a 81 [.map (some r1), .map (some r2), I M.now] :: dct kL true r1 kf :: dct kL true r2 ks :: spool vC Lv :: spool rfC Lr :: spool hC Lh :: H) W) : E B (bk a M :: H) W := by
  refine E_ex fun x => E_all ?_
  refine E_find (a := pur (FOk x.Lv x.Lr x.kf M.V ∧ SOk x.Lh x.ks M.S)) (by repeat (first | exact Find.here | apply Find.there)) (E_pur fun hr => ?_)
  exact h x.r1 x.r2 x.kf x.ks x.Lv x.Lr x.Lh hr.1 hr.2
theorem E_bkS {a : Nat} {M : Bk} (r1 r2 : Nat) {n : Int} {kf ks : List (List UInt8 × Value)} {Lv : List (Value × List VR)} {Lr : List (Value × List Rf)} {Lh : List (Value × List (List UInt8 × Int))}
    (hf : FOk Lv Lr kf M.V) (hs : SOk Lh ks M.S) (hn : n = M.now := by rfl) (h : E B (bk a M :: H) W) :
    E B (cel true a 81 [.map (some r1), .map (some r2), I n] :: dct kL true r1 kf :: dct kL true r2 ks :: spool vC Lv :: spool rfC Lr :: spool hC Lh :: H) W := by
  subst hn
  refine E_pur' (show FOk Lv Lr kf M.V ∧ SOk Lh ks M.S from ⟨hf, hs⟩) ?_
  have h' := E_all' (E_ex' (f := fun x : R => all [cel true a 81 [.map (some x.r1), .map (some x.r2), I M.now], dct kL true x.r1 x.kf, dct kL true x.r2 x.ks, spool vC x.Lv, spool rfC x.Lr, spool hC x.Lh, pur (FOk x.Lv x.Lr x.kf M.V ∧ SOk x.Lh x.ks M.S)]) ⟨r1, r2, kf, ks, Lv, Lr, Lh⟩ h)
  exact E_same (by repeat (first | exact Same.refl | (refine Same.cons (by repeat (first | exact Find.here | apply Find.there)) ?_) | (refine Same.drop ?_))) h'
theorem E_dnod {κ : Type} [DecidableEq κ] {enc : κ → Value} {o : Bool} {r : Nat} {kv : List (κ × Value)} (h : (kv.map (·.1)).Nodup → E B (dct enc o r kv :: H) W) : E B (dct enc o r kv :: H) W :=
  E_dopen fun _ _ hd => E_dshut hd (h hd.nod)
theorem fi {α : Type} (l : List α) (p : α → Bool) : (l.findIdx? p = none ∧ l.find? p = none) ∨ ∃ i x, l.findIdx? p = some i ∧ l[i]? = some x ∧ l.find? p = some x := by
  cases h : l.findIdx? p with
  | none =>
    refine .inl ⟨rfl, List.find?_eq_none.2 fun x hx => ?_⟩
    simp [List.findIdx?_eq_none_iff.1 h x hx]
  | some i =>
    obtain ⟨hl, hp, hno⟩ := List.findIdx?_eq_some_iff_getElem.1 h
    refine .inr ⟨i, l[i], rfl, List.getElem?_eq_getElem hl, ?_⟩
    rw [List.find?_eq_some_iff_getElem]
    exact ⟨hp, i, hl, rfl, fun j hj => by simpa using hno j hj⟩
def genP (g : Int) (v : Ver) : Bool := decide (v.gen = g)
theorem idx_map {l : List VR} {V : List Ver} (e : l.map (·.1) = V) (g : Int) : l.findIdx? (fun p => genP g p.1) = V.findIdx? (genP g) := by
  rw [← e, List.findIdx?_map]; rfl
/-- Names are unlike. -/
def SU (S : List Sn) : Prop := ∀ s ∈ S, sof S s.name = some s
attribute [local irreducible] S.pick S.ld S.ldN S.st S.box S.nc S.fad S.ixS S.ixA S.chr S.prt S.ext S.bin S.sh S.sbin S.beq S.neg1 S.com1 S.not1 S.cvt S.str1 S.lenS S.len S.cap S.lenM S.mx S.mn S.mkM S.cond S.gd S.fa S.dr S.rck S.join S.loop S.cvv S.eqv S.slc S.slcS S.b2s S.lk V U CF Gives E cel mpb osl ros dct dit itr lpo dfo
set_option maxRecDepth 8000
attribute [local irreducible] bk
theorem new (h : ∀ a, E B (bk a ⟨[], [], 0⟩ :: H) (K (ptr a))) : E B H (CF Tryz.prog 31 [] K) := by
  refine E_mono (W := s31 K) ?_ fun _ => c31
  unfold s31
  refine E_mkM fun r1 => ?_
  refine E_dnew (κ := List UInt8) (enc := kL) ?_
  refine E_mkM fun r2 => ?_
  refine E_dnew (κ := List UInt8) (enc := kL) ?_
  refine E_build (l := [.map (some r1), .map (some r2), I 0]) str_book ?_
  (repeat first | refine gS ?_ | refine gA fun _ => ?_ | refine gX fun _ _ => ?_ | refine gT ?_ | refine gF ?_ | refine gI ?_)
  rename_i a
  refine pool_new (slQ vC) ?_
  refine pool_new (slQ rfC) ?_
  refine pool_new (slQ hC) ?_
  refine sm (G := cel true a 81 [.map (some r1), .map (some r2), I 0] :: dct kL true r1 [] :: dct kL true r2 [] :: spool vC [] :: spool rfC [] :: spool hC [] :: H) ?_
  exact E_bkS (M := ⟨[], [], 0⟩) r1 r2 (fun k => .inl ⟨rfl, rfl⟩) (fun k => .inl ⟨rfl, rfl⟩) rfl (h a)
/-- The first generation of a number in a slice. -/
theorem idxGen {v : Value} {l : List VR} {g : Int} {n : List UInt8} {b : Nat} [hv : Rs B H v vC l] (hn : l.length ≤ 140737488355328) (h : E B (cel true b 53 [str n, I g] :: H) (K (I (idxI (l.findIdx? fun p => genP g p.1))))) :
    E B (cel true b 53 [str n, I g] :: H) (CF Tryz.prog 91 [v, .func (.func 92) #[] #[ptr b]] K) := by
  refine E_mono (W := s91 _ _ K) ?_ fun _ => c91
  rw [s91_eq]
  refine idxC_ok (C := [cel true b 53 [str n, I g]]) (hv := show Rs B (cel true b 53 [str n, I g] :: H) v vC l from rs_there) (enc := vC) (p := fun p : VR => genP g p.1) hn (fun p _ H' K' hK => ?_) h
  refine E_cvv (by kernel_rfl) ?_
  show E B (cel true b 53 [str n, I g] :: H') (CF Tryz.prog 92 [.agg (vC p).toArray, ptr b] K')
  refine E_mono (W := s92 _ _ K') ?_ fun _ => c92
  unfold s92
  (repeat first | refine gS ?_ | refine gA fun _ => ?_ | refine gX fun _ _ => ?_ | refine gT ?_ | refine gF ?_ | refine gI ?_)
  have hK2 : E B (cel true b 53 [str n, I g] :: H') (K' (.bool (genP g p.1))) := hK
  exact sm hK2
theorem at_ {n : List UInt8} {g : Int} (hn : (fof M.V n).length ≤ 140737488355328) (h : E B (bk a M :: H) (K (I (idxI ((fof M.V n).findIdx? (genP g)))))) : E B (bk a M :: H) (CF Tryz.prog 43 [ptr a, .agg #[str n, I g]] K) := by
  refine E_mono (W := s43 _ _ K) ?_ fun _ => c43
  unfold s43
  refine E_box (vs := [str n, I g]) fun b => ?_
  refine fd (a := bk a M) (E_bk fun r1 r2 kf ks Lv Lr Lh hf hs => ?_)
  have hend := E_bkS (a := a) (M := M) r1 r2 (n := M.now) hf hs rfl h
  (repeat first | refine gS ?_ | refine gA fun _ => ?_ | refine gX fun _ _ => ?_ | refine gT ?_ | refine gF ?_ | refine gI ?_)
  rcases hf n with ⟨h1, h2⟩ | ⟨v, l, h1, h2, h3⟩
  · refine E_dlk0 (κ := List UInt8) h1 ?_
    refine fd (a := cel true b 53 [str n, I g]) ?_
    refine idxGen (l := []) (hv := ⟨fun _ => .inl ⟨rfl, rfl, rfl⟩⟩) (by simp) ?_
    rw [h2] at hend
    exact sm hend
  · refine E_dlk1 (κ := List UInt8) h1 ?_
    have rv := rs_pool (B := B) (enc := vC) h2.m
    refine fd (a := cel true b 53 [str n, I g]) ?_
    refine idxGen (l := l) (by rw [← h2.e] at hn; simpa using hn) ?_
    rw [idx_map h2.e]
    exact sm hend
theorem live {n : List UInt8} {g : Int} (hn : (fof M.V n).length ≤ 140737488355328) (h : E B (bk a M :: H) (K (.bool (liveB M.V n g)))) : E B (bk a M :: H) (CF Tryz.prog 41 [ptr a, .agg #[str n, I g]] K) := by
  have fin : ∀ b : Bool, liveB M.V n g = b → E B (bk a M :: H) (K (.bool b)) := fun b hb => hb ▸ h
  unfold liveB genV at fin
  refine E_mono (W := s41 _ _ K) ?_ fun _ => c41
  unfold s41
  refine E_box (vs := [str n, I g]) fun b => ?_
  (repeat first | refine gS ?_ | refine gA fun _ => ?_ | refine gX fun _ _ => ?_ | refine gT ?_ | refine gF ?_ | refine gI ?_)
  refine fd (a := bk a M) (at_ hn ?_)
  rcases fi (fof M.V n) (genP g) with ⟨e1, e2⟩ | ⟨i, x, e1, e2, e3⟩
  · rw [e1, show idxI none = (-1 : Int) from rfl]
    (repeat first | refine gS ?_ | refine gA fun _ => ?_ | refine gX fun _ _ => ?_ | refine gT ?_ | refine gF ?_ | refine gI ?_)
    exact sm (fin false (by rw [show (fun v : Ver => decide (v.gen = g)) = genP g from rfl, e2]))
  · rw [e1, show idxI (some i) = (i : Int) from rfl]
    have hi : (0 : Int) ≤ (i : Int) := by omega
    (repeat first | refine gS ?_ | refine gA fun _ => ?_ | refine gX fun _ _ => ?_ | refine gT ?_ | refine gF ?_ | refine gI ?_)
    refine E_bk fun r1 r2 kf ks Lv Lr Lh hf hs => ?_
    have hend := fun c hc => E_bkS (a := a) (M := M) r1 r2 (n := M.now) hf hs rfl (fin c hc)
    rcases hf n with ⟨h1, h2⟩ | ⟨v, l, h1, h2, h3⟩
    · rw [h2] at e2; cases e2
    have rv := rs_pool (B := B) (enc := vC) h2.m
    (repeat first | refine gS ?_ | refine gA fun _ => ?_ | refine gX fun _ _ => ?_ | refine gT ?_ | refine gF ?_ | refine gI ?_)
    refine E_dlk1 (κ := List UInt8) h1 ?_
    have hx : ∃ p, l[i]? = some p ∧ p.1 = x := by
      rw [← h2.e, List.getElem?_map] at e2
      cases hp : l[i]? with
      | none => rw [hp] at e2; cases e2
      | some p => rw [hp] at e2; exact ⟨p, rfl, Option.some.inj e2⟩
    obtain ⟨p, hp, hpx⟩ := hx
    (repeat first | refine gS ?_ | refine gA fun _ => ?_ | refine gX fun _ _ => ?_ | refine gT ?_ | refine gF ?_ | refine gI ?_)
    refine gY ?_
    (repeat first | refine gS ?_ | refine gA fun _ => ?_ | refine gX fun _ _ => ?_ | refine gT ?_ | refine gF ?_ | refine gI ?_)
    refine sm (hend _ ?_)
    rw [show (fun v : Ver => decide (v.gen = g)) = genP g from rfl, e3, hpx]
/-- slices.Contains of generations. -/
theorem hasHeld {v : Value} {l : List (List UInt8 × Int)} {q : List UInt8 × Int} [hv : Rs B H v hC l] (hn : l.length ≤ 140737488355328) (h : E B H (K (.bool (decide (q ∈ l))))) : E B H (CF Tryz.prog 131 [v, .agg #[str q.1, I q.2]] K) := by
  refine E_mono (W := s131 _ _ K) ?_ fun _ => c131
  unfold s131
  refine E_box (vs := [str q.1, I q.2]) fun b0 => ?_
  (repeat first | refine gS ?_ | refine gA fun _ => ?_ | refine gX fun _ _ => ?_ | refine gT ?_ | refine gF ?_ | refine gI ?_)
  refine E_mono (W := s147 _ _ _) ?_ fun _ => c147
  unfold s147
  refine E_box (vs := [str q.1, I q.2]) fun b => ?_
  refine E_rslen (v := v) (l := l) ?_
  refine E_loop (n := 4) (σ := Nat) (fun i => i ≤ l.length ∧ q ∉ l.take i) (fun i => [v, ptr b, I l.length, I i]) (fun _ => cel true b 53 [str q.1, I q.2] :: H) (fun i => l.length - i) 0 (fun _ => rfl) rfl ⟨Nat.zero_le _, by simp⟩ (fun W hW => sm hW) ?_
  rintro i K0 ⟨hi, ha⟩ hk
  refine E_fa fun _ => ?_
  refine E_lss ?_
  refine E_if (fun hc => ?_) (fun hc => ?_)
  · have hx : l[i]? = some l[i] := List.getElem?_eq_getElem (by omega)
    have hxm := List.mem_of_getElem? hx
    generalize l[i] = x at hx hxm
    (repeat first | refine gS ?_ | refine gA fun _ => ?_ | refine gX fun _ _ => ?_ | refine gT ?_ | refine gF ?_ | refine gI ?_)
    refine E_aeq (xs := #[str q.1, I q.2]) (ys := #[str x.1, I x.2]) (b := decide (q = x)) (by kernel_rfl) (fun w => eq_held q x w) ?_
    refine E_if (fun e => ?_) (fun e => ?_)
    · subst e
      refine E_geq ?_
      rw [decide_eq_true hxm] at h
      rw [decide_eq_true (show (0 : Int) ≤ (i : Int) by omega)]
      exact sm h
    · refine E_addI (by omega) (by omega) ?_
      refine hk (i + 1) ⟨by omega, ?_⟩ (by omega)
      rw [List.take_add_one, hx]
      simp [ha, e]
  · have : i = l.length := by omega
    subst this
    rw [List.take_length] at ha
    refine E_geq ?_
    rw [decide_eq_false ha] at h
    exact sm h
theorem held {n : List UInt8} {g : Int} (hS : SU M.S) (hl : ∀ s ∈ M.S, s.held.length ≤ 140737488355328) (h : E B (bk a M :: H) (K (.bool (heldB M.S n g)))) : E B (bk a M :: H) (CF Tryz.prog 100 [ptr a, .agg #[str n, I g]] K) := by
  refine E_mono (W := s100 _ _ K) ?_ fun _ => c100
  unfold s100
  refine E_box (vs := [str n, I g]) fun b => ?_
  refine fd (a := bk a M) (E_bk fun r1 r2 kf ks Lv Lr Lh hf hs => ?_)
  have hend := E_bkS (a := a) (M := M) r1 r2 (n := M.now) hf hs rfl h
  refine fd (a := dct kL true r2 ks) (E_dnod fun hnod => ?_)
  (repeat first | refine gS ?_ | refine gA fun _ => ?_ | refine gX fun _ _ => ?_ | refine gT ?_ | refine gF ?_ | refine gI ?_)
  refine E_drange (κ := List UInt8) u_shots fun it => ?_
  refine E_loop (n := 2) (σ := List (List UInt8 × Value) × Option (List UInt8 × Value)) (fun s => ∃ done, (done ++ s.1).Perm ks ∧ ∀ p ∈ done, ∀ t, sof M.S p.1 = some t → (n, g) ∉ t.held)
    (fun s => [ptr b, .pointer (some ⟨it, 0, none⟩)])
    (fun s => dit kL true it r2 ks s.1 s.2 :: cel true b 53 [str n, I g] :: cel true a 81 [.map (some r1), .map (some r2), I M.now] :: dct kL true r1 kf :: spool vC Lv :: spool rfC Lr :: spool hC Lh :: H)
    (fun s => s.1.length) (ks, none) (fun s => rfl) rfl ⟨[], by simp, by simp⟩ (fun W hW => sm hW) ?_
  rintro ⟨rest, cur⟩ K0 ⟨done, hp, hd⟩ hk
  simp only at hp hd hk ⊢
  refine E_fa fun _ => ?_
  refine E_dnext (κ := List UInt8) (fun hr0 => ?_) (fun p rest' hp' => ?_)
  · subst hr0
    (repeat first | refine gS ?_ | refine gA fun _ => ?_ | refine gX fun _ _ => ?_ | refine gT ?_ | refine gF ?_ | refine gI ?_)
    refine fd (a := dit kL true it r2 ks [] none) (E_idone ?_)
    have e : heldB M.S n g = false := by
      unfold heldB
      rw [List.any_eq_false]
      intro t hts
      simp only [decide_eq_true_eq]
      have hsf := hS t hts
      rcases hs t.name with ⟨_, h2⟩ | ⟨hv, u, h1, h3, _⟩
      · rw [h2] at hsf; cases hsf
      · have hm : (t.name, shV u hv.1) ∈ done := by
          have := (hp.mem_iff (a := (t.name, shV u hv.1))).2 (lookup_mem h1)
          simpa using this
        exact hd _ hm t hsf
    rw [e] at hend
    exact sm hend
  · (repeat first | refine gS ?_ | refine gA fun _ => ?_ | refine gX fun _ _ => ?_ | refine gT ?_ | refine gF ?_ | refine gI ?_)
    refine E_dentry (κ := List UInt8) ?_
    (repeat first | refine gS ?_ | refine gA fun _ => ?_ | refine gX fun _ _ => ?_ | refine gT ?_ | refine gF ?_ | refine gI ?_)
    obtain ⟨k, v⟩ := p
    have hm : (k, v) ∈ ks := (hp.mem_iff).1 (List.mem_append_right _ ((hp'.mem_iff).2 (by simp)))
    have hlk : lk ks k = some v := lookup_of_mem hnod hm
    rcases hs k with ⟨h1, _⟩ | ⟨hv, t, h1, h3, h4⟩
    · rw [hlk] at h1; cases h1
    · have hv' : v = shV t hv.1 := by rw [hlk] at h1; exact Option.some.inj h1
      subst hv'
      have rv := rs_pool (B := B) (enc := hC) h4
      refine E_stW (vs := [str t.name, I t.time, hv.1]) rfl rfl ?_
      (repeat first | refine gS ?_ | refine gA fun _ => ?_ | refine gX fun _ _ => ?_ | refine gT ?_ | refine gF ?_ | refine gI ?_)
      refine hasHeld (q := (n, g)) (l := t.held) (hl t (sof_some h3).1) ?_
      refine E_if (fun hc => ?_) (fun hc => ?_)
      · have e : heldB M.S n g = true := by
          unfold heldB
          rw [List.any_eq_true]
          exact ⟨t, (sof_some h3).1, decide_eq_true hc⟩
        rw [e] at hend
        refine fd (a := dit kL true it r2 ks rest' (some (k, shV t hv.1))) (E_idone ?_)
        exact sm hend
      · have hk' := hk (rest', some (k, shV t hv.1)) ⟨done ++ [(k, shV t hv.1)], by
          simp only [List.append_assoc, List.singleton_append]
          exact (hp'.symm.append_left done).trans hp, fun p hpm u hu => by
          rcases List.mem_append.1 hpm with hpm | hpm
          · exact hd p hpm u hu
          · simp only [List.mem_singleton] at hpm
            subst hpm
            rw [h3] at hu
            cases hu
            exact hc⟩ (by simpa using hp'.length_eq ▸ Nat.lt_succ_self _)
        exact sm hk'
theorem next {n : List UInt8} (hn : (fof M.V n).length ≤ 140737488355328) (hg : ∀ v ∈ M.V, v.gen ≤ 9007199254740991 ∧ 1 ≤ v.gen) (h : E B (bk a M :: H) (K (I (nextG M.V n)))) : E B (bk a M :: H) (CF Tryz.prog 16 [ptr a, str n] K) := by
  refine E_mono (W := s16 _ _ K) ?_ fun _ => c16
  unfold s16
  refine E_peq u_pBook ?_
  refine E_ff ?_
  refine E_bk fun r1 r2 kf ks Lv Lr Lh hf hs => ?_
  have hend := E_bkS (a := a) (M := M) r1 r2 (n := M.now) hf hs rfl h
  (repeat first | refine gS ?_ | refine gA fun _ => ?_ | refine gX fun _ _ => ?_ | refine gT ?_ | refine gF ?_ | refine gI ?_)
  rcases hf n with ⟨h1, h2⟩ | ⟨v, l, h1, h2, h3⟩
  · refine E_dlk0 (κ := List UInt8) h1 ?_
    (repeat first | refine gS ?_ | refine gA fun _ => ?_ | refine gX fun _ _ => ?_ | refine gT ?_ | refine gF ?_ | refine gI ?_)
    unfold nextG at hend
    rw [h2] at hend
    exact sm hend
  · refine E_dlk1 (κ := List UInt8) h1 ?_
    have rv := rs_pool (B := B) (enc := vC) h2.m
    have hll : l.length = (fof M.V n).length := by rw [← h2.e, List.length_map]
    obtain ⟨x, hx, hxg⟩ := topG_some h3
    have hpos : 0 < l.length := by rw [hll]; exact List.length_pos_iff.2 h3
    have hp : ∃ p, l[l.length - 1]? = some p ∧ p.1 = x := by
      rw [← hll, ← h2.e, List.getElem?_map] at hx
      cases hp : l[l.length - 1]? with
      | none => rw [hp] at hx; cases hx
      | some p => rw [hp] at hx; exact ⟨p, rfl, Option.some.inj hx⟩
    obtain ⟨p, hp, hpx⟩ := hp
    have hxm := hg x (fof_mem.1 (List.mem_of_getElem? hx)).1
    refine E_rslen (v := v) (l := l) ?_
    refine E_eql ?_
    refine E_ifF (by omega) ?_
    refine E_rslen (v := v) (l := l) ?_
    refine E_subI (by omega) (by omega) ?_
    rw [show (l.length : Int) - 1 = ((l.length - 1 : Nat) : Int) by omega]
    refine E_rsix (v := v) (l := l) hp fun _ _ => ?_
    refine E_ptfad0 fun _ _ => ?_
    refine E_ptld ?_
    refine E_addI (by rw [hpx]; omega) (by rw [hpx]; omega) ?_
    unfold nextG at hend
    rw [hxg, ← hpx] at hend
    exact sm hend
end Go.Proofs.YtjafpncngmbcdaaGreat.Nam
