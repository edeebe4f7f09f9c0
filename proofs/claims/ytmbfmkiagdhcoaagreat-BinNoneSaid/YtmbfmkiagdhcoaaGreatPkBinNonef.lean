/-
  Part 6: Disk, OctM, SlotA, BnM, BnA, BnB, BnC, BnD, BnE, BnF.
-/
import Derived.Test.YtmbfmkiagdhcoaaGreatPkBinNonea
import Derived.Test.YtmbfmkiagdhcoaaGreatPkBinNoneb
import Derived.Test.YtmbfmkiagdhcoaaGreatPkBinNonec
import Derived.Test.YtmbfmkiagdhcoaaGreatPkBinNonee
set_option linter.unusedSimpArgs false
set_option linter.unusedVariables false
set_option linter.unusedSectionVars false
section
namespace Go.Proofs.YtmbfmkiagdhcoaaGreat.Disk
open Go Go.SL Go.Proofs Go.Proofs.YtmbfmkiagdhcoaaGreat.Sh
attribute [local irreducible] S.pick S.ld S.ldN S.st S.box S.nc S.fad S.ixS S.ixA S.chr S.prt S.ext S.bin S.sh S.sbin S.beq S.neg1 S.com1 S.not1 S.cvt S.str1 S.lenS S.len S.cap S.lenM S.mx S.mn S.mkM S.cond S.gd S.fa S.dr S.rck S.join S.loop S.cvv S.eqv S.slc S.slcS S.b2s S.lk V U CF Gives E cel mpb osl ros dct dit itr lpo dfo
theorem u_ints : Tryz.prog.underlying 110 = some (.slice 3) := by kernel_rfl
theorem u_int : Tryz.prog.underlying 3 = some (.int .i64) := by kernel_rfl
theorem u_mapIB : Tryz.prog.underlying 119 = some (.map 3 48) := by kernel_rfl
theorem elt_int : Elt Tryz.prog 3 1 8 [.int .i64 0] := elt_of (zv := .int .i64 0) (by kernel_rfl) rfl rfl
theorem key_mapIB : Key Tryz.prog 119 3 48 (.int .i64) := ⟨u_mapIB, u_int, rfl⟩
theorem sortOk : SortOk Tryz.prog 82 := ⟨fun blk off cap zs w h1 h2 h3 => Tryz.slices_Sort_int blk off cap zs w h1 h2 h3, fun p cap w => Tryz.slices_Sort_int_none p cap w⟩
variable {B : World} {H : List Asrt} {K : Value → WT}
theorem ints_snoc (zs : List Int) (k : Int) : ints zs ++ [.int .i64 k] = ints (zs ++ [k]) := by simp [ints]
theorem sortedKeys {o : Bool} {r : Nat} {kv : List (Int × Value)} {H' : List Asrt} [ht : TakD H kI o r kv H'] (hn : kv.length ≤ 1099511627776)
    (h : ∀ sv zs, zs.Perm (kv.map (·.1)) → E B (osl 3 1 sv kv.length (ints (sortI zs)) :: dct kI o r kv :: H') (K sv)) :
    E B H (CF Tryz.prog 99 [.map (some r)] fun v9 => CF Tryz.prog 44 [v9] K) := by
  refine E_find ht.pf ?_
  refine E_mono (W := s99 _ _) ?_ fun _ => c99
  unfold s99
  (first | refine gS ?_ | refine gA fun _ => ?_ | refine gX fun _ _ => ?_ | refine gT ?_ | refine gF ?_ | refine gI ?_)
  rename_i mb
  refine E_mono (W := s44 _ _) ?_ fun _ => c44
  unfold s44
  refine E_mono (W := s81 _ _) ?_ fun _ => c81
  unfold s81
  refine E_mono (W := s115 _ _ _) ?_ fun _ => c115
  unfold s115
  (first | refine gS ?_ | refine gA fun _ => ?_ | refine gX fun _ _ => ?_ | refine gT ?_ | refine gF ?_ | refine gI ?_)
  rename_i sb
  refine E_rf (by kernel_rfl) fun l dl L hY => ?_
  refine E_mono (W := s127 _ _ _) ?_ fun _ => c127
  unfold s127
  (repeat first | refine gS ?_ | refine gA fun _ => ?_ | refine gX fun _ _ => ?_ | refine gT ?_ | refine gF ?_ | refine gI ?_)
  refine E_drange (κ := Int) u_mapIB fun it => ?_
  refine E_loop (σ := List (Int × Value) × Option (Int × Value) × List Int × Value)
    (fun s => (s.2.2.1 ++ s.1.map (·.1)).Perm (kv.map (·.1)))
    (fun s => [.func (.yield l) #[] #[], .pointer (some ⟨it, 0, none⟩)])
    (fun s => dit kI o it r kv s.1 s.2.1 :: lpo l L .ready .nrm :: osl 3 1 s.2.2.2 s.2.2.1.length (ints s.2.2.1) :: cel true sb 110 [s.2.2.2] :: dfo dl :: cel true mb 119 [.map (some r)] :: H')
    (fun s => s.1.length) (kv, none, [], .slice none 0 0) (fun s => rfl) rfl (by simp) ?_ ?_
  · intro W hW
    refine osl_nil (T := 3) (sz := 1) ?_
    exact sm (G := dit kI o it r kv kv none :: lpo l L .ready .nrm :: osl 3 1 (.slice none 0 0) 0 [] :: cel true sb 110 [.slice none 0 0] :: dfo dl :: cel true mb 119 [.map (some r)] :: H') hW
  · rintro ⟨rest, cur, zs, sv⟩ K hφ hk
    simp only at hφ hk ⊢
    refine E_fa fun _ => ?_
    refine E_dnext (κ := Int) (fun hr => ?_) (fun p rest' hp => ?_)
    · subst hr
      (repeat first | refine gS ?_ | refine gA fun _ => ?_ | refine gX fun _ _ => ?_ | refine gT ?_ | refine gF ?_ | refine gI ?_)
      refine fd (a := lpo l L .ready .nrm) (E_over (by simp) ?_)
      unfold aft
      (repeat first | refine gS ?_ | refine gA fun _ => ?_ | refine gX fun _ _ => ?_ | refine gT ?_ | refine gF ?_ | refine gI ?_)
      refine fd (a := dfo dl) (E_done1 ?_)
      refine fd (a := osl 3 1 sv zs.length (ints zs)) ?_
      have hz : zs.Perm (kv.map (·.1)) := by simpa using hφ
      have hl : zs.length = kv.length := by have := hz.length_eq; simpa using this
      refine E_sortI sortOk (by omega) ?_
      rw [hl]
      refine fd (a := dit kI o it r kv [] none) (E_idone ?_)
      refine sm (h sv zs hz)
    · (repeat first | refine gS ?_ | refine gA fun _ => ?_ | refine gX fun _ _ => ?_ | refine gT ?_ | refine gF ?_ | refine gI ?_)
      refine E_dentry (κ := Int) ?_
      (repeat first | refine gS ?_ | refine gA fun _ => ?_ | refine gX fun _ _ => ?_ | refine gT ?_ | refine gF ?_ | refine gI ?_)
      refine fd (a := lpo l L .ready .nrm) (hY _ _ _ rfl ?_)
      refine E_begun ?_
      (repeat first | refine gS ?_ | refine gA fun _ => ?_ | refine gX fun _ _ => ?_ | refine gT ?_ | refine gF ?_ | refine gI ?_)
      refine E_bsl [(0, 1)] u_ints elt_int (by simp) (by decide) (l0 := [.int .i64 0]) rfl fun b => ?_
      refine fd (a := osl 3 1 sv zs.length (ints zs)) ?_
      have hl : zs.length + rest.length = kv.length := by have := hφ.length_eq; simpa using this
      have hr : rest.length = rest'.length + 1 := by simpa using hp.length_eq
      refine E_app (m := 1) (ys := [.int .i64 p.1]) u_ints elt_int (rd_slice (l := [.int .i64 p.1]) (T := 3) (κ := true) u_ints rfl rfl (by simp [isCell])) (by omega) (by omega) fun v' _ => ?_
      rw [ints_snoc]
      (repeat first | refine gS ?_ | refine gA fun _ => ?_ | refine gX fun _ _ => ?_ | refine gT ?_ | refine gF ?_ | refine gI ?_)
      refine fd (a := lpo l L .busy .nrm) (E_ended ?_)
      refine E_notb ?_
      refine E_ff ?_
      (repeat first | refine gS ?_ | refine gA fun _ => ?_ | refine gX fun _ _ => ?_ | refine gT ?_ | refine gF ?_ | refine gI ?_)
      have h1 := (hp.map (·.1)).append_left zs
      have hk' := hk (rest', some p, zs ++ [p.1], v') (by simpa using h1.symm.trans hφ) (by simp [hr])
      simp only [List.length_append, List.length_cons, List.length_nil, Nat.zero_add] at hk'
      exact sm hk'
end Go.Proofs.YtmbfmkiagdhcoaaGreat.Disk
namespace Go.Proofs.YtmbfmkiagdhcoaaGreat.Disk
structure Sec where
  sure : List UInt8
  last : Option (List UInt8)
def Sec.now (s : Sec) : List UInt8 := s.last.getD s.sure
structure Dk where
  S : List Sec
  trip : Int
  down : Bool
  life : Int
structure Dk.Ok (D : Dk) : Prop where
  n1 : 1 ≤ D.S.length
  n2 : D.S.length ≤ 4096
  t1 : 0 ≤ D.trip
  t2 : D.trip ≤ 9223372036854775807
  len : ∀ s ∈ D.S, s.sure.length = 128 ∧ ∀ b, s.last = some b → b.length = 128
def pad (bs : List UInt8) : List UInt8 := bs ++ List.replicate (128 - bs.length) 0
theorem pad_length {bs : List UInt8} (h : bs.length ≤ 128) : (pad bs).length = 128 := by simp [pad]; omega
def zero128 : List UInt8 := List.replicate 128 0
def Dk.new (n : Nat) : Dk := ⟨List.replicate n ⟨zero128, none⟩, 0, false, 0⟩
def Dk.out (D : Dk) (i : Int) : Prop := i < 0 ∨ (D.S.length : Int) ≤ i
instance (D : Dk) (i : Int) : Decidable (D.out i) := inferInstanceAs (Decidable (_ ∨ _))
def Dk.pow (D : Dk) (i : Int) : Int := if D.down = true then 7 else if D.out i then 2 else 0
def Dk.gone (D : Dk) : Dk := { D with trip := 0, down := true }
def Dk.tick (D : Dk) : Dk := { D with trip := max (D.trip - 1) 0 }
def Dk.setS (D : Dk) (i : Nat) (f : Sec → Sec) : Dk := { D with S := D.S.modify i f }
def Dk.wrE (D : Dk) (i : Int) (bs : List UInt8) : Int := if D.pow i ≠ 0 then D.pow i else if 128 < bs.length then 6 else if D.trip = 1 then 7 else 0
def Dk.wr (D : Dk) (i : Int) (bs : List UInt8) : Dk := if D.pow i ≠ 0 then D else if 128 < bs.length then D else if D.trip = 1 then D.gone else D.tick.setS i.toNat fun s => { s with last := some (pad bs) }
def Dk.rd (D : Dk) (i : Int) : List UInt8 := if D.pow i ≠ 0 then [] else match D.S[i.toNat]? with | some s => s.now | none => []
def Dk.trE (D : Dk) (n : Int) : Int := if D.down = true then 7 else if n < 0 then 2 else 0
def Dk.tr (D : Dk) (n : Int) : Dk := if D.down = true then D else if n < 0 then D else { D with trip := n }
def dirtyFrom : List Sec → Nat → List Int
  | [], _ => []
  | s :: l, i => if s.last.isSome then (i : Int) :: dirtyFrom l (i + 1) else dirtyFrom l (i + 1)
def Dk.dirty (D : Dk) : List Int := dirtyFrom D.S 0
structure Cr where
  keep : List Bool
  torn : Int
  at_ : Int
def Cr.one (c : Cr) (k : Nat) (s : Sec) (b : List UInt8) : List UInt8 :=
  if (k : Int) = c.torn ∧ 0 ≤ c.at_ ∧ c.at_ ≤ 128 then b.take c.at_.toNat ++ s.sure.drop c.at_.toNat else if c.keep.getD k false then b else s.sure
theorem mem_dirty : ∀ {S : List Sec} {p : Nat} {k : Int}, k ∈ dirtyFrom S p ↔ ∃ (i : Nat) (s : Sec), k = ((p + i : Nat) : Int) ∧ S[i]? = some s ∧ s.last.isSome = true
  | [], p, k => by simp [dirtyFrom]
  | s :: S, p, k => by
    have ih := mem_dirty (S := S) (p := p + 1) (k := k)
    have key : (∃ (i : Nat) (s' : Sec), k = ((p + i : Nat) : Int) ∧ (s :: S)[i]? = some s' ∧ s'.last.isSome = true) ↔ (k = (p : Int) ∧ s.last.isSome = true) ∨ k ∈ dirtyFrom S (p + 1) := by
      rw [ih]
      constructor
      · rintro ⟨i, s', h1, h2, h3⟩
        cases i with
        | zero => simp at h2; subst h2; exact .inl ⟨by simpa using h1, h3⟩
        | succ i => exact .inr ⟨i, s', by rw [h1]; congr 1; omega, by simpa using h2, h3⟩
      · rintro (⟨h1, h2⟩ | ⟨i, s', h1, h2, h3⟩)
        · exact ⟨0, s, by simpa using h1, rfl, h2⟩
        · exact ⟨i + 1, s', by rw [h1]; congr 1; omega, by simpa using h2, h3⟩
    rw [key, show dirtyFrom (s :: S) p = if s.last.isSome then (p : Int) :: dirtyFrom S (p + 1) else dirtyFrom S (p + 1) from rfl]
    by_cases hs : s.last.isSome = true
    · simp [hs]
    · simp [hs]
theorem dirty_sorted : ∀ {S : List Sec} {p : Nat}, (dirtyFrom S p).Pairwise (· < ·)
  | [], p => by simp [dirtyFrom]
  | s :: S, p => by
    unfold dirtyFrom
    split
    · refine List.pairwise_cons.2 ⟨fun k hk => ?_, dirty_sorted⟩
      obtain ⟨i, _, h, _⟩ := mem_dirty.1 hk
      rw [h]; omega
    · exact dirty_sorted
theorem dirty_length : ∀ {S : List Sec} {p : Nat}, (dirtyFrom S p).length ≤ S.length
  | [], p => by simp [dirtyFrom]
  | s :: S, p => by
    unfold dirtyFrom
    have := dirty_length (S := S) (p := p + 1)
    split <;> simp <;> omega
theorem sort_dirty {S : List Sec} {zs : List Int} (hz : zs.Perm (dirtyFrom S 0)) : (zs.mergeSort fun x y => decide (x ≤ y)) = dirtyFrom S 0 := by
  refine List.Perm.eq_of_pairwise (le := fun x y : Int => x ≤ y) (fun a b _ _ h1 h2 => by omega) ?_ ?_ ((List.mergeSort_perm ..).trans hz)
  · have := List.pairwise_mergeSort (le := fun x y : Int => decide (x ≤ y)) (by intro a b c; simp; omega) (by intro a b; simp; omega) zs
    exact this.imp fun h => by simpa using h
  · exact dirty_sorted.imp fun h => by omega
end Go.Proofs.YtmbfmkiagdhcoaaGreat.Disk
namespace Go.Proofs.YtmbfmkiagdhcoaaGreat.Disk
open Go Go.SL Go.Proofs Go.Proofs.YtmbfmkiagdhcoaaGreat.Sh
attribute [local irreducible] S.pick S.ld S.ldN S.st S.box S.nc S.fad S.ixS S.ixA S.chr S.prt S.ext S.bin S.sh S.sbin S.beq S.neg1 S.com1 S.not1 S.cvt S.str1 S.lenS S.len S.cap S.lenM S.mx S.mn S.mkM S.cond S.gd S.fa S.dr S.rck S.join S.loop S.cvv S.eqv S.slc S.slcS S.b2s S.lk V U CF Gives E cel mpb osl ros dct dit itr lpo dfo
theorem u_pDisk : Tryz.prog.underlying 37 = some (.pointer 121) := by kernel_rfl
theorem u_bytes : Tryz.prog.underlying 48 = some (.slice 5) := by kernel_rfl
theorem u_byte : Tryz.prog.underlying 5 = some (.int .u8) := by kernel_rfl
theorem u_bytess : Tryz.prog.underlying 22 = some (.slice 48) := by kernel_rfl
theorem elt_byte : Elt Tryz.prog 5 1 1 [.int .u8 0] := elt_of (zv := .int .u8 0) (by kernel_rfl) rfl rfl
theorem elt_bytes : Elt Tryz.prog 48 1 24 [.slice none 0 0] := elt_of (zv := .slice none 0 0) (by kernel_rfl) rfl rfl
variable {B : World} {H : List Asrt} {K : Value → WT}
theorem clone {v : Value} {bs : List UInt8} [hf : Rb B H v bs] (hn : bs.length ≤ 70368744177664)
    (h : ∀ v' [CellI v'], E B (osl 5 1 v' bs.length (bcs bs) :: H) (K v')) : E B H (CF Tryz.prog 54 [v] K) := by
  refine E_mono (W := s54 _ K) ?_ fun _ => c54
  refine E_rb (hf := hf) (fun hv hb => ?_) (fun a' cap hv hle => ?_)
  · subst hv hb
    unfold s54
    refine E_sleq u_bytes ?_
    (try (first | refine E_tt ?_ | refine E_ff ?_))
    (repeat first | refine gS ?_ | refine gA fun _ => ?_ | refine gX fun _ _ => ?_ | refine gT ?_ | refine gF ?_ | refine gI ?_)
    exact osl_nil (h _)
  · unfold s54
    rw [hv]
    refine E_sleq u_bytes ?_
    rw [← hv]
    (try (first | refine E_tt ?_ | refine E_ff ?_))
    (repeat first | refine gS ?_ | refine gA fun _ => ?_ | refine gX fun _ _ => ?_ | refine gT ?_ | refine gF ?_ | refine gI ?_)
    refine E_bsl0 u_bytes elt_byte fun b' => ?_
    refine osl_of_cel (n := 0) (sz := 1) rfl ?_
    refine E_app (m := bs.length) u_bytes elt_byte (rd_rb (hf := hf) u_bytes) (by omega) (by omega) fun v' _ => ?_
    simpa using h v'
theorem rep_zero (n : Nat) : rep n [.int .u8 0] = bcs (List.replicate n 0) := by
  simp [rep, bcs]
theorem whole {v : Value} {bs : List UInt8} [hf : Rb B H v bs] (hn : bs.length ≤ 128)
    (h : ∀ v' [CellI v'], E B (osl 5 1 v' 128 (bcs (pad bs)) :: H) (K v')) : E B H (CF Tryz.prog 109 [v] K) := by
  refine E_mono (W := s109 _ K) ?_ fun _ => c109
  have fin : ∀ v1 [CellI v1], E B (osl 5 1 v1 bs.length (bcs bs) :: H) (V Tryz.prog (Builtin.append_ #[48, 3] 48 #[v1, .int .i64 (128 - bs.length)]) fun v8 => K v8) := fun v1 _ => by
    refine E_appz (k := 128 - bs.length) u_bytes u_int elt_byte (by simp [isCell]) (by omega) (by omega) (by omega) (by omega) (by omega) fun v' _ => ?_
    have e1 : ((128 : Int) - bs.length).toNat = 128 - bs.length := by omega
    have e3 : bs.length + (128 - bs.length) = 128 := by omega
    rw [e1, rep_zero]
    have e2 : bcs bs ++ bcs (List.replicate (128 - bs.length) 0) = bcs (pad bs) := by simp [bcs, pad]
    rw [e2, e3]
    exact h v'
  refine E_rb (hf := hf) (fun hv hb => ?_) (fun a' cap hv hle => ?_)
  · subst hv hb
    unfold s109
    refine clone (hf := hf) (by simp) fun v1 _ => ?_
    (repeat first | refine gS ?_ | refine gA fun _ => ?_ | refine gX fun _ _ => ?_ | refine gT ?_ | refine gF ?_ | refine gI ?_)
    exact fin v1
  · unfold s109
    refine clone (hf := hf) (by omega) fun v1 _ => ?_
    rw [hv]
    (repeat first | refine gS ?_ | refine gA fun _ => ?_ | refine gX fun _ _ => ?_ | refine gT ?_ | refine gF ?_ | refine gI ?_)
    exact fin v1
end Go.Proofs.YtmbfmkiagdhcoaaGreat.Disk
namespace Go.Proofs.YtmbfmkiagdhcoaaGreat.Disk
open Go Go.SL Go.Proofs Go.Proofs.YtmbfmkiagdhcoaaGreat.Sh
structure DRep (D : Dk) (vs : List Value) (kv : List (Int × Value)) (L : List (Value × List UInt8)) : Prop where
  len : vs.length = D.S.length
  sur : ∀ (i : Nat) s, D.S[i]? = some s → ∃ v, vs[i]? = some v ∧ CellI v ∧ (v, s.sure) ∈ L
  las : ∀ (i : Nat) s b, D.S[i]? = some s → s.last = some b → ∃ v, kv.lookup (i : Int) = some v ∧ CellI v ∧ (v, b) ∈ L
  nol : ∀ (i : Nat) s, D.S[i]? = some s → s.last = none → kv.lookup (i : Int) = none
  dom : ∀ k ∈ kv.map (·.1), ∃ (i : Nat) (s : Sec), k = (i : Int) ∧ D.S[i]? = some s
  nod : (kv.map (·.1)).Nodup
  ok : D.Ok
structure DW where
  sv : Value
  m : Nat
  vs : List Value
  kv : List (Int × Value)
  L : List (Value × List UInt8)
def disk (a : Nat) (D : Dk) : Asrt := ex fun (x : DW) => all [cel true a 121 [x.sv, .map (some x.m), I D.trip, .bool D.down, I D.life],
  osl 48 1 x.sv D.S.length x.vs, dct kI true x.m x.kv, ros x.L, pur (DRep D x.vs x.kv x.L)]
variable {B : World} {H : List Asrt} {K : Value → WT} {W : WT}
theorem E_disk {a : Nat} {D : Dk} (h : ∀ b cap m vs sp kv L, DRep D vs kv L → D.S.length ≤ cap → sp.length = cap - D.S.length →
    E B (cel true a 121 [.slice (some ⟨b, 0, none⟩) D.S.length cap, .map (some m), I D.trip, .bool D.down, I D.life] :: cel true b 48 (vs ++ sp) :: dct kI true m kv :: ros L :: H) W) : E B (disk a D :: H) W := by
  refine E_ex fun x => E_all ?_
  refine E_find (a := pur (DRep D x.vs x.kv x.L)) (by repeat (first | exact Find.here | apply Find.there)) (E_pur fun hr => ?_)
  refine fd (a := osl 48 1 x.sv D.S.length x.vs) (E_oslo hr.ok.n1 fun b cap sp hv hle hxl hsl => ?_)
  rw [hv]
  exact E_same (by repeat (first | exact Same.refl | (refine Same.cons (by repeat (first | exact Find.here | apply Find.there)) ?_) | (refine Same.drop ?_))) (h b cap x.m x.vs sp x.kv x.L hr hle (by simpa using hsl))
theorem E_disks {a b cap m : Nat} {n : Nat} {D : Dk} {vs sp : List Value} {kv : List (Int × Value)} {L : List (Value × List UInt8)} {tr li : Int} {dn : Bool} (hr : DRep D vs kv L) (hle : n ≤ cap) (hsl : sp.length = cap - n)
    (hn : n = D.S.length) (h1 : tr = D.trip) (h2 : dn = D.down) (h3 : li = D.life)
    (h : E B (disk a D :: H) W) : E B (cel true a 121 [.slice (some ⟨b, 0, none⟩) n cap, .map (some m), I tr, .bool dn, I li] :: cel true b 48 (vs ++ sp) :: dct kI true m kv :: ros L :: H) W := by
  subst hn h1 h2 h3
  refine fd (a := cel true b 48 (vs ++ sp)) (E_osls (n := D.S.length) (cap := cap) (sz := 1) hle (by rw [hr.len]; simp) (by simpa using hsl) ?_)
  refine E_pur' hr ?_
  have h' := E_all' (E_ex' (f := fun (x : DW) => all [cel true a 121 [x.sv, .map (some x.m), I D.trip, .bool D.down, I D.life],
    osl 48 1 x.sv D.S.length x.vs, dct kI true x.m x.kv, ros x.L, pur (DRep D x.vs x.kv x.L)]) ⟨.slice (some ⟨b, 0, none⟩) D.S.length cap, m, vs, kv, L⟩ h)
  exact E_same (by repeat (first | exact Same.refl | (refine Same.cons (by repeat (first | exact Find.here | apply Find.there)) ?_) | (refine Same.drop ?_))) h'
theorem E_dkok {a : Nat} {D : Dk} (h : D.Ok → E B (disk a D :: H) W) : E B (disk a D :: H) W :=
  E_disk fun b cap m vs sp kv L hr hle hsl => E_disks hr hle hsl rfl rfl rfl rfl (h hr.ok)
end Go.Proofs.YtmbfmkiagdhcoaaGreat.Disk
namespace Go.Proofs.YtmbfmkiagdhcoaaGreat.Disk
open Go Go.SL Go.Proofs Go.Proofs.YtmbfmkiagdhcoaaGreat.Sh
attribute [local irreducible] S.pick S.ld S.ldN S.st S.box S.nc S.fad S.ixS S.ixA S.chr S.prt S.ext S.bin S.sh S.sbin S.beq S.neg1 S.com1 S.not1 S.cvt S.str1 S.lenS S.len S.cap S.lenM S.mx S.mn S.mkM S.cond S.gd S.fa S.dr S.rck S.join S.loop S.cvv S.eqv S.slc S.slcS S.b2s S.lk V U CF Gives E cel mpb osl ros dct dit itr lpo dfo
attribute [local irreducible] disk
variable {B : World} {H : List Asrt} {K : Value → WT}
abbrev ptr (a : Nat) : Value := .pointer (some ⟨a, 0, none⟩)
theorem powered {a : Nat} {D : Dk} {i : Int} (h : E B (disk a D :: H) (K (I (D.pow i)))) : E B (disk a D :: H) (CF Tryz.prog 55 [ptr a, I i] K) := by
  refine E_disk fun b cap m vs sp kv L hr hle hsl => ?_
  have h' := E_disks (H := H) hr hle hsl rfl rfl rfl rfl (b := b) (m := m) h
  unfold Dk.pow at h'
  refine E_mono (W := s55 _ _ K) ?_ fun _ => c55
  unfold s55
  refine E_peq u_pDisk ?_
  (try (first | refine E_tt ?_ | refine E_ff ?_))
  (repeat first | refine gS ?_ | refine gA fun _ => ?_ | refine gX fun _ _ => ?_ | refine gT ?_ | refine gF ?_ | refine gI ?_)
  refine E_ifb (fun hd => ?_) (fun hd => ?_)
  · rw [if_pos hd] at h'
    rw [hd] at h' ⊢
    exact h'
  · have hd' : ¬ D.down = true := by simp [hd]
    rw [if_neg hd'] at h'
    rw [hd] at h' ⊢
    refine E_join0 ?_
    (repeat first | refine gS ?_ | refine gA fun _ => ?_ | refine gX fun _ _ => ?_ | refine gT ?_ | refine gF ?_ | refine gI ?_)
    by_cases hi : i < 0
    · (repeat first | refine gS ?_ | refine gA fun _ => ?_ | refine gX fun _ _ => ?_ | refine gT ?_ | refine gF ?_ | refine gI ?_)
      rw [if_pos (show D.out i from .inl hi)] at h'
      exact h'
    · (repeat first | refine gS ?_ | refine gA fun _ => ?_ | refine gX fun _ _ => ?_ | refine gT ?_ | refine gF ?_ | refine gI ?_)
      refine E_if (fun hc => ?_) (fun hc => ?_)
      · rw [if_pos (show D.out i from .inr hc)] at h'
        exact h'
      · rw [if_neg (show ¬ D.out i from fun ho => by unfold Dk.out at ho; omega)] at h'
        exact h'
theorem trips {a : Nat} {D : Dk} {f : Value} (h1 : D.trip = 1 → E B (disk a D.gone :: H) (K (I 7))) (h2 : D.trip ≠ 1 → E B (disk a D.tick :: H) (S.cvv Tryz.prog f [] fun _ => K (I 0))) :
    E B (disk a D :: H) (CF Tryz.prog 56 [ptr a, f] K) := by
  refine E_disk fun b cap m vs sp kv L hr hle hsl => ?_
  have t1 := hr.ok.t1
  have t2 := hr.ok.t2
  refine E_mono (W := s56 _ _ K) ?_ fun _ => c56
  unfold s56
  (repeat first | refine gS ?_ | refine gA fun _ => ?_ | refine gX fun _ _ => ?_ | refine gT ?_ | refine gF ?_ | refine gI ?_)
  refine E_if (fun hc => ?_) (fun hc => ?_)
  · (repeat first | refine gS ?_ | refine gA fun _ => ?_ | refine gX fun _ _ => ?_ | refine gT ?_ | refine gF ?_ | refine gI ?_)
    have ht : D.trip = 1 := by omega
    refine E_same (by repeat (first | exact Same.refl | (refine Same.cons (by repeat (first | exact Find.here | apply Find.there)) ?_) | (refine Same.drop ?_))) (E_disks (D := D.gone) (n := D.S.length) ⟨hr.len, hr.sur, hr.las, hr.nol, hr.dom, hr.nod, ⟨hr.ok.n1, hr.ok.n2, by simp [Dk.gone], by simp [Dk.gone], hr.ok.len⟩⟩ hle hsl rfl ?_ rfl rfl (h1 ht))
    simp [Dk.gone]; omega
  · have ht : D.trip ≠ 1 := by omega
    (repeat first | refine gS ?_ | refine gA fun _ => ?_ | refine gX fun _ _ => ?_ | refine gT ?_ | refine gF ?_ | refine gI ?_)
    exact E_same (by repeat (first | exact Same.refl | (refine Same.cons (by repeat (first | exact Find.here | apply Find.there)) ?_) | (refine Same.drop ?_))) (E_disks (D := D.tick) (n := D.S.length) ⟨hr.len, hr.sur, hr.las, hr.nol, hr.dom, hr.nod, ⟨hr.ok.n1, hr.ok.n2, by simp only [Dk.tick]; omega, by simp only [Dk.tick]; omega, hr.ok.len⟩⟩ hle hsl rfl rfl rfl rfl (h2 ht))
theorem DRep.keys {D : Dk} {vs : List Value} {kv : List (Int × Value)} {L : List (Value × List UInt8)} (hr : DRep D vs kv L) : (kv.map (·.1)).Perm D.dirty := by
  unfold Dk.dirty
  rw [List.perm_ext_iff_of_nodup hr.nod (dirty_sorted.imp fun h => by omega)]
  intro k
  rw [mem_dirty]
  constructor
  · intro hk
    obtain ⟨i, s, rfl, hs⟩ := hr.dom k hk
    refine ⟨i, s, by simp, hs, ?_⟩
    cases hl : s.last with
    | some b => rfl
    | none => exact absurd hk (lookup_none.1 (hr.nol i s hs hl))
  · rintro ⟨i, s, rfl, hs, hl⟩
    obtain ⟨b, hb⟩ := Option.isSome_iff_exists.1 hl
    obtain ⟨v, hv, _⟩ := hr.las i s b hs hb
    simp only [Nat.zero_add]
    exact List.mem_map.2 ⟨_, lookup_mem hv, rfl⟩
theorem DRep.kvlen {D : Dk} {vs : List Value} {kv : List (Int × Value)} {L : List (Value × List UInt8)} (hr : DRep D vs kv L) : kv.length = D.dirty.length := by
  have := hr.keys.length_eq; simpa using this
theorem DRep.sub {D : Dk} {vs : List Value} {kv : List (Int × Value)} {L L' : List (Value × List UInt8)} (hr : DRep D vs kv L) (hs : ∀ p ∈ L, p ∈ L') : DRep D vs kv L' :=
  ⟨hr.len, fun i s h => let ⟨v, a, b, c⟩ := hr.sur i s h; ⟨v, a, b, hs _ c⟩, fun i s b h h' => let ⟨v, a, e, c⟩ := hr.las i s b h h'; ⟨v, a, e, hs _ c⟩, hr.nol, hr.dom, hr.nod, hr.ok⟩
theorem DRep.dirt {D : Dk} {vs : List Value} {kv : List (Int × Value)} {L : List (Value × List UInt8)} (hr : DRep D vs kv L) {i : Nat} {s : Sec} {v : Value} {b : List UInt8} (hi : D.S[i]? = some s) (hn : b.length = 128)
    (hv : (v, b) ∈ L) (hc : CellI v) : DRep { D with S := D.S.set i { s with last := some b } } vs (dput kv (i : Int) v) L := by
  have hlt : i < D.S.length := (List.getElem?_eq_some_iff.1 hi).1
  have get : ∀ (j : Nat) (x : Sec), (D.S.set i { s with last := some b })[j]? = some x → (j = i ∧ x = { s with last := some b }) ∨ (j ≠ i ∧ D.S[j]? = some x) := fun j x h => by
    by_cases hj : j = i
    · subst hj; rw [List.getElem?_set_self hlt] at h; exact .inl ⟨rfl, (Option.some.inj h).symm⟩
    · rw [List.getElem?_set_ne (Ne.symm hj)] at h; exact .inr ⟨hj, h⟩
  refine ⟨by simp [hr.len], fun j x h => ?_, fun j x b' h hb => ?_, fun j x h hb => ?_, fun k hk => ?_, dput_nodup hr.nod, ?_⟩
  · rcases get j x h with ⟨rfl, rfl⟩ | ⟨hj, h⟩
    · exact hr.sur j s hi
    · exact hr.sur j x h
  · rcases get j x h with ⟨rfl, rfl⟩ | ⟨hj, h⟩
    · cases hb
      exact ⟨v, by rw [lookup_dput, if_pos rfl], hc, hv⟩
    · obtain ⟨u, a, e, c⟩ := hr.las j x b' h hb
      exact ⟨u, by rw [lookup_dput, if_neg (by omega)]; exact a, e, c⟩
  · rcases get j x h with ⟨rfl, rfl⟩ | ⟨hj, h⟩
    · cases hb
    · rw [lookup_dput, if_neg (by omega)]; exact hr.nol j x h hb
  · have hex : ∀ j, j < D.S.length → ∃ x, (D.S.set i { s with last := some b })[j]? = some x := fun j hj => ⟨_, List.getElem?_eq_getElem (by simpa using hj)⟩
    rw [dput_keys] at hk
    have : k ∈ kv.map (·.1) ∨ k = (i : Int) := by
      split at hk
      · exact .inl hk
      · rcases List.mem_append.1 hk with hk | hk
        · exact .inl hk
        · exact .inr (by simpa using hk)
    rcases this with hk | rfl
    · obtain ⟨j, x, rfl, hx⟩ := hr.dom k hk
      obtain ⟨x', hx'⟩ := hex j (List.getElem?_eq_some_iff.1 hx).1
      exact ⟨j, x', rfl, hx'⟩
    · obtain ⟨x', hx'⟩ := hex i hlt
      exact ⟨i, x', rfl, hx'⟩
  · refine ⟨by simpa using hr.ok.n1, by simpa using hr.ok.n2, hr.ok.t1, hr.ok.t2, fun x hx => ?_⟩
    rcases List.mem_or_eq_of_mem_set hx with hx | rfl
    · exact hr.ok.len x hx
    · exact ⟨(hr.ok.len s (List.mem_of_getElem? hi)).1, fun b' hb => by cases hb; exact hn⟩
end Go.Proofs.YtmbfmkiagdhcoaaGreat.Disk
namespace Go.Proofs.YtmbfmkiagdhcoaaGreat.Disk
open Go Go.SL Go.Proofs Go.Proofs.YtmbfmkiagdhcoaaGreat.Sh
attribute [local irreducible] S.pick S.ld S.ldN S.st S.box S.nc S.fad S.ixS S.ixA S.chr S.prt S.ext S.bin S.sh S.sbin S.beq S.neg1 S.com1 S.not1 S.cvt S.str1 S.lenS S.len S.cap S.lenM S.mx S.mn S.mkM S.cond S.gd S.fa S.dr S.rck S.join S.loop S.cvv S.eqv S.slc S.slcS S.b2s S.lk V U CF Gives E cel mpb osl ros dct dit itr lpo dfo
attribute [local irreducible] disk
variable {B : World} {H : List Asrt} {K : Value → WT}
theorem down {a : Nat} {D : Dk} (h : E B (disk a D :: H) (K (.bool D.down))) : E B (disk a D :: H) (CF Tryz.prog 21 [ptr a] K) := by
  refine E_disk fun b cap m vs sp kv L hr hle hsl => ?_
  refine E_mono (W := s21 _ K) ?_ fun _ => c21
  unfold s21
  refine E_pne u_pDisk ?_
  refine E_gdb (fun _ => ?_) (fun h => by cases h)
  (repeat first | refine gS ?_ | refine gA fun _ => ?_ | refine gX fun _ _ => ?_ | refine gT ?_ | refine gF ?_ | refine gI ?_)
  exact E_disks hr hle hsl rfl rfl rfl rfl h
theorem dirty {a : Nat} {D : Dk} (h : ∀ sv, E B (osl 3 1 sv D.dirty.length (ints D.dirty) :: disk a D :: H) (K sv)) : E B (disk a D :: H) (CF Tryz.prog 53 [ptr a] K) := by
  refine E_disk fun b cap m vs sp kv L hr hle hsl => ?_
  refine E_mono (W := s53 _ K) ?_ fun _ => c53
  unfold s53
  refine E_peq u_pDisk ?_
  (try (first | refine E_tt ?_ | refine E_ff ?_))
  (repeat first | refine gS ?_ | refine gA fun _ => ?_ | refine gX fun _ _ => ?_ | refine gT ?_ | refine gF ?_ | refine gI ?_)
  have hd := dirty_length (S := D.S) (p := 0)
  have hk := hr.kvlen
  have h2 := hr.ok.n2
  unfold Dk.dirty at hk
  refine sortedKeys (by omega) fun sv zs hz => ?_
  have e : sortI zs = D.dirty := sort_dirty (hz.trans hr.keys)
  rw [e, hr.kvlen]
  exact sm (E_disks (H := osl 3 1 sv D.dirty.length (ints D.dirty) :: H) hr hle hsl rfl rfl rfl rfl (b := b) (m := m) (E_perm (List.Perm.swap ..) (h sv)))
theorem trip {a : Nat} {D : Dk} {n : Int} (hn : n ≤ 9223372036854775807) (h : E B (disk a (D.tr n) :: H) (K (I (D.trE n)))) : E B (disk a D :: H) (CF Tryz.prog 23 [ptr a, I n] K) := by
  refine E_disk fun b cap m vs sp kv L hr hle hsl => ?_
  refine E_mono (W := s23 _ _ K) ?_ fun _ => c23
  unfold s23
  unfold Dk.tr Dk.trE at h
  refine E_peq u_pDisk ?_
  (try (first | refine E_tt ?_ | refine E_ff ?_))
  (repeat first | refine gS ?_ | refine gA fun _ => ?_ | refine gX fun _ _ => ?_ | refine gT ?_ | refine gF ?_ | refine gI ?_)
  refine E_ifb (fun hd => ?_) (fun hd => ?_)
  · simp only [if_pos hd] at h
    exact E_disks hr hle hsl rfl rfl rfl rfl h
  · simp only [if_neg (show ¬ D.down = true by simp [hd])] at h
    (repeat first | refine gS ?_ | refine gA fun _ => ?_ | refine gX fun _ _ => ?_ | refine gT ?_ | refine gF ?_ | refine gI ?_)
    refine E_if (fun hc => ?_) (fun hc => ?_)
    · simp only [if_pos hc] at h
      exact E_disks hr hle hsl rfl rfl rfl rfl h
    · simp only [if_neg hc] at h
      (repeat first | refine gS ?_ | refine gA fun _ => ?_ | refine gX fun _ _ => ?_ | refine gT ?_ | refine gF ?_ | refine gI ?_)
      exact E_disks (D := { D with trip := n }) ⟨hr.len, hr.sur, hr.las, hr.nol, hr.dom, hr.nod, ⟨hr.ok.n1, hr.ok.n2, by simp only; omega, hn, hr.ok.len⟩⟩ hle hsl rfl rfl rfl rfl h
theorem Dk.inR {D : Dk} {i : Int} (h : ¬ D.out i) : ∃ (j : Nat) (s : Sec), i = (j : Int) ∧ D.S[j]? = some s ∧ j < D.S.length := by
  unfold Dk.out at h
  have hlt : i.toNat < D.S.length := by omega
  exact ⟨i.toNat, D.S[i.toNat], by omega, List.getElem?_eq_getElem hlt, hlt⟩
theorem Dk.pow0 {D : Dk} {i : Int} (h : D.pow i = 0) : D.down = false ∧ ¬ D.out i := by
  unfold Dk.pow at h
  split at h
  · omega
  · rename_i h'
    split at h
    · omega
    · exact ⟨by simpa using h', by assumption⟩
theorem modify_set {S : List Sec} {j : Nat} {s : Sec} (f : Sec → Sec) (h : S[j]? = some s) : S.modify j f = S.set j (f s) := by
  apply List.ext_getElem?
  intro i
  rw [List.getElem?_modify]
  by_cases hi : j = i
  · subst hi
    have hlt := (List.getElem?_eq_some_iff.1 h).1
    rw [List.getElem?_set_self hlt, h]; simp
  · rw [List.getElem?_set_ne hi]; cases S[i]? <;> simp [hi]
theorem read {a : Nat} {D : Dk} {i : Int} (h : ∀ v [CellI v], E B (osl 5 1 v (D.rd i).length (bcs (D.rd i)) :: disk a D :: H) (K (.tuple #[v, I (D.pow i)]))) : E B (disk a D :: H) (CF Tryz.prog 114 [ptr a, I i] K) := by
  refine E_mono (W := s114 _ _ K) ?_ fun _ => c114
  unfold s114
  refine powered ?_
  (repeat first | refine gS ?_ | refine gA fun _ => ?_ | refine gX fun _ _ => ?_ | refine gT ?_ | refine gF ?_ | refine gI ?_)
  refine E_if (fun hc => ?_) (fun hc => ?_)
  · have := h (.slice none 0 0)
    unfold Dk.rd at this
    rw [if_pos hc] at this
    exact osl_nil this
  · have hp : D.pow i = 0 := by simpa using hc
    obtain ⟨hd, ho⟩ := Dk.pow0 hp
    obtain ⟨j, s, rfl, hs, hj⟩ := Dk.inR ho
    unfold Dk.rd at h
    rw [if_neg hc, Int.toNat_natCast, hs, hp] at h
    simp only at h
    refine E_disk fun b cap m vs sp kv L hr hle hsl => ?_
    (repeat first | refine gS ?_ | refine gA fun _ => ?_ | refine gX fun _ _ => ?_ | refine gT ?_ | refine gF ?_ | refine gI ?_)
    cases hl : s.last with
    | none =>
      refine E_dlk0 (κ := Int) (hr.nol j s hs hl) ?_
      (repeat first | refine gS ?_ | refine gA fun _ => ?_ | refine gX fun _ _ => ?_ | refine gT ?_ | refine gF ?_ | refine gI ?_)
      refine E_ixS (by omega) (by omega) ?_
      obtain ⟨v, hv, hcv, hvL⟩ := hr.sur j s hs
      refine E_ld' (v := v) (l := vs ++ sp) ?_ ?_
      · rw [List.getElem?_append_left (by rw [hr.len]; simp; omega)]; simpa using hv
      have hin : InL L v s.sure := ⟨hvL⟩
      refine clone (bs := s.sure) (by rw [(hr.ok.len s (List.mem_of_getElem? hs)).1]; omega) fun v' _ => ?_
      have hn : s.now = s.sure := by simp [Sec.now, hl]
      rw [hn] at h
      exact sm (E_disks (H := osl 5 1 v' s.sure.length (bcs s.sure) :: H) hr hle hsl rfl rfl rfl rfl (b := b) (m := m) (E_perm (List.Perm.swap ..) (h v')))
    | some bs =>
      obtain ⟨v, hv, hcv, hvL⟩ := hr.las j s bs hs hl
      refine E_dlk1 (κ := Int) hv ?_
      (repeat first | refine gS ?_ | refine gA fun _ => ?_ | refine gX fun _ _ => ?_ | refine gT ?_ | refine gF ?_ | refine gI ?_)
      have hin : InL L v bs := ⟨hvL⟩
      have hlen := (hr.ok.len s (List.mem_of_getElem? hs)).2 bs hl
      refine clone (bs := bs) (by omega) fun v' _ => ?_
      have hn : s.now = bs := by simp [Sec.now, hl]
      rw [hn] at h
      exact sm (E_disks (H := osl 5 1 v' bs.length (bcs bs) :: H) hr hle hsl rfl rfl rfl rfl (b := b) (m := m) (E_perm (List.Perm.swap ..) (h v')))
end Go.Proofs.YtmbfmkiagdhcoaaGreat.Disk
namespace Go.Proofs.YtmbfmkiagdhcoaaGreat.Disk
open Go Go.SL Go.Proofs Go.Proofs.YtmbfmkiagdhcoaaGreat.Sh
attribute [local irreducible] S.pick S.ld S.ldN S.st S.box S.nc S.fad S.ixS S.ixA S.chr S.prt S.ext S.bin S.sh S.sbin S.beq S.neg1 S.com1 S.not1 S.cvt S.str1 S.lenS S.len S.cap S.lenM S.mx S.mn S.mkM S.cond S.gd S.fa S.dr S.rck S.join S.loop S.cvv S.eqv S.slc S.slcS S.b2s S.lk V U CF Gives E cel mpb osl ros dct dit itr lpo dfo
attribute [local irreducible] disk
variable {B : World} {H : List Asrt} {K : Value → WT}
theorem write {a : Nat} {D : Dk} {i : Int} {v : Value} {bs : List UInt8} [hf : Rb B H v bs] (h : E B (disk a (D.wr i bs) :: H) (K (I (D.wrE i bs)))) :
    E B (disk a D :: H) (CF Tryz.prog 72 [ptr a, I i, v] K) := by
  unfold Dk.wr Dk.wrE at h
  refine E_mono (W := s72 _ _ _ K) ?_ fun _ => c72
  unfold s72
  (repeat first | refine gS ?_ | refine gA fun _ => ?_ | refine gX fun _ _ => ?_ | refine gT ?_ | refine gF ?_ | refine gI ?_)
  rename_i bd bi
  refine fd (a := disk a D) (powered ?_)
  (repeat first | refine gS ?_ | refine gA fun _ => ?_ | refine gX fun _ _ => ?_ | refine gT ?_ | refine gF ?_ | refine gI ?_)
  refine E_if (fun hc => ?_) (fun hc => ?_)
  · simp only [if_pos hc] at h
    exact sm h
  simp only [if_neg hc] at h
  obtain ⟨hd, ho⟩ := Dk.pow0 (by simpa using hc)
  obtain ⟨j, s, rfl, hs, hj⟩ := Dk.inR ho
  refine E_rb_len (v := v) ?_
  (repeat first | refine gS ?_ | refine gA fun _ => ?_ | refine gX fun _ _ => ?_ | refine gT ?_ | refine gF ?_ | refine gI ?_)
  refine E_if (fun hc => ?_) (fun hc => ?_)
  · simp only [if_pos (show 128 < bs.length by omega)] at h
    exact sm h
  simp only [if_neg (show ¬ 128 < bs.length by omega)] at h
  have hbs : bs.length ≤ 128 := by omega
  refine whole (bs := bs) hbs fun pv _ => ?_
  (repeat first | refine gS ?_ | refine gA fun _ => ?_ | refine gX fun _ _ => ?_ | refine gT ?_ | refine gF ?_ | refine gI ?_)
  rename_i bp
  refine fd (a := disk a D) (trips (fun ht => ?_) (fun ht => ?_))
  · simp only [if_pos ht] at h
    exact sm h
  simp only [if_neg ht] at h
  refine E_cvv (by kernel_rfl) ?_
  refine E_mono (W := s110 _ _ _ _) ?_ fun _ => c110
  unfold s110
  refine E_disk fun b cap m vs sp kv L hr hle hsl => ?_
  (repeat first | refine gS ?_ | refine gA fun _ => ?_ | refine gX fun _ _ => ?_ | refine gT ?_ | refine gF ?_ | refine gI ?_)
  refine E_dmu (κ := Int) key_mapIB ?_
  refine fd (a := osl 5 1 pv 128 (bcs (pad bs))) ?_
  refine fd (a := ros L) (E_perm (List.Perm.swap ..) (osl_ros (pad_length hbs).symm ?_))
  have hs' : D.tick.S[j]? = some s := hs
  have hr' := (hr.sub (L' := (pv, pad bs) :: L) (fun p hp => List.mem_cons_of_mem _ hp)).dirt hs' (pad_length hbs) (List.mem_cons_self ..) (by assumption)
  have e : D.tick.setS j (fun s => { s with last := some (pad bs) }) = { D.tick with S := D.tick.S.set j { s with last := some (pad bs) } } := by
    unfold Dk.setS; rw [modify_set _ hs']
  rw [Int.toNat_natCast, e] at h
  exact sm (E_disks (H := H) hr' (by simpa using hle) (by simpa using hsl) (by simp [Dk.tick]) rfl rfl rfl (b := b) (m := m) h)
end Go.Proofs.YtmbfmkiagdhcoaaGreat.Disk
namespace Go.Proofs.YtmbfmkiagdhcoaaGreat.Disk
open Go Go.SL Go.Proofs Go.Proofs.YtmbfmkiagdhcoaaGreat.Sh
attribute [local irreducible] S.pick S.ld S.ldN S.st S.box S.nc S.fad S.ixS S.ixA S.chr S.prt S.ext S.bin S.sh S.sbin S.beq S.neg1 S.com1 S.not1 S.cvt S.str1 S.lenS S.len S.cap S.lenM S.mx S.mn S.mkM S.cond S.gd S.fa S.dr S.rck S.join S.loop S.cvv S.eqv S.slc S.slcS S.b2s S.lk V U CF Gives E cel mpb osl ros dct dit itr lpo dfo
attribute [local irreducible] disk
variable {B : World} {H : List Asrt} {K : Value → WT}
end Go.Proofs.YtmbfmkiagdhcoaaGreat.Disk
namespace Go.Proofs.YtmbfmkiagdhcoaaGreat.Disk
open Go Go.SL Go.Proofs Go.Proofs.YtmbfmkiagdhcoaaGreat.Sh
attribute [local irreducible] S.pick S.ld S.ldN S.st S.box S.nc S.fad S.ixS S.ixA S.chr S.prt S.ext S.bin S.sh S.sbin S.beq S.neg1 S.com1 S.not1 S.cvt S.str1 S.lenS S.len S.cap S.lenM S.mx S.mn S.mkM S.cond S.gd S.fa S.dr S.rck S.join S.loop S.cvv S.eqv S.slc S.slcS S.b2s S.lk V U CF Gives E cel mpb osl ros dct dit itr lpo dfo
attribute [local irreducible] disk
variable {B : World} {H : List Asrt} {K : Value → WT}
theorem new {n : Int} (h0 : n < 1 ∨ 4096 < n → E B H (K (.tuple #[.pointer none, I 2]))) (h1 : 1 ≤ n → n ≤ 4096 → ∀ a, E B (disk a (Dk.new n.toNat) :: H) (K (.tuple #[ptr a, I 0]))) : E B H (CF Tryz.prog 27 [I n] K) := by
  refine E_mono (W := s27 _ K) ?_ fun _ => c27
  unfold s27
  refine E_join0 ?_
  (repeat first | refine gS ?_ | refine gA fun _ => ?_ | refine gX fun _ _ => ?_ | refine gT ?_ | refine gF ?_ | refine gI ?_)
  by_cases hn1 : n < 1
  · (repeat first | refine gS ?_ | refine gA fun _ => ?_ | refine gX fun _ _ => ?_ | refine gT ?_ | refine gF ?_ | refine gI ?_)
    exact h0 (.inl hn1)
  (repeat first | refine gS ?_ | refine gA fun _ => ?_ | refine gX fun _ _ => ?_ | refine gT ?_ | refine gF ?_ | refine gI ?_)
  refine E_if (fun hc => ?_) (fun hc => ?_)
  · exact h0 (.inr (by omega))
  refine E_mkM fun m => E_dnew (enc := kI) ?_
  refine E_build (z := [.slice none 0 0, .map none, I 0, .bool false, I 0]) (pl := [(0, 1), (1, 1), (2, 1), (3, 1), (4, 1)]) (l := [.slice none 0 0, .map (some m), I 0, .bool false, I 0]) ?_ ?_
  · exact str_of (zv := .agg #[.slice none 0 0, .map none, I 0, .bool false, I 0]) (by kernel_rfl) (by kernel_rfl) rfl
  (repeat first | refine gS ?_ | refine gA fun _ => ?_ | refine gX fun _ _ => ?_ | refine gT ?_ | refine gF ?_ | refine gI ?_)
  rename_i a
  refine ros_new ?_
  refine osl_nil (T := 48) (sz := 1) ?_
  refine E_loop (σ := Nat × Value × List Value × List (Value × List UInt8)) (fun s => s.1 ≤ n.toNat ∧ s.2.2.1.length = s.1 ∧ CellI s.2.1 ∧ ∀ v ∈ s.2.2.1, CellI v ∧ (v, zero128) ∈ s.2.2.2)
    (fun s => [ptr a, I n, I s.1]) (fun s => osl 48 1 s.2.1 s.1 s.2.2.1 :: ros s.2.2.2 :: cel true a 121 [s.2.1, .map (some m), I 0, .bool false, I 0] :: dct kI true m [] :: H) (fun s => n.toNat - s.1)
    (0, .slice none 0 0, [], []) (fun s => rfl) rfl ⟨Nat.zero_le _, rfl, ⟨rfl⟩, by simp⟩ (fun W hW => sm hW) ?_
  rintro ⟨j, sv, vs, L⟩ K0 ⟨hj, hlen, hcs, hall⟩ hk
  simp only at hj hlen hall hk hcs ⊢
  refine E_fa fun _ => ?_
  (repeat first | refine gS ?_ | refine gA fun _ => ?_ | refine gX fun _ _ => ?_ | refine gT ?_ | refine gF ?_ | refine gI ?_)
  refine E_if (fun hc => ?_) (fun hc => ?_)
  · (repeat first | refine gS ?_ | refine gA fun _ => ?_ | refine gX fun _ _ => ?_ | refine gT ?_ | refine gF ?_ | refine gI ?_)
    refine E_mkS u_bytes elt_byte (by omega) (by omega) (by omega) (by omega) fun b => ?_
    have e1 : rep (128 : Int).toNat [.int .u8 0] = bcs zero128 := rep_zero 128
    rw [e1]
    (repeat (refine E_rck1 (by first | exact E_ld (E_fact rfl) | exact E_ld' (by assumption) (E_fact rfl) | exact E_b2sR (E_fact rfl) | exact E_gdnF (by assumption) (E_ld (E_fact rfl)) | exact E_gdT (by assumption) (E_ld (E_fact rfl)) | exact E_gtf (E_ld (E_fact rfl)) | exact E_gft (E_ld (E_fact rfl)) | exact E_ldNA (E_fact rfl) | exact E_ptld (E_fact rfl) | exact E_gtf (E_ldNA (E_fact rfl))) ?_)); (first | (refine E_rck0 ?_) | skip)
    refine E_bsl [(0, 1)] u_bytess elt_bytes (by simp) (by decide) (l0 := [.slice none 0 0]) rfl fun b' => ?_
    (repeat (refine E_rck1 (by first | exact E_ld (E_fact rfl) | exact E_ld' (by assumption) (E_fact rfl) | exact E_b2sR (E_fact rfl) | exact E_gdnF (by assumption) (E_ld (E_fact rfl)) | exact E_gdT (by assumption) (E_ld (E_fact rfl)) | exact E_gtf (E_ld (E_fact rfl)) | exact E_gft (E_ld (E_fact rfl)) | exact E_ldNA (E_fact rfl) | exact E_ptld (E_fact rfl) | exact E_gtf (E_ldNA (E_fact rfl))) ?_)); (first | (refine E_rck0 ?_) | skip)
    refine fd (a := osl 48 1 sv j vs) ?_
    refine E_app (m := 1) (ys := [.slice (some ⟨b, 0, none⟩) 128 128]) u_bytess elt_bytes (rd_slice (l := [.slice (some ⟨b, 0, none⟩) 128 128]) (T := 48) (κ := true) u_bytess rfl rfl (by simp [isCell])) (by omega) (by omega) fun v' _ => ?_
    (repeat first | refine gS ?_ | refine gA fun _ => ?_ | refine gX fun _ _ => ?_ | refine gT ?_ | refine gF ?_ | refine gI ?_)
    refine fd (a := ros L) ?_
    refine fd (a := cel true b 5 (bcs zero128)) (ros_add (o := 0) (cap := 128) (bs := zero128) (Nat.le_of_eq List.length_replicate) (by rw [List.drop_zero]; exact List.take_of_length_le (by simp)) ?_)
    have hk' := hk (j + 1, v', vs ++ [.slice (some ⟨b, 0, none⟩) 128 128], (.slice (some ⟨b, 0, none⟩) zero128.length 128, zero128) :: L)
      ⟨by omega, by simp [hlen], by assumption, fun v hv => by
        rcases List.mem_append.1 hv with hv | hv
        · exact ⟨(hall v hv).1, List.mem_cons_of_mem _ (hall v hv).2⟩
        · simp at hv; subst hv; exact ⟨⟨rfl⟩, List.mem_cons_self ..⟩⟩ (by simp only; omega)
    exact sm hk'
  · (repeat first | refine gS ?_ | refine gA fun _ => ?_ | refine gX fun _ _ => ?_ | refine gT ?_ | refine gF ?_ | refine gI ?_)
    have hj' : j = n.toNat := by omega
    refine E_oslo (by omega) fun b cap sp hv hle hxl hsl => ?_
    subst hv
    have hr : DRep (Dk.new n.toNat) vs [] L := by
      have get : ∀ (i : Nat) s, (Dk.new n.toNat).S[i]? = some s → i < n.toNat ∧ s = ⟨zero128, none⟩ := fun i s h => by
        simp only [Dk.new, List.getElem?_replicate] at h
        split at h
        · exact ⟨by assumption, by cases h; rfl⟩
        · cases h
      refine ⟨by simp [Dk.new, hlen, hj'], fun i s h => ?_, fun i s b h hb => ?_, fun _ _ _ _ => rfl, by simp, by simp, ⟨by simp [Dk.new]; omega, by simp [Dk.new]; omega, by simp [Dk.new], by simp [Dk.new], fun s hs => ?_⟩⟩
      · obtain ⟨hi, rfl⟩ := get i s h
        have hi' : i < vs.length := by omega
        have := hall vs[i] (List.getElem_mem hi')
        exact ⟨vs[i], List.getElem?_eq_getElem hi', this.1, this.2⟩
      · obtain ⟨hi, rfl⟩ := get i s h
        cases hb
      · simp only [Dk.new, List.mem_replicate] at hs
        rw [hs.2]; exact ⟨by simp [zero128], fun b hb => by cases hb⟩
    exact E_same (by repeat (first | exact Same.refl | (refine Same.cons (by repeat (first | exact Find.here | apply Find.there)) ?_) | (refine Same.drop ?_))) (E_disks (H := H) (D := Dk.new n.toNat) (n := j) hr (by omega) (by simpa using hsl) (by simp [Dk.new, hj']) rfl rfl rfl (b := b) (m := m) (h1 (by omega) (by omega) a))
end Go.Proofs.YtmbfmkiagdhcoaaGreat.Disk
end
section
namespace Go.Proofs.YtmbfmkiagdhcoaaGreat.Oct
theorem snoc_ind {α : Type} {P : List α → Prop} (h0 : P []) (h1 : ∀ l b, P l → P (l ++ [b])) (l : List α) : P l := by
  have : ∀ r : List α, P r.reverse := fun r => by
    induction r with
    | nil => exact h0
    | cons b r ih => rw [List.reverse_cons]; exact h1 _ _ ih
  have h := this l.reverse
  rwa [List.reverse_reverse] at h
def be (n : Nat) : Nat → List UInt8
  | 0 => []
  | w + 1 => be (n / 256) w ++ [UInt8.ofNat n]
theorem be_length (n w : Nat) : (be n w).length = w := by
  induction w generalizing n with
  | zero => rfl
  | succ w ih => simp [be, ih]
def ofBe (l : List UInt8) : Nat := l.foldl (fun a b => a * 256 + b.toNat) 0
theorem ofBe_snoc (l : List UInt8) (b : UInt8) : ofBe (l ++ [b]) = ofBe l * 256 + b.toNat := by simp [ofBe]
theorem ofBe_lt (l : List UInt8) : ofBe l < 256 ^ l.length := by
  refine snoc_ind (P := fun l => ofBe l < 256 ^ l.length) (by simp [ofBe]) (fun l b ih => ?_) l
  rw [ofBe_snoc, List.length_append, List.length_singleton, Nat.pow_succ]
  have := b.toNat_lt
  omega
theorem ofBe_be (n w : Nat) (h : n < 256 ^ w) : ofBe (be n w) = n := by
  induction w generalizing n with
  | zero => simp [be, ofBe] at *; omega
  | succ w ih =>
    unfold be
    rw [ofBe_snoc, ih (n / 256) (by rw [Nat.pow_succ] at h; omega)]
    have : (UInt8.ofNat n).toNat = n % 256 := by simp
    rw [this]; omega
def poly : BitVec 32 := 2197175160#32
def step1 (r : BitVec 32) : BitVec 32 := (r >>> 1) ^^^ (poly &&& -(r &&& 1#32))
def stepN : Nat → BitVec 32 → BitVec 32
  | 0, r => r
  | n + 1, r => stepN n (step1 r)
def crcB (r : BitVec 32) (c : UInt8) : BitVec 32 := stepN 8 (r ^^^ BitVec.ofNat 32 c.toNat)
def crcS (l : List UInt8) : BitVec 32 := ~~~ (l.foldl crcB (~~~ 0#32))
end Go.Proofs.YtmbfmkiagdhcoaaGreat.Oct
end
section
namespace Go.Proofs.YtmbfmkiagdhcoaaGreat.Slot
open Go Go.SL Go.Proofs Go.Proofs.YtmbfmkiagdhcoaaGreat.Sh Go.Proofs.YtmbfmkiagdhcoaaGreat.Oct
open Go.Proofs.YtmbfmkiagdhcoaaGreat.Disk (u_bytes u_byte u_int elt_byte)
variable {B : World} {H : List Asrt} {K : Value → WT} {W : WT}
attribute [local irreducible] S.pick S.ld S.ldN S.st S.box S.nc S.fad S.ixS S.ixA S.chr S.prt S.ext S.bin S.sh S.sbin S.beq S.neg1 S.com1 S.not1 S.cvt S.str1 S.lenS S.len S.cap S.lenM S.mx S.mn S.mkM S.cond S.gd S.fa S.dr S.rck S.join S.loop S.cvv S.eqv S.slc S.slcS S.b2s S.lk V U CF Gives E cel mpb osl ros dct dit itr lpo dfo
attribute [local irreducible] sls
theorem octNumber {n : Int} (h : E B H (K (.bool (decide (0 ≤ n ∧ n ≤ 9007199254740991))))) : E B H (CF Tryz.prog 130 [I n] K) := by
  refine E_mono (W := s130 _ K) ?_ fun _ => c130
  unfold s130
  refine E_geq ?_
  by_cases h1 : 0 ≤ n
  · simp only [h1, true_and] at h
    (repeat (first | (refine E_ld ?_) | (refine E_fad0 ?_) | (refine E_fad ?_) | (refine E_nc ?_) | (refine E_tt ?_) | (refine E_ff ?_) | (refine E_st ?_) | (refine E_len ?_) | (refine E_lenstr ?_) | (refine E_lenS ?_) | (refine E_box fun _ => ?_) | (refine E_eql ?_) | (refine E_neq ?_) | (refine E_lss ?_) | (refine E_leq ?_) | (refine E_gtr ?_) | (refine E_geq ?_) | (refine E_ext ?_) | (refine E_prt ?_) | (refine E_mx ?_) | (refine E_mn ?_) | (refine E_cap ?_) | (refine E_gdu ?_) | (refine E_fa fun _ => ?_) | (refine E_dr ?_) | (refine E_nc_f ?_) | (refine E_nc_i ?_) | (refine E_not ?_) | (refine E_str1 ?_) | (refine E_rck0 ?_) | (refine E_gff ?_) | (refine E_gtt ?_) | (refine E_gft ?_) | (refine E_gtf ?_) | (refine E_pff ?_) | (refine E_ptt ?_) | (refine E_streqS ?_) | (refine E_strneS ?_) | (refine E_streq ?_) | (refine E_strne ?_) | (refine E_stA ?_) | (refine E_ldNA ?_) | (refine E_ptfad0 fun _ _ => ?_) | (refine E_ptfad fun _ _ => ?_) | (refine E_ptld ?_) | (refine E_ptldA ?_) | (refine E_rsix (by assumption) fun _ _ => ?_) | (refine E_rslen ?_) | (refine E_ifT (by assumption) ?_) | (refine E_ifF (by assumption) ?_) | (refine E_gdT (by assumption) ?_) | (refine E_gdF (by assumption) ?_) | (refine E_gdnT (by assumption) ?_) | (refine E_gdnF (by assumption) ?_) | (refine E_pickT (by assumption) ?_) | (refine E_pickF (by assumption) ?_) | (refine E_ifT (by decide) ?_) | (refine E_ifF (by decide) ?_) | (refine E_gdT (by decide) ?_) | (refine E_gdF (by decide) ?_) | (refine E_gdnT (by decide) ?_) | (refine E_gdnF (by decide) ?_) | (refine E_pickT (by decide) ?_) | (refine E_pickF (by decide) ?_) | (refine E_ixN (by omega) ?_) | (refine E_ld' (by assumption) ?_) | (refine E_addI (by omega) (by omega) ?_) | (refine E_subI (by omega) (by omega) ?_) | (refine E_mulI (by omega) (by omega) ?_)))
    exact h
  · simp only [h1, false_and, decide_false] at h
    (repeat (first | (refine E_ld ?_) | (refine E_fad0 ?_) | (refine E_fad ?_) | (refine E_nc ?_) | (refine E_tt ?_) | (refine E_ff ?_) | (refine E_st ?_) | (refine E_len ?_) | (refine E_lenstr ?_) | (refine E_lenS ?_) | (refine E_box fun _ => ?_) | (refine E_eql ?_) | (refine E_neq ?_) | (refine E_lss ?_) | (refine E_leq ?_) | (refine E_gtr ?_) | (refine E_geq ?_) | (refine E_ext ?_) | (refine E_prt ?_) | (refine E_mx ?_) | (refine E_mn ?_) | (refine E_cap ?_) | (refine E_gdu ?_) | (refine E_fa fun _ => ?_) | (refine E_dr ?_) | (refine E_nc_f ?_) | (refine E_nc_i ?_) | (refine E_not ?_) | (refine E_str1 ?_) | (refine E_rck0 ?_) | (refine E_gff ?_) | (refine E_gtt ?_) | (refine E_gft ?_) | (refine E_gtf ?_) | (refine E_pff ?_) | (refine E_ptt ?_) | (refine E_streqS ?_) | (refine E_strneS ?_) | (refine E_streq ?_) | (refine E_strne ?_) | (refine E_stA ?_) | (refine E_ldNA ?_) | (refine E_ptfad0 fun _ _ => ?_) | (refine E_ptfad fun _ _ => ?_) | (refine E_ptld ?_) | (refine E_ptldA ?_) | (refine E_rsix (by assumption) fun _ _ => ?_) | (refine E_rslen ?_) | (refine E_ifT (by assumption) ?_) | (refine E_ifF (by assumption) ?_) | (refine E_gdT (by assumption) ?_) | (refine E_gdF (by assumption) ?_) | (refine E_gdnT (by assumption) ?_) | (refine E_gdnF (by assumption) ?_) | (refine E_pickT (by assumption) ?_) | (refine E_pickF (by assumption) ?_) | (refine E_ifT (by decide) ?_) | (refine E_ifF (by decide) ?_) | (refine E_gdT (by decide) ?_) | (refine E_gdF (by decide) ?_) | (refine E_gdnT (by decide) ?_) | (refine E_gdnF (by decide) ?_) | (refine E_pickT (by decide) ?_) | (refine E_pickF (by decide) ?_) | (refine E_ixN (by omega) ?_) | (refine E_ld' (by assumption) ?_) | (refine E_addI (by omega) (by omega) ?_) | (refine E_subI (by omega) (by omega) ?_) | (refine E_mulI (by omega) (by omega) ?_)))
    exact h
theorem rep_cB (n : Nat) : rep n [.int .u8 0] = (List.replicate n (0 : UInt8)).flatMap cB := by
  rw [bcs_enc]; simp [rep, bcs]
theorem fixed {n w : Nat} (hw1 : 1 ≤ w) (hw2 : w ≤ 8) (hn : n < 256 ^ w) (hn2 : n ≤ 9007199254740991) (h : ∀ v [CellI v], E B (sls cB 5 1 v (be n w) :: H) (K (.tuple #[v, I 0]))) : E B H (CF Tryz.prog 104 [I n, I w] K) := by
  refine E_mono (W := s104 _ _ K) ?_ fun _ => c104
  unfold s104
  have c1 : ¬ (w : Int) < 1 := by omega
  have c2 : ¬ (8 : Int) < (w : Int) := by omega
  refine E_join0 ?_
  (repeat (first | (refine E_ld ?_) | (refine E_fad0 ?_) | (refine E_fad ?_) | (refine E_nc ?_) | (refine E_tt ?_) | (refine E_ff ?_) | (refine E_st ?_) | (refine E_len ?_) | (refine E_lenstr ?_) | (refine E_lenS ?_) | (refine E_box fun _ => ?_) | (refine E_eql ?_) | (refine E_neq ?_) | (refine E_lss ?_) | (refine E_leq ?_) | (refine E_gtr ?_) | (refine E_geq ?_) | (refine E_ext ?_) | (refine E_prt ?_) | (refine E_mx ?_) | (refine E_mn ?_) | (refine E_cap ?_) | (refine E_gdu ?_) | (refine E_fa fun _ => ?_) | (refine E_dr ?_) | (refine E_nc_f ?_) | (refine E_nc_i ?_) | (refine E_not ?_) | (refine E_str1 ?_) | (refine E_rck0 ?_) | (refine E_gff ?_) | (refine E_gtt ?_) | (refine E_gft ?_) | (refine E_gtf ?_) | (refine E_pff ?_) | (refine E_ptt ?_) | (refine E_streqS ?_) | (refine E_strneS ?_) | (refine E_streq ?_) | (refine E_strne ?_) | (refine E_stA ?_) | (refine E_ldNA ?_) | (refine E_ptfad0 fun _ _ => ?_) | (refine E_ptfad fun _ _ => ?_) | (refine E_ptld ?_) | (refine E_ptldA ?_) | (refine E_rsix (by assumption) fun _ _ => ?_) | (refine E_rslen ?_) | (refine E_ifT (by assumption) ?_) | (refine E_ifF (by assumption) ?_) | (refine E_gdT (by assumption) ?_) | (refine E_gdF (by assumption) ?_) | (refine E_gdnT (by assumption) ?_) | (refine E_gdnF (by assumption) ?_) | (refine E_pickT (by assumption) ?_) | (refine E_pickF (by assumption) ?_) | (refine E_ifT (by decide) ?_) | (refine E_ifF (by decide) ?_) | (refine E_gdT (by decide) ?_) | (refine E_gdF (by decide) ?_) | (refine E_gdnT (by decide) ?_) | (refine E_gdnF (by decide) ?_) | (refine E_pickT (by decide) ?_) | (refine E_pickF (by decide) ?_) | (refine E_ixN (by omega) ?_) | (refine E_ld' (by assumption) ?_) | (refine E_addI (by omega) (by omega) ?_) | (refine E_subI (by omega) (by omega) ?_) | (refine E_mulI (by omega) (by omega) ?_)))
  refine E_join1 [I n, I w, .bool false] H (fun k hk => ?_) ?_
  · have fin : ∀ q : Bool, false = q → E B H (app 3 k [I n, I w, .bool q]) := fun q hq => hq ▸ hk
    refine octNumber ?_
    rw [decide_eq_true (show 0 ≤ (n : Int) ∧ (n : Int) ≤ 9007199254740991 by omega)]
    refine E_notb ?_
    by_cases h7 : (w : Int) < 7
    · (repeat (first | (refine E_ld ?_) | (refine E_fad0 ?_) | (refine E_fad ?_) | (refine E_nc ?_) | (refine E_tt ?_) | (refine E_ff ?_) | (refine E_st ?_) | (refine E_len ?_) | (refine E_lenstr ?_) | (refine E_lenS ?_) | (refine E_box fun _ => ?_) | (refine E_eql ?_) | (refine E_neq ?_) | (refine E_lss ?_) | (refine E_leq ?_) | (refine E_gtr ?_) | (refine E_geq ?_) | (refine E_ext ?_) | (refine E_prt ?_) | (refine E_mx ?_) | (refine E_mn ?_) | (refine E_cap ?_) | (refine E_gdu ?_) | (refine E_fa fun _ => ?_) | (refine E_dr ?_) | (refine E_nc_f ?_) | (refine E_nc_i ?_) | (refine E_not ?_) | (refine E_str1 ?_) | (refine E_rck0 ?_) | (refine E_gff ?_) | (refine E_gtt ?_) | (refine E_gft ?_) | (refine E_gtf ?_) | (refine E_pff ?_) | (refine E_ptt ?_) | (refine E_streqS ?_) | (refine E_strneS ?_) | (refine E_streq ?_) | (refine E_strne ?_) | (refine E_stA ?_) | (refine E_ldNA ?_) | (refine E_ptfad0 fun _ _ => ?_) | (refine E_ptfad fun _ _ => ?_) | (refine E_ptld ?_) | (refine E_ptldA ?_) | (refine E_rsix (by assumption) fun _ _ => ?_) | (refine E_rslen ?_) | (refine E_ifT (by assumption) ?_) | (refine E_ifF (by assumption) ?_) | (refine E_gdT (by assumption) ?_) | (refine E_gdF (by assumption) ?_) | (refine E_gdnT (by assumption) ?_) | (refine E_gdnF (by assumption) ?_) | (refine E_pickT (by assumption) ?_) | (refine E_pickF (by assumption) ?_) | (refine E_ifT (by decide) ?_) | (refine E_ifF (by decide) ?_) | (refine E_gdT (by decide) ?_) | (refine E_gdF (by decide) ?_) | (refine E_gdnT (by decide) ?_) | (refine E_gdnF (by decide) ?_) | (refine E_pickT (by decide) ?_) | (refine E_pickF (by decide) ?_) | (refine E_ixN (by omega) ?_) | (refine E_ld' (by assumption) ?_) | (refine E_addI (by omega) (by omega) ?_) | (refine E_subI (by omega) (by omega) ?_) | (refine E_mulI (by omega) (by omega) ?_)))
      refine E_shrI (by omega) (by omega) (by show (8 * (w : Int)).toNat ≤ 64; omega) ?_
      have e : (n : Int) / 2 ^ (8 * (w : Int)).toNat = 0 := by
        have e1 : (8 * (w : Int)).toNat = 8 * w := by omega
        have e2 : (2 : Int) ^ (8 * w) = ((256 ^ w : Nat) : Int) := by
          rw [Int.natCast_pow, Int.pow_mul]; rfl
        rw [e1, e2]
        exact Int.ediv_eq_zero_of_lt (by omega) (by omega)
      rw [e]
      (repeat (first | (refine E_ld ?_) | (refine E_fad0 ?_) | (refine E_fad ?_) | (refine E_nc ?_) | (refine E_tt ?_) | (refine E_ff ?_) | (refine E_st ?_) | (refine E_len ?_) | (refine E_lenstr ?_) | (refine E_lenS ?_) | (refine E_box fun _ => ?_) | (refine E_eql ?_) | (refine E_neq ?_) | (refine E_lss ?_) | (refine E_leq ?_) | (refine E_gtr ?_) | (refine E_geq ?_) | (refine E_ext ?_) | (refine E_prt ?_) | (refine E_mx ?_) | (refine E_mn ?_) | (refine E_cap ?_) | (refine E_gdu ?_) | (refine E_fa fun _ => ?_) | (refine E_dr ?_) | (refine E_nc_f ?_) | (refine E_nc_i ?_) | (refine E_not ?_) | (refine E_str1 ?_) | (refine E_rck0 ?_) | (refine E_gff ?_) | (refine E_gtt ?_) | (refine E_gft ?_) | (refine E_gtf ?_) | (refine E_pff ?_) | (refine E_ptt ?_) | (refine E_streqS ?_) | (refine E_strneS ?_) | (refine E_streq ?_) | (refine E_strne ?_) | (refine E_stA ?_) | (refine E_ldNA ?_) | (refine E_ptfad0 fun _ _ => ?_) | (refine E_ptfad fun _ _ => ?_) | (refine E_ptld ?_) | (refine E_ptldA ?_) | (refine E_rsix (by assumption) fun _ _ => ?_) | (refine E_rslen ?_) | (refine E_ifT (by assumption) ?_) | (refine E_ifF (by assumption) ?_) | (refine E_gdT (by assumption) ?_) | (refine E_gdF (by assumption) ?_) | (refine E_gdnT (by assumption) ?_) | (refine E_gdnF (by assumption) ?_) | (refine E_pickT (by assumption) ?_) | (refine E_pickF (by assumption) ?_) | (refine E_ifT (by decide) ?_) | (refine E_ifF (by decide) ?_) | (refine E_gdT (by decide) ?_) | (refine E_gdF (by decide) ?_) | (refine E_gdnT (by decide) ?_) | (refine E_gdnF (by decide) ?_) | (refine E_pickT (by decide) ?_) | (refine E_pickF (by decide) ?_) | (refine E_ixN (by omega) ?_) | (refine E_ld' (by assumption) ?_) | (refine E_addI (by omega) (by omega) ?_) | (refine E_subI (by omega) (by omega) ?_) | (refine E_mulI (by omega) (by omega) ?_)))
      exact fin _ rfl
    · (repeat (first | (refine E_ld ?_) | (refine E_fad0 ?_) | (refine E_fad ?_) | (refine E_nc ?_) | (refine E_tt ?_) | (refine E_ff ?_) | (refine E_st ?_) | (refine E_len ?_) | (refine E_lenstr ?_) | (refine E_lenS ?_) | (refine E_box fun _ => ?_) | (refine E_eql ?_) | (refine E_neq ?_) | (refine E_lss ?_) | (refine E_leq ?_) | (refine E_gtr ?_) | (refine E_geq ?_) | (refine E_ext ?_) | (refine E_prt ?_) | (refine E_mx ?_) | (refine E_mn ?_) | (refine E_cap ?_) | (refine E_gdu ?_) | (refine E_fa fun _ => ?_) | (refine E_dr ?_) | (refine E_nc_f ?_) | (refine E_nc_i ?_) | (refine E_not ?_) | (refine E_str1 ?_) | (refine E_rck0 ?_) | (refine E_gff ?_) | (refine E_gtt ?_) | (refine E_gft ?_) | (refine E_gtf ?_) | (refine E_pff ?_) | (refine E_ptt ?_) | (refine E_streqS ?_) | (refine E_strneS ?_) | (refine E_streq ?_) | (refine E_strne ?_) | (refine E_stA ?_) | (refine E_ldNA ?_) | (refine E_ptfad0 fun _ _ => ?_) | (refine E_ptfad fun _ _ => ?_) | (refine E_ptld ?_) | (refine E_ptldA ?_) | (refine E_rsix (by assumption) fun _ _ => ?_) | (refine E_rslen ?_) | (refine E_ifT (by assumption) ?_) | (refine E_ifF (by assumption) ?_) | (refine E_gdT (by assumption) ?_) | (refine E_gdF (by assumption) ?_) | (refine E_gdnT (by assumption) ?_) | (refine E_gdnF (by assumption) ?_) | (refine E_pickT (by assumption) ?_) | (refine E_pickF (by assumption) ?_) | (refine E_ifT (by decide) ?_) | (refine E_ifF (by decide) ?_) | (refine E_gdT (by decide) ?_) | (refine E_gdF (by decide) ?_) | (refine E_gdnT (by decide) ?_) | (refine E_gdnF (by decide) ?_) | (refine E_pickT (by decide) ?_) | (refine E_pickF (by decide) ?_) | (refine E_ixN (by omega) ?_) | (refine E_ld' (by assumption) ?_) | (refine E_addI (by omega) (by omega) ?_) | (refine E_subI (by omega) (by omega) ?_) | (refine E_mulI (by omega) (by omega) ?_)))
      exact fin _ rfl
  refine E_fa fun _ => ?_
  (repeat (first | (refine E_ld ?_) | (refine E_fad0 ?_) | (refine E_fad ?_) | (refine E_nc ?_) | (refine E_tt ?_) | (refine E_ff ?_) | (refine E_st ?_) | (refine E_len ?_) | (refine E_lenstr ?_) | (refine E_lenS ?_) | (refine E_box fun _ => ?_) | (refine E_eql ?_) | (refine E_neq ?_) | (refine E_lss ?_) | (refine E_leq ?_) | (refine E_gtr ?_) | (refine E_geq ?_) | (refine E_ext ?_) | (refine E_prt ?_) | (refine E_mx ?_) | (refine E_mn ?_) | (refine E_cap ?_) | (refine E_gdu ?_) | (refine E_fa fun _ => ?_) | (refine E_dr ?_) | (refine E_nc_f ?_) | (refine E_nc_i ?_) | (refine E_not ?_) | (refine E_str1 ?_) | (refine E_rck0 ?_) | (refine E_gff ?_) | (refine E_gtt ?_) | (refine E_gft ?_) | (refine E_gtf ?_) | (refine E_pff ?_) | (refine E_ptt ?_) | (refine E_streqS ?_) | (refine E_strneS ?_) | (refine E_streq ?_) | (refine E_strne ?_) | (refine E_stA ?_) | (refine E_ldNA ?_) | (refine E_ptfad0 fun _ _ => ?_) | (refine E_ptfad fun _ _ => ?_) | (refine E_ptld ?_) | (refine E_ptldA ?_) | (refine E_rsix (by assumption) fun _ _ => ?_) | (refine E_rslen ?_) | (refine E_ifT (by assumption) ?_) | (refine E_ifF (by assumption) ?_) | (refine E_gdT (by assumption) ?_) | (refine E_gdF (by assumption) ?_) | (refine E_gdnT (by assumption) ?_) | (refine E_gdnF (by assumption) ?_) | (refine E_pickT (by assumption) ?_) | (refine E_pickF (by assumption) ?_) | (refine E_ifT (by decide) ?_) | (refine E_ifF (by decide) ?_) | (refine E_gdT (by decide) ?_) | (refine E_gdF (by decide) ?_) | (refine E_gdnT (by decide) ?_) | (refine E_gdnF (by decide) ?_) | (refine E_pickT (by decide) ?_) | (refine E_pickF (by decide) ?_) | (refine E_ixN (by omega) ?_) | (refine E_ld' (by assumption) ?_) | (refine E_addI (by omega) (by omega) ?_) | (refine E_subI (by omega) (by omega) ?_) | (refine E_mulI (by omega) (by omega) ?_)))
  refine E_mkS u_bytes elt_byte (by omega) (by omega) (by omega) (by omega) fun b => ?_
  rw [rep_cB, Int.toNat_natCast]
  refine E_slsC (enc := cB) (List.replicate w 0) w rfl (by simp) ?_
  generalize (Value.slice (some (⟨b, 0, none⟩ : Addr)) w w) = v
  refine rs_cell (v := v) fun hcv => ?_
  have icv : CellI v := ⟨hcv⟩
  (repeat (first | (refine E_ld ?_) | (refine E_fad0 ?_) | (refine E_fad ?_) | (refine E_nc ?_) | (refine E_tt ?_) | (refine E_ff ?_) | (refine E_st ?_) | (refine E_len ?_) | (refine E_lenstr ?_) | (refine E_lenS ?_) | (refine E_box fun _ => ?_) | (refine E_eql ?_) | (refine E_neq ?_) | (refine E_lss ?_) | (refine E_leq ?_) | (refine E_gtr ?_) | (refine E_geq ?_) | (refine E_ext ?_) | (refine E_prt ?_) | (refine E_mx ?_) | (refine E_mn ?_) | (refine E_cap ?_) | (refine E_gdu ?_) | (refine E_fa fun _ => ?_) | (refine E_dr ?_) | (refine E_nc_f ?_) | (refine E_nc_i ?_) | (refine E_not ?_) | (refine E_str1 ?_) | (refine E_rck0 ?_) | (refine E_gff ?_) | (refine E_gtt ?_) | (refine E_gft ?_) | (refine E_gtf ?_) | (refine E_pff ?_) | (refine E_ptt ?_) | (refine E_streqS ?_) | (refine E_strneS ?_) | (refine E_streq ?_) | (refine E_strne ?_) | (refine E_stA ?_) | (refine E_ldNA ?_) | (refine E_ptfad0 fun _ _ => ?_) | (refine E_ptfad fun _ _ => ?_) | (refine E_ptld ?_) | (refine E_ptldA ?_) | (refine E_rsix (by assumption) fun _ _ => ?_) | (refine E_rslen ?_) | (refine E_ifT (by assumption) ?_) | (refine E_ifF (by assumption) ?_) | (refine E_gdT (by assumption) ?_) | (refine E_gdF (by assumption) ?_) | (refine E_gdnT (by assumption) ?_) | (refine E_gdnF (by assumption) ?_) | (refine E_pickT (by assumption) ?_) | (refine E_pickF (by assumption) ?_) | (refine E_ifT (by decide) ?_) | (refine E_ifF (by decide) ?_) | (refine E_gdT (by decide) ?_) | (refine E_gdF (by decide) ?_) | (refine E_gdnT (by decide) ?_) | (refine E_gdnF (by decide) ?_) | (refine E_pickT (by decide) ?_) | (refine E_pickF (by decide) ?_) | (refine E_ixN (by omega) ?_) | (refine E_ld' (by assumption) ?_) | (refine E_addI (by omega) (by omega) ?_) | (refine E_subI (by omega) (by omega) ?_) | (refine E_mulI (by omega) (by omega) ?_)))
  refine E_loop (σ := (Nat × Nat) × List UInt8) (fun s => s.1.1 ≤ w ∧ be n w = be s.1.2 s.1.1 ++ s.2) (fun s => [I s.1.2, v, I ((s.1.1 : Int) - 1)]) (fun s => sls cB 5 1 v (List.replicate s.1.1 0 ++ s.2) :: H) (fun s => s.1.1) ((w, n), []) (fun _ => rfl) rfl
    ⟨Nat.le_refl _, by simp⟩ (fun W hW => by simpa using hW) ?_
  rintro ⟨⟨r, m⟩, suf⟩ K0 ⟨hr, hbe⟩ hk
  simp only at hr hbe hk ⊢
  refine E_fa fun _ => ?_
  (repeat (first | (refine E_ld ?_) | (refine E_fad0 ?_) | (refine E_fad ?_) | (refine E_nc ?_) | (refine E_tt ?_) | (refine E_ff ?_) | (refine E_st ?_) | (refine E_len ?_) | (refine E_lenstr ?_) | (refine E_lenS ?_) | (refine E_box fun _ => ?_) | (refine E_eql ?_) | (refine E_neq ?_) | (refine E_lss ?_) | (refine E_leq ?_) | (refine E_gtr ?_) | (refine E_geq ?_) | (refine E_ext ?_) | (refine E_prt ?_) | (refine E_mx ?_) | (refine E_mn ?_) | (refine E_cap ?_) | (refine E_gdu ?_) | (refine E_fa fun _ => ?_) | (refine E_dr ?_) | (refine E_nc_f ?_) | (refine E_nc_i ?_) | (refine E_not ?_) | (refine E_str1 ?_) | (refine E_rck0 ?_) | (refine E_gff ?_) | (refine E_gtt ?_) | (refine E_gft ?_) | (refine E_gtf ?_) | (refine E_pff ?_) | (refine E_ptt ?_) | (refine E_streqS ?_) | (refine E_strneS ?_) | (refine E_streq ?_) | (refine E_strne ?_) | (refine E_stA ?_) | (refine E_ldNA ?_) | (refine E_ptfad0 fun _ _ => ?_) | (refine E_ptfad fun _ _ => ?_) | (refine E_ptld ?_) | (refine E_ptldA ?_) | (refine E_rsix (by assumption) fun _ _ => ?_) | (refine E_rslen ?_) | (refine E_ifT (by assumption) ?_) | (refine E_ifF (by assumption) ?_) | (refine E_gdT (by assumption) ?_) | (refine E_gdF (by assumption) ?_) | (refine E_gdnT (by assumption) ?_) | (refine E_gdnF (by assumption) ?_) | (refine E_pickT (by assumption) ?_) | (refine E_pickF (by assumption) ?_) | (refine E_ifT (by decide) ?_) | (refine E_ifF (by decide) ?_) | (refine E_gdT (by decide) ?_) | (refine E_gdF (by decide) ?_) | (refine E_gdnT (by decide) ?_) | (refine E_gdnF (by decide) ?_) | (refine E_pickT (by decide) ?_) | (refine E_pickF (by decide) ?_) | (refine E_ixN (by omega) ?_) | (refine E_ld' (by assumption) ?_) | (refine E_addI (by omega) (by omega) ?_) | (refine E_subI (by omega) (by omega) ?_) | (refine E_mulI (by omega) (by omega) ?_)))
  refine E_if (fun hc => ?_) (fun hc => ?_)
  · obtain ⟨r', rfl⟩ : ∃ r', r = r' + 1 := ⟨r - 1, by omega⟩
    have e1 : ((r' + 1 : Nat) : Int) - 1 = (r' : Int) := by omega
    rw [e1]
    refine E_cvt8 (by omega) ?_
    rw [Int.toNat_natCast]
    refine E_sset (UInt8.ofNat m) (by simp; omega) rfl ?_
    refine E_shrI (by omega) (by omega) (by decide) ?_
    have e2 : (m : Int) / 2 ^ (8 : Int).toNat = ((m / 256 : Nat) : Int) := by
      have : (2 : Int) ^ (8 : Int).toNat = 256 := by decide
      rw [this]; omega
    rw [e2]
    (repeat (first | (refine E_ld ?_) | (refine E_fad0 ?_) | (refine E_fad ?_) | (refine E_nc ?_) | (refine E_tt ?_) | (refine E_ff ?_) | (refine E_st ?_) | (refine E_len ?_) | (refine E_lenstr ?_) | (refine E_lenS ?_) | (refine E_box fun _ => ?_) | (refine E_eql ?_) | (refine E_neq ?_) | (refine E_lss ?_) | (refine E_leq ?_) | (refine E_gtr ?_) | (refine E_geq ?_) | (refine E_ext ?_) | (refine E_prt ?_) | (refine E_mx ?_) | (refine E_mn ?_) | (refine E_cap ?_) | (refine E_gdu ?_) | (refine E_fa fun _ => ?_) | (refine E_dr ?_) | (refine E_nc_f ?_) | (refine E_nc_i ?_) | (refine E_not ?_) | (refine E_str1 ?_) | (refine E_rck0 ?_) | (refine E_gff ?_) | (refine E_gtt ?_) | (refine E_gft ?_) | (refine E_gtf ?_) | (refine E_pff ?_) | (refine E_ptt ?_) | (refine E_streqS ?_) | (refine E_strneS ?_) | (refine E_streq ?_) | (refine E_strne ?_) | (refine E_stA ?_) | (refine E_ldNA ?_) | (refine E_ptfad0 fun _ _ => ?_) | (refine E_ptfad fun _ _ => ?_) | (refine E_ptld ?_) | (refine E_ptldA ?_) | (refine E_rsix (by assumption) fun _ _ => ?_) | (refine E_rslen ?_) | (refine E_ifT (by assumption) ?_) | (refine E_ifF (by assumption) ?_) | (refine E_gdT (by assumption) ?_) | (refine E_gdF (by assumption) ?_) | (refine E_gdnT (by assumption) ?_) | (refine E_gdnF (by assumption) ?_) | (refine E_pickT (by assumption) ?_) | (refine E_pickF (by assumption) ?_) | (refine E_ifT (by decide) ?_) | (refine E_ifF (by decide) ?_) | (refine E_gdT (by decide) ?_) | (refine E_gdF (by decide) ?_) | (refine E_gdnT (by decide) ?_) | (refine E_gdnF (by decide) ?_) | (refine E_pickT (by decide) ?_) | (refine E_pickF (by decide) ?_) | (refine E_ixN (by omega) ?_) | (refine E_ld' (by assumption) ?_) | (refine E_addI (by omega) (by omega) ?_) | (refine E_subI (by omega) (by omega) ?_) | (refine E_mulI (by omega) (by omega) ?_)))
    have hk' := hk ((r', m / 256), UInt8.ofNat m :: suf) ⟨by simp only; omega, by rw [hbe]; simp [be]⟩ (by simp only; omega)
    have e3 : (List.replicate (r' + 1) (0 : UInt8) ++ suf).set r' (UInt8.ofNat m) = List.replicate r' 0 ++ UInt8.ofNat m :: suf := by
      rw [List.replicate_succ', List.append_assoc, List.set_append_right _ _ (by simp)]
      simp
    rw [e3]
    exact hk'
  · have : r = 0 := by omega
    subst this
    simp only [be, List.nil_append] at hbe
    simp only [List.replicate_zero, List.nil_append]
    rw [← hbe]
    exact h v
theorem take_snocB {l : List UInt8} {i : Nat} {x : UInt8} (h : l[i]? = some x) : l.take (i + 1) = l.take i ++ [x] := by rw [List.take_add_one, h]; rfl
theorem crcMore {v : Value} {bs : List UInt8} [Rb B H v bs] (hm : bs.length ≤ 9223372036854775807) (h : E B H (K (u32 (crcS bs)))) : E B H (CF Tryz.prog 105 [.int .u32 0, v] K) := by
  refine E_mono (W := s105 _ _ K) ?_ fun _ => c105
  unfold s105
  refine E_com32 (a := 0#32) ?_
  refine E_rslen (v := v) ?_
  refine E_loop (σ := Nat) (fun i => i ≤ bs.length) (fun i => [u32 ((bs.take i).foldl crcB (~~~ 0#32)), v, I bs.length, I i]) (fun _ => H) (fun i => bs.length - i) 0 (fun _ => rfl) rfl (Nat.zero_le _) (fun W hW => hW) ?_
  intro i K0 hi hk
  refine E_fa fun _ => ?_
  (repeat (first | (refine E_ld ?_) | (refine E_fad0 ?_) | (refine E_fad ?_) | (refine E_nc ?_) | (refine E_tt ?_) | (refine E_ff ?_) | (refine E_st ?_) | (refine E_len ?_) | (refine E_lenstr ?_) | (refine E_lenS ?_) | (refine E_box fun _ => ?_) | (refine E_eql ?_) | (refine E_neq ?_) | (refine E_lss ?_) | (refine E_leq ?_) | (refine E_gtr ?_) | (refine E_geq ?_) | (refine E_ext ?_) | (refine E_prt ?_) | (refine E_mx ?_) | (refine E_mn ?_) | (refine E_cap ?_) | (refine E_gdu ?_) | (refine E_fa fun _ => ?_) | (refine E_dr ?_) | (refine E_nc_f ?_) | (refine E_nc_i ?_) | (refine E_not ?_) | (refine E_str1 ?_) | (refine E_rck0 ?_) | (refine E_gff ?_) | (refine E_gtt ?_) | (refine E_gft ?_) | (refine E_gtf ?_) | (refine E_pff ?_) | (refine E_ptt ?_) | (refine E_streqS ?_) | (refine E_strneS ?_) | (refine E_streq ?_) | (refine E_strne ?_) | (refine E_stA ?_) | (refine E_ldNA ?_) | (refine E_ptfad0 fun _ _ => ?_) | (refine E_ptfad fun _ _ => ?_) | (refine E_ptld ?_) | (refine E_ptldA ?_) | (refine E_rsix (by assumption) fun _ _ => ?_) | (refine E_rslen ?_) | (refine E_ifT (by assumption) ?_) | (refine E_ifF (by assumption) ?_) | (refine E_gdT (by assumption) ?_) | (refine E_gdF (by assumption) ?_) | (refine E_gdnT (by assumption) ?_) | (refine E_gdnF (by assumption) ?_) | (refine E_pickT (by assumption) ?_) | (refine E_pickF (by assumption) ?_) | (refine E_ifT (by decide) ?_) | (refine E_ifF (by decide) ?_) | (refine E_gdT (by decide) ?_) | (refine E_gdF (by decide) ?_) | (refine E_gdnT (by decide) ?_) | (refine E_gdnF (by decide) ?_) | (refine E_pickT (by decide) ?_) | (refine E_pickF (by decide) ?_) | (refine E_ixN (by omega) ?_) | (refine E_ld' (by assumption) ?_) | (refine E_addI (by omega) (by omega) ?_) | (refine E_subI (by omega) (by omega) ?_) | (refine E_mulI (by omega) (by omega) ?_)))
  refine E_if (fun hc => ?_) (fun hc => ?_)
  · have hs : bs[i]? = some bs[i] := List.getElem?_eq_getElem (by omega)
    generalize bs[i] = x at hs
    have hk' := hk (i + 1) (by omega) (by omega)
    rw [take_snocB hs, List.foldl_append] at hk'
    simp only [List.foldl_cons, List.foldl_nil] at hk'
    generalize (bs.take i).foldl crcB (~~~ 0#32) = r at hk'
    refine E_rsix (v := v) hs fun _ _ => ?_
    refine E_ptld ?_
    refine E_cvt32 ?_
    refine E_xor32 ?_
    unfold crcB at hk'
    generalize r ^^^ BitVec.ofNat 32 x.toNat = q at hk'
    refine E_loop (σ := Nat × BitVec 32) (fun s => s.1 ≤ 8 ∧ stepN (8 - s.1) s.2 = stepN 8 q) (fun s => [u32 s.2, v, I bs.length, I i, I s.1]) (fun _ => H) (fun s => 8 - s.1) (0, q) (fun _ => rfl) rfl ⟨Nat.zero_le _, rfl⟩ (fun W hW => hW) ?_
    rintro ⟨j, p⟩ K1 ⟨hj, hp⟩ hk1
    simp only at hj hp hk1 ⊢
    refine E_fa fun _ => ?_
    (repeat (first | (refine E_ld ?_) | (refine E_fad0 ?_) | (refine E_fad ?_) | (refine E_nc ?_) | (refine E_tt ?_) | (refine E_ff ?_) | (refine E_st ?_) | (refine E_len ?_) | (refine E_lenstr ?_) | (refine E_lenS ?_) | (refine E_box fun _ => ?_) | (refine E_eql ?_) | (refine E_neq ?_) | (refine E_lss ?_) | (refine E_leq ?_) | (refine E_gtr ?_) | (refine E_geq ?_) | (refine E_ext ?_) | (refine E_prt ?_) | (refine E_mx ?_) | (refine E_mn ?_) | (refine E_cap ?_) | (refine E_gdu ?_) | (refine E_fa fun _ => ?_) | (refine E_dr ?_) | (refine E_nc_f ?_) | (refine E_nc_i ?_) | (refine E_not ?_) | (refine E_str1 ?_) | (refine E_rck0 ?_) | (refine E_gff ?_) | (refine E_gtt ?_) | (refine E_gft ?_) | (refine E_gtf ?_) | (refine E_pff ?_) | (refine E_ptt ?_) | (refine E_streqS ?_) | (refine E_strneS ?_) | (refine E_streq ?_) | (refine E_strne ?_) | (refine E_stA ?_) | (refine E_ldNA ?_) | (refine E_ptfad0 fun _ _ => ?_) | (refine E_ptfad fun _ _ => ?_) | (refine E_ptld ?_) | (refine E_ptldA ?_) | (refine E_rsix (by assumption) fun _ _ => ?_) | (refine E_rslen ?_) | (refine E_ifT (by assumption) ?_) | (refine E_ifF (by assumption) ?_) | (refine E_gdT (by assumption) ?_) | (refine E_gdF (by assumption) ?_) | (refine E_gdnT (by assumption) ?_) | (refine E_gdnF (by assumption) ?_) | (refine E_pickT (by assumption) ?_) | (refine E_pickF (by assumption) ?_) | (refine E_ifT (by decide) ?_) | (refine E_ifF (by decide) ?_) | (refine E_gdT (by decide) ?_) | (refine E_gdF (by decide) ?_) | (refine E_gdnT (by decide) ?_) | (refine E_gdnF (by decide) ?_) | (refine E_pickT (by decide) ?_) | (refine E_pickF (by decide) ?_) | (refine E_ixN (by omega) ?_) | (refine E_ld' (by assumption) ?_) | (refine E_addI (by omega) (by omega) ?_) | (refine E_subI (by omega) (by omega) ?_) | (refine E_mulI (by omega) (by omega) ?_)))
    refine E_if (fun hc => ?_) (fun hc => ?_)
    · refine E_and32 (b := 1#32) ?_
      refine E_shr32 ?_
      refine E_neg32 ?_
      refine E_and32 (a := poly) ?_
      refine E_xor32 ?_
      (repeat (first | (refine E_ld ?_) | (refine E_fad0 ?_) | (refine E_fad ?_) | (refine E_nc ?_) | (refine E_tt ?_) | (refine E_ff ?_) | (refine E_st ?_) | (refine E_len ?_) | (refine E_lenstr ?_) | (refine E_lenS ?_) | (refine E_box fun _ => ?_) | (refine E_eql ?_) | (refine E_neq ?_) | (refine E_lss ?_) | (refine E_leq ?_) | (refine E_gtr ?_) | (refine E_geq ?_) | (refine E_ext ?_) | (refine E_prt ?_) | (refine E_mx ?_) | (refine E_mn ?_) | (refine E_cap ?_) | (refine E_gdu ?_) | (refine E_fa fun _ => ?_) | (refine E_dr ?_) | (refine E_nc_f ?_) | (refine E_nc_i ?_) | (refine E_not ?_) | (refine E_str1 ?_) | (refine E_rck0 ?_) | (refine E_gff ?_) | (refine E_gtt ?_) | (refine E_gft ?_) | (refine E_gtf ?_) | (refine E_pff ?_) | (refine E_ptt ?_) | (refine E_streqS ?_) | (refine E_strneS ?_) | (refine E_streq ?_) | (refine E_strne ?_) | (refine E_stA ?_) | (refine E_ldNA ?_) | (refine E_ptfad0 fun _ _ => ?_) | (refine E_ptfad fun _ _ => ?_) | (refine E_ptld ?_) | (refine E_ptldA ?_) | (refine E_rsix (by assumption) fun _ _ => ?_) | (refine E_rslen ?_) | (refine E_ifT (by assumption) ?_) | (refine E_ifF (by assumption) ?_) | (refine E_gdT (by assumption) ?_) | (refine E_gdF (by assumption) ?_) | (refine E_gdnT (by assumption) ?_) | (refine E_gdnF (by assumption) ?_) | (refine E_pickT (by assumption) ?_) | (refine E_pickF (by assumption) ?_) | (refine E_ifT (by decide) ?_) | (refine E_ifF (by decide) ?_) | (refine E_gdT (by decide) ?_) | (refine E_gdF (by decide) ?_) | (refine E_gdnT (by decide) ?_) | (refine E_gdnF (by decide) ?_) | (refine E_pickT (by decide) ?_) | (refine E_pickF (by decide) ?_) | (refine E_ixN (by omega) ?_) | (refine E_ld' (by assumption) ?_) | (refine E_addI (by omega) (by omega) ?_) | (refine E_subI (by omega) (by omega) ?_) | (refine E_mulI (by omega) (by omega) ?_)))
      refine hk1 (j + 1, step1 p) ⟨by simp only; omega, ?_⟩ (by simp only; omega)
      rw [← hp]
      have e : 8 - j = (8 - (j + 1)) + 1 := by omega
      rw [e]; rfl
    · have : j = 8 := by omega
      subst this
      simp only [Nat.sub_self, stepN] at hp
      subst hp
      (repeat (first | (refine E_ld ?_) | (refine E_fad0 ?_) | (refine E_fad ?_) | (refine E_nc ?_) | (refine E_tt ?_) | (refine E_ff ?_) | (refine E_st ?_) | (refine E_len ?_) | (refine E_lenstr ?_) | (refine E_lenS ?_) | (refine E_box fun _ => ?_) | (refine E_eql ?_) | (refine E_neq ?_) | (refine E_lss ?_) | (refine E_leq ?_) | (refine E_gtr ?_) | (refine E_geq ?_) | (refine E_ext ?_) | (refine E_prt ?_) | (refine E_mx ?_) | (refine E_mn ?_) | (refine E_cap ?_) | (refine E_gdu ?_) | (refine E_fa fun _ => ?_) | (refine E_dr ?_) | (refine E_nc_f ?_) | (refine E_nc_i ?_) | (refine E_not ?_) | (refine E_str1 ?_) | (refine E_rck0 ?_) | (refine E_gff ?_) | (refine E_gtt ?_) | (refine E_gft ?_) | (refine E_gtf ?_) | (refine E_pff ?_) | (refine E_ptt ?_) | (refine E_streqS ?_) | (refine E_strneS ?_) | (refine E_streq ?_) | (refine E_strne ?_) | (refine E_stA ?_) | (refine E_ldNA ?_) | (refine E_ptfad0 fun _ _ => ?_) | (refine E_ptfad fun _ _ => ?_) | (refine E_ptld ?_) | (refine E_ptldA ?_) | (refine E_rsix (by assumption) fun _ _ => ?_) | (refine E_rslen ?_) | (refine E_ifT (by assumption) ?_) | (refine E_ifF (by assumption) ?_) | (refine E_gdT (by assumption) ?_) | (refine E_gdF (by assumption) ?_) | (refine E_gdnT (by assumption) ?_) | (refine E_gdnF (by assumption) ?_) | (refine E_pickT (by assumption) ?_) | (refine E_pickF (by assumption) ?_) | (refine E_ifT (by decide) ?_) | (refine E_ifF (by decide) ?_) | (refine E_gdT (by decide) ?_) | (refine E_gdF (by decide) ?_) | (refine E_gdnT (by decide) ?_) | (refine E_gdnF (by decide) ?_) | (refine E_pickT (by decide) ?_) | (refine E_pickF (by decide) ?_) | (refine E_ixN (by omega) ?_) | (refine E_ld' (by assumption) ?_) | (refine E_addI (by omega) (by omega) ?_) | (refine E_subI (by omega) (by omega) ?_) | (refine E_mulI (by omega) (by omega) ?_)))
      exact hk'
  · have : i = bs.length := by omega
    subst this
    rw [List.take_length]
    refine E_com32 ?_
    exact h
theorem crc {v : Value} {bs : List UInt8} [Rb B H v bs] (hm : bs.length ≤ 9223372036854775807) (h : E B H (K (u32 (crcS bs)))) : E B H (CF Tryz.prog 65 [v] K) := by
  refine E_mono (W := s65 _ K) ?_ fun _ => c65
  unfold s65
  exact crcMore hm h
end Go.Proofs.YtmbfmkiagdhcoaaGreat.Slot
end
section
namespace Go.Proofs.YtmbfmkiagdhcoaaGreat.Dig
open Go.Proofs.YtmbfmkiagdhcoaaGreat.Oct
abbrev Wd := BitVec 32
def rr (x : Wd) (n : Nat) : Wd := (x >>> n) ||| (x <<< (32 - n))
def sg0 (x : Wd) : Wd := rr x 7 ^^^ rr x 18 ^^^ (x >>> 3)
def sg1 (x : Wd) : Wd := rr x 17 ^^^ rr x 19 ^^^ (x >>> 10)
def push (a : Wd) (c : UInt8) : Wd := (a <<< 8) ||| BitVec.ofNat 32 c.toNat
def wd (p : List UInt8) (t : Nat) : Wd := ((p.drop (4 * t)).take 4).foldl push 0#32
def nxt (l : List Wd) : Wd := l.getD (l.length - 16) 0#32 + sg0 (l.getD (l.length - 15) 0#32) + l.getD (l.length - 7) 0#32 + sg1 (l.getD (l.length - 2) 0#32)
def more : Nat → List Wd → List Wd
  | 0, l => l
  | n + 1, l => more n l ++ [nxt (more n l)]
def w16 (p : List UInt8) (n : Nat) : List Wd := (List.range n).map (wd p)
def sched (p : List UInt8) : List Wd := more 48 (w16 p 16)
theorem w16_len (p : List UInt8) (n : Nat) : (w16 p n).length = n := by simp [w16]
theorem w16_suc (p : List UInt8) (n : Nat) : w16 p (n + 1) = w16 p n ++ [wd p n] := by simp [w16, List.range_succ]
theorem more_len (n : Nat) (l : List Wd) : (more n l).length = n + l.length := by
  induction n with
  | zero => simp [more]
  | succ n ih => simp only [more, List.length_append, ih, List.length_singleton]; omega
theorem sched_len (p : List UInt8) : (sched p).length = 64 := by simp [sched, more_len, w16_len]
def kk : List Wd := [1116352408#32, 1899447441#32, 3049323471#32, 3921009573#32, 961987163#32, 1508970993#32, 2453635748#32, 2870763221#32, 3624381080#32, 310598401#32, 607225278#32, 1426881987#32, 1925078388#32, 2162078206#32, 2614888103#32, 3248222580#32, 3835390401#32, 4022224774#32, 264347078#32, 604807628#32, 770255983#32, 1249150122#32, 1555081692#32, 1996064986#32, 2554220882#32, 2821834349#32, 2952996808#32, 3210313671#32, 3336571891#32, 3584528711#32, 113926993#32, 338241895#32, 666307205#32, 773529912#32, 1294757372#32, 1396182291#32, 1695183700#32, 1986661051#32, 2177026350#32, 2456956037#32, 2730485921#32, 2820302411#32, 3259730800#32, 3345764771#32, 3516065817#32, 3600352804#32, 4094571909#32, 275423344#32, 430227734#32, 506948616#32, 659060556#32, 883997877#32, 958139571#32, 1322822218#32, 1537002063#32, 1747873779#32, 1955562222#32, 2024104815#32, 2227730452#32, 2361852424#32, 2428436474#32, 2756734187#32, 3204031479#32, 3329325298#32]
theorem kk_len : kk.length = 64 := rfl
structure S8 where
  (a b c d e f g h : Wd)
def S8.l (s : S8) : List Wd := [s.a, s.b, s.c, s.d, s.e, s.f, s.g, s.h]
def S8.add (s v : S8) : S8 := ⟨s.a + v.a, s.b + v.b, s.c + v.c, s.d + v.d, s.e + v.e, s.f + v.f, s.g + v.g, s.h + v.h⟩
def rx (v : S8) (k w : Wd) : Wd := v.h + (rr v.e 6 ^^^ rr v.e 11 ^^^ rr v.e 25) + (v.g ^^^ (v.e &&& (v.f ^^^ v.g))) + k + w
def ry (v : S8) : Wd := (rr v.a 2 ^^^ rr v.a 13 ^^^ rr v.a 22) + ((v.a &&& (v.b ||| v.c)) ||| (v.b &&& v.c))
def rnd (v : S8) (k w : Wd) : S8 := ⟨rx v k w + ry v, v.a, v.b, v.c, v.d + rx v k w, v.e, v.f, v.g⟩
def rds (ws : List Wd) (n : Nat) (s : S8) : S8 := ((kk.zip ws).take n).foldl (fun v x => rnd v x.1 x.2) s
theorem rds_suc {ws : List Wd} {n : Nat} {k w : Wd} (hk : kk[n]? = some k) (hw : ws[n]? = some w) (s : S8) : rds ws (n + 1) s = rnd (rds ws n s) k w := by
  have h : (kk.zip ws)[n]? = some (k, w) := by rw [List.getElem?_zip_eq_some]; exact ⟨hk, hw⟩
  unfold rds
  rw [List.take_add_one, h, List.foldl_append]; rfl
def mix (s : S8) (p : List UInt8) : S8 := s.add (rds (sched p) 64 s)
def hash (s : S8) (p : List UInt8) : S8 := if 64 ≤ p.length then hash (mix s (p.take 64)) (p.drop 64) else s
termination_by p.length
decreasing_by rw [List.length_drop]; omega
theorem hash_ge {s : S8} {p : List UInt8} (h : 64 ≤ p.length) : hash s p = hash (mix s (p.take 64)) (p.drop 64) := by
  conv => lhs; unfold hash
  rw [if_pos h]
theorem hash_lt {s : S8} {p : List UInt8} (h : ¬ 64 ≤ p.length) : hash s p = s := by
  conv => lhs; unfold hash
  rw [if_neg h]
def s0 : S8 := ⟨1779033703#32, 3144134277#32, 1013904242#32, 2773480762#32, 1359893119#32, 2600822924#32, 528734635#32, 1541459225#32⟩
def rem (p : List UInt8) : List UInt8 := p.drop (64 * (p.length / 64))
theorem rem_lt {p : List UInt8} (h : ¬ 64 ≤ p.length) : rem p = p := by
  unfold rem
  rw [Nat.div_eq_of_lt (by omega)]; rfl
theorem rem_ge {p : List UInt8} (h : 64 ≤ p.length) : rem p = rem (p.drop 64) := by
  unfold rem
  rw [List.drop_drop, List.length_drop]
  congr 1
  omega
theorem rem_len (p : List UInt8) : (rem p).length = p.length % 64 := by
  unfold rem
  rw [List.length_drop]
  omega
theorem hash_rem (s : S8) (p q : List UInt8) : hash s (p ++ q) = hash (hash s p) (rem p ++ q) := by
  have : ∀ n (s : S8) (p : List UInt8), p.length ≤ n → hash s (p ++ q) = hash (hash s p) (rem p ++ q) := by
    intro n
    induction n with
    | zero =>
      intro s p hp
      rw [hash_lt (p := p) (by omega), rem_lt (by omega)]
    | succ n ih =>
      intro s p hp
      by_cases h : 64 ≤ p.length
      · rw [hash_ge (p := p ++ q) (by simp; omega), List.take_append_of_le_length h, List.drop_append_of_le_length h, ih _ _ (by simp; omega), ← rem_ge h, ← hash_ge h]
      · rw [hash_lt h, rem_lt h]
  exact this _ s p (Nat.le_refl _)
def zs (n : Nat) : Nat := (119 - n % 64) % 64
def tail (n : Nat) : List UInt8 := [128] ++ List.replicate (zs n) 0 ++ be (8 * n) 8
def sumS (p : List UInt8) : S8 := hash s0 (p ++ tail p.length)
def outB (s : S8) : List UInt8 := s.l.flatMap fun x => be x.toNat 4
def sum (p : List UInt8) : List UInt8 := outB (sumS p)
theorem sum_len (p : List UInt8) : (sum p).length = 32 := by simp [sum, outB, S8.l, be_length]
theorem sumS_rem (p : List UInt8) : sumS p = hash (hash s0 p) (rem p ++ tail p.length) := hash_rem _ _ _
theorem zs_ok (n : Nat) : (n + 1 + zs n) % 64 = 56 := by unfold zs; omega
theorem zs_lt (n : Nat) : zs n < 64 := Nat.mod_lt _ (by decide)
theorem zs_end {n j : Nat} (hj : j ≤ zs n) (h : (n + 1 + j) % 64 = 56) : j = zs n := by
  unfold zs at hj ⊢
  omega
end Go.Proofs.YtmbfmkiagdhcoaaGreat.Dig
end
section
namespace Go.Proofs.YtmbfmkiagdhcoaaGreat.Dig
open Go Go.SL Go.Proofs Go.Proofs.YtmbfmkiagdhcoaaGreat.Sh Go.Proofs.YtmbfmkiagdhcoaaGreat.Oct Go.Proofs.YtmbfmkiagdhcoaaGreat.Disk Go.Proofs.YtmbfmkiagdhcoaaGreat.Slot
variable {B : World} {H : List Asrt} {K : Value → WT} {W : WT}
abbrev us (l : List Wd) : List Value := l.map u32
theorem us_set (l : List Wd) (i : Nat) (x : Wd) : (us l).set i (u32 x) = us (l.set i x) := by simp [List.map_set]
theorem us_get {l : List Wd} {i : Nat} {x : Wd} (h : l[i]? = some x) : (us l)[i]? = some (u32 x) := by simp [h]
theorem us_len (l : List Wd) : (us l).length = l.length := List.length_map ..
instance (l : List Wd) : AllC (us l) := ⟨fun v hv => by
  obtain ⟨x, _, rfl⟩ := List.mem_map.1 hv
  rfl⟩
theorem E_or32 {a b : Wd} (h : E B H (K (u32 (a ||| b)))) : E B H (S.bin .or (u32 a) (u32 b) K) := fun w hw => ⟨rfl, by
  have := h w hw
  show K (.int .u32 (IntKind.wrap .u32 ((BitVec.ofInt 32 (a.toNat : Int) ||| BitVec.ofInt 32 (b.toNat : Int)).toNat : Int))) w
  rw [of32, of32, wrap32]; exact this⟩
theorem E_add32 {a b : Wd} (h : E B H (K (u32 (a + b)))) : E B H (S.bin .add (u32 a) (u32 b) K) := E_add (by
  have e : IntKind.wrap .u32 ((a.toNat : Int) + (b.toNat : Int)) = ((a + b : Wd).toNat : Int) := by
    unfold IntKind.wrap
    simp [IntKind.signed, IntKind.bits, BitVec.toNat_add]
  rw [e]; exact h)
theorem E_shr32n {a : Wd} {k : IntKind} (n : Nat) {c : Int} (hc : c = (n : Int)) (hn : n ≤ 32) (h : E B H (K (u32 (a >>> n)))) : E B H (S.sh .shr (u32 a) (.int k c) K) := fun w hw => ⟨by omega, by
  have := h w hw
  subst hc
  show K (.int .u32 (Int.fdiv (a.toNat : Int) (2 ^ min (n : Int).toNat (IntKind.bits .u32)))) w
  have e : Int.fdiv (a.toNat : Int) (2 ^ min (n : Int).toNat (IntKind.bits .u32)) = (((a >>> n : Wd).toNat : Nat) : Int) := by
    have e2 : min (n : Int).toNat (IntKind.bits .u32) = n := by
      rw [Int.toNat_natCast]; exact Nat.min_eq_left hn
    rw [e2, Int.fdiv_eq_ediv_of_nonneg _ (Int.pow_nonneg (by decide))]
    simp [BitVec.toNat_ushiftRight, Nat.shiftRight_eq_div_pow]
  rw [e]; exact this⟩
theorem E_shl32n {a : Wd} {k : IntKind} (n : Nat) {c : Int} (hc : c = (n : Int)) (hn : n ≤ 32) (h : E B H (K (u32 (a <<< n)))) : E B H (S.sh .shl (u32 a) (.int k c) K) := fun w hw => ⟨by omega, by
  have := h w hw
  subst hc
  show K (.int .u32 (IntKind.wrap .u32 ((a.toNat : Int) * 2 ^ min (n : Int).toNat (IntKind.bits .u32)))) w
  have e : IntKind.wrap .u32 ((a.toNat : Int) * 2 ^ min (n : Int).toNat (IntKind.bits .u32)) = (((a <<< n : Wd).toNat : Nat) : Int) := by
    have e2 : min (n : Int).toNat (IntKind.bits .u32) = n := by
      rw [Int.toNat_natCast]; exact Nat.min_eq_left hn
    rw [e2]
    unfold IntKind.wrap
    simp [IntKind.signed, IntKind.bits, BitVec.toNat_shiftLeft, Nat.shiftLeft_eq]
  rw [e]; exact this⟩
theorem low5 : ∀ n : Fin 32, 1 ≤ n.val → IntKind.wrap .u64 (((BitVec.ofInt 64 (IntKind.wrap .u64 (-(n.val : Int))) &&& BitVec.ofInt 64 31).toNat : Nat) : Int) = 32 - (n.val : Int) := by decide +kernel
theorem wrapI_neg : ∀ n : Fin 32, IntKind.wrap .i64 (0 - (n.val : Int)) = -(n.val : Int) := by decide +kernel
theorem u64_32 : ∀ n : Fin 32, IntKind.wrap .u64 (32 - (32 - (n.val : Int))) = (n.val : Int) := by decide +kernel
theorem E_wdA {len sz b o n : Nat} {k : IntKind} (hn : n < len) (h : E B H (K (.pointer (some ⟨b, o + n * sz, none⟩)))) : E B H (S.ixA len sz (.pointer (some ⟨b, o, none⟩)) (.int k (n : Int)) K) := fun w hw => ⟨by omega, by omega, by
  have := h w hw
  rw [Int.toNat_natCast, add_at]; exact this⟩
theorem E_ldW {len b n : Nat} {κ : Bool} {T : TypeId} {l : List Wd} {k : IntKind} {x : Wd} {K : Value → Value → WT} [hf : HasC H b κ T (us l)] (hl : n < len) (hx : l[n]? = some x) (h : E B H (K (.pointer (some ⟨b, n, none⟩)) (u32 x))) :
    E B H (S.ixA len 1 (.pointer (some ⟨b, 0, none⟩)) (.int k (n : Int)) fun p => S.ld p fun v => K p v) := by
  refine E_wdA hl ?_
  have e : 0 + n * 1 = n := by omega
  rw [e]
  exact E_ld' (us_get hx) h
theorem E_stw {b n : Nat} {T : TypeId} {l : List Wd} {x : Wd} {H' : List Asrt} [hf : TakC H b T (us l) H'] (hl : n < l.length) (h : E B (cel true b T (us (l.set n x)) :: H') (K undef)) :
    E B H (S.st 1 (.pointer (some ⟨b, n, none⟩)) (u32 x) K) := by
  refine E_st' (by rw [us_len]; exact hl) ?_
  rw [us_set]; exact h
theorem E_rckW {b n : Nat} {κ : Bool} {T : TypeId} {l : List Wd} {fs : List WT} [hf : HasC H b κ T (us l)] (hl : l.length = n) (h : E B H (S.rck fs W)) :
    E B H (S.rck (S.ldN n (.pointer (some ⟨b, 0, none⟩)) (fun v' _ => v' = .agg (us l).toArray) :: fs) W) :=
  E_rck1 (E_ldN (hf := hf) (cs := us l) (by rw [List.drop_zero, List.take_of_length_le (by rw [us_len]; omega)]) (by rw [us_len]; exact hl) (E_fact rfl)) h
theorem E_rckw {b n : Nat} {κ : Bool} {T : TypeId} {l : List Wd} {x : Wd} {fs : List WT} [hf : HasC H b κ T (us l)] (hx : l[n]? = some x) (h : E B H (S.rck fs W)) :
    E B H (S.rck (S.ld (.pointer (some ⟨b, n, none⟩)) (fun v' _ => v' = u32 x) :: fs) W) := E_rck1 (E_ld' (us_get hx) (E_fact rfl)) h
theorem E_and64 {a b c : Int} (e : IntKind.wrap .u64 (((BitVec.ofInt 64 a &&& BitVec.ofInt 64 b).toNat : Nat) : Int) = c) (h : E B H (K (.int .u64 c))) : E B H (S.bin .and (.int .u64 a) (.int .u64 b) K) := fun w hw => ⟨rfl, by
  have := h w hw
  show K (.int .u64 (IntKind.wrap .u64 (((BitVec.ofInt 64 a &&& BitVec.ofInt 64 b).toNat : Nat) : Int))) w
  rw [e]; exact this⟩
theorem E_negI {a : Int} (h : E B H (K (.int .i64 (IntKind.wrap .i64 (0 - a))))) : E B H (S.neg1 (I a) K) := h
attribute [local irreducible] S.pick S.ld S.ldN S.st S.box S.nc S.fad S.ixS S.ixA S.chr S.prt S.ext S.bin S.sh S.sbin S.beq S.neg1 S.com1 S.not1 S.cvt S.str1 S.lenS S.len S.cap S.lenM S.mx S.mn S.mkM S.cond S.gd S.fa S.dr S.rck S.join S.loop S.cvv S.eqv S.slc S.slcS S.b2s S.lk V U CF Gives E cel mpb osl ros dct dit itr lpo dfo
theorem rotl {x : Wd} {n : Nat} (h1 : 1 ≤ n) (h2 : n < 32) (h : E B H (K (u32 (rr x n)))) : E B H (CF Tryz.prog 165 [u32 x, I (-(n : Int))] K) := by
  refine E_mono (W := s165 _ _ K) ?_ fun _ => c165
  unfold s165
  refine E_cvt ?_
  have e1 := low5 ⟨n, h2⟩ h1
  have e2 := u64_32 ⟨n, h2⟩
  simp only at e1 e2
  refine E_and64 (c := 32 - (n : Int)) e1 ?_
  refine E_shl32n (32 - n) (by omega) (by omega) ?_
  refine E_sub ?_
  rw [e2]
  refine E_shr32n n rfl (by omega) ?_
  refine E_or32 ?_
  unfold rr at h
  rw [BitVec.or_comm]; exact h
theorem turn {x : Wd} {n : Nat} (h1 : 1 ≤ n) (h2 : n < 32) (h : E B H (K (u32 (rr x n)))) : E B H (CF Tryz.prog 155 [u32 x, I (n : Int)] K) := by
  refine E_mono (W := s155 _ _ K) ?_ fun _ => c155
  unfold s155
  refine E_negI ?_
  have e := wrapI_neg ⟨n, h2⟩
  simp only at e
  rw [e]
  exact rotl h1 h2 h
theorem right {x : Wd} {n : Nat} (h2 : n < 32) (h : E B H (K (u32 (rr x n)))) : E B H (CF Tryz.prog 98 [u32 x, .int .u32 (n : Int)] K) := by
  refine E_mono (W := s98 _ _ K) ?_ fun _ => c98
  unfold s98
  refine E_shr32n n rfl (by omega) ?_
  refine E_sub ?_
  have e : IntKind.wrap .u32 (32 - (n : Int)) = ((32 - n : Nat) : Int) := by
    unfold IntKind.wrap
    simp [IntKind.signed, IntKind.bits]
    omega
  rw [e]
  refine E_shl32n (32 - n) rfl (by omega) ?_
  exact E_or32 h
end Go.Proofs.YtmbfmkiagdhcoaaGreat.Dig
end
section
namespace Go.Proofs.YtmbfmkiagdhcoaaGreat.Dig
open Go Go.SL Go.Proofs Go.Proofs.YtmbfmkiagdhcoaaGreat.Sh Go.Proofs.YtmbfmkiagdhcoaaGreat.Oct Go.Proofs.YtmbfmkiagdhcoaaGreat.Disk Go.Proofs.YtmbfmkiagdhcoaaGreat.Slot
variable {B : World} {H : List Asrt} {K : Value → WT} {W : WT}
abbrev z64 : List Wd := List.replicate 64 0#32
def half (p : List UInt8) (i : Nat) (x : Wd) : List Wd := w16 p i ++ (x :: List.replicate (63 - i) 0#32)
def done16 (p : List UInt8) (i : Nat) : List Wd := w16 p i ++ List.replicate (64 - i) 0#32
theorem done_half {p : List UInt8} {i : Nat} (h : i < 64) : done16 p i = half p i 0#32 := by
  unfold done16 half
  rw [show 64 - i = (63 - i) + 1 by omega, List.replicate_succ]
theorem half_done {p : List UInt8} {i : Nat} : half p i (wd p i) = done16 p (i + 1) := by
  unfold done16 half
  rw [w16_suc, List.append_assoc, show 64 - (i + 1) = 63 - i by omega]; rfl
theorem half_get {p : List UInt8} {i : Nat} {x : Wd} : (half p i x)[i]? = some x := by
  unfold half
  rw [List.getElem?_append_right (by rw [w16_len]; omega), w16_len, Nat.sub_self]; rfl
theorem half_set {p : List UInt8} {i : Nat} {x y : Wd} : (half p i x).set i y = half p i y := by
  unfold half
  rw [List.set_append_right _ _ (by rw [w16_len]; omega), w16_len, Nat.sub_self]; rfl
theorem half_len {p : List UInt8} {i : Nat} {x : Wd} (h : i < 64) : (half p i x).length = 64 := by simp [half, w16_len]; omega
def mre (p : List UInt8) (k : Nat) : List Wd := more k (w16 p 16) ++ List.replicate (48 - k) 0#32
theorem mre_zero (p : List UInt8) : done16 p 16 = mre p 0 := rfl
theorem mre_len {p : List UInt8} {k : Nat} (h : k ≤ 48) : (mre p k).length = 64 := by simp [mre, more_len, w16_len]; omega
theorem mre_end (p : List UInt8) : mre p 48 = sched p := by simp [mre, sched]
theorem mre_get {p : List UInt8} {k j : Nat} (hj : j < 16 + k) : (mre p k)[j]? = some ((more k (w16 p 16)).getD j 0#32) := by
  have hl : (more k (w16 p 16)).length = k + 16 := by rw [more_len, w16_len]
  unfold mre
  rw [List.getElem?_append_left (by omega), List.getD_eq_getElem?_getD, List.getElem?_eq_getElem (by omega)]; rfl
theorem mre_set {p : List UInt8} {k : Nat} (h : k < 48) : (mre p k).set (16 + k) (nxt (more k (w16 p 16))) = mre p (k + 1) := by
  have hl : (more k (w16 p 16)).length = k + 16 := by rw [more_len, w16_len]
  unfold mre
  rw [List.set_append_right _ _ (by omega), show 48 - k = (48 - (k + 1)) + 1 by omega, List.replicate_succ, show 16 + k - (more k (w16 p 16)).length = 0 by omega]
  simp only [List.set_cons_zero, more, List.append_assoc, List.singleton_append]
theorem nxt_at {l : List Wd} {k : Nat} (h : l.length = k + 16) : nxt l = l.getD k 0#32 + sg0 (l.getD (k + 1) 0#32) + l.getD (k + 9) 0#32 + sg1 (l.getD (k + 14) 0#32) := by
  unfold nxt
  rw [h, show k + 16 - 16 = k by omega, show k + 16 - 15 = k + 1 by omega, show k + 16 - 7 = k + 9 by omega, show k + 16 - 2 = k + 14 by omega]
theorem bndN {k : IntKind} {n d : Nat} {m : Int} (h : m = (n : Int)) : S.bound (some (.int k m)) d = some n := by subst h; simp [S.bound]
attribute [local irreducible] S.pick S.ld S.ldN S.st S.box S.nc S.fad S.ixS S.ixA S.chr S.prt S.ext S.bin S.sh S.sbin S.beq S.neg1 S.com1 S.not1 S.cvt S.str1 S.lenS S.len S.cap S.lenM S.mx S.mn S.mkM S.cond S.gd S.fa S.dr S.rck S.join S.loop S.cvv S.eqv S.slc S.slcS S.b2s S.lk V U CF Gives E cel mpb osl ros dct dit itr lpo dfo
theorem words {v : Value} {p : List UInt8} [hr : Rb B H v p] (hp : p.length = 64) (h : E B H (K (.agg (us (sched p)).toArray))) : E B H (CF Tryz.prog 153 [v] K) := by
  refine E_mono (W := s153 _ K) ?_ fun _ => c153
  unfold s153
  refine gA fun v2 => ?_
  refine gA fun v3 => ?_
  refine E_loop (n := 4) (σ := Nat) (fun i => i ≤ 16) (fun i => [v, ptr v2, ptr v3, I i]) (fun i => cel true v3 214 (us (done16 p i)) :: cel true v2 214 (us z64) :: H) (fun i => 16 - i) 0 (fun _ => rfl) rfl (Nat.zero_le _) (fun W hW => hW) ?_
  rintro i K0 hi hk
  refine E_fa fun _ => ?_
  refine E_lss ?_
  refine E_if (fun hc => ?_) (fun hc => ?_)
  · refine E_mulI (by omega) (by omega) ?_
    refine E_mulI (by omega) (by omega) ?_
    refine E_addI (by omega) (by omega) ?_
    refine E_slcB (v := v) (bs := p) (l := 4 * i) (hh := 4 * i + 4) (bndN (by omega)) (bndN (by omega)) (by omega) (by omega) fun u hu _ => ?_
    have e4 : 4 * i + 4 - 4 * i = 4 := by omega
    rw [e4] at hu
    have hul : ((p.drop (4 * i)).take 4).length = 4 := by simp; omega
    refine E_rslen (v := u) (l := (p.drop (4 * i)).take 4) ?_
    rw [done_half (by omega), hul]
    refine E_loop (n := 8) (σ := Nat) (fun j => j ≤ 4) (fun j => [v, ptr v2, ptr v3, I i, I i, u, I 4, I j]) (fun j => cel true v3 214 (us (half p i (((p.drop (4 * i)).take j).foldl push 0#32))) :: cel true v2 214 (us z64) :: H) (fun j => 4 - j) 0 (fun _ => rfl) rfl (Nat.zero_le _) (fun W hW => hW) ?_
    rintro j K1 hj hk1
    refine E_fa fun _ => ?_
    refine E_lss ?_
    refine E_if (fun hc1 => ?_) (fun hc1 => ?_)
    · have hx : ((p.drop (4 * i)).take 4)[j]? = some (p[4 * i + j]'(by omega)) := by
        rw [List.getElem?_take_of_lt (by omega), List.getElem?_drop, List.getElem?_eq_getElem (by omega)]
      have hx2 : (p.drop (4 * i))[j]? = some (p[4 * i + j]'(by omega)) := by rw [List.getElem?_drop, List.getElem?_eq_getElem (by omega)]
      generalize (p[4 * i + j]'(by omega)) = c at hx hx2
      have hk2 := hk1 (j + 1) (by omega) (by omega)
      rw [List.take_add_one, hx2, List.foldl_append] at hk2
      simp only [Option.toList_some, List.foldl_cons, List.foldl_nil] at hk2
      generalize ((p.drop (4 * i)).take j).foldl push 0#32 = x at hk2 ⊢
      refine E_rsix (v := u) hx fun _ _ => ?_
      refine E_ptld ?_
      refine E_ldW (l := half p i x) (by omega) half_get ?_
      refine E_shl32n 8 rfl (by omega) ?_
      refine E_cvt32 ?_
      refine E_or32 ?_
      refine E_wdA (by omega) ?_
      rw [show 0 + i * 1 = i by omega]
      refine E_stw (l := half p i x) (by rw [half_len (by omega)]; omega) ?_
      rw [half_set]
      refine E_addI (by omega) (by omega) ?_
      exact hk2
    · have : j = 4 := by omega
      subst this
      refine E_addI (by omega) (by omega) ?_
      have hk2 := hk (i + 1) (by omega) (by omega)
      rw [← half_done] at hk2
      exact hk2
  · have : i = 16 := by omega
    subst this
    rw [mre_zero]
    refine E_loop (n := 3) (σ := Nat) (fun k => k ≤ 48) (fun k => [ptr v2, ptr v3, I ((16 + k : Nat) : Int)]) (fun k => cel true v3 214 (us (mre p k)) :: cel true v2 214 (us z64) :: H) (fun k => 48 - k) 0 (fun _ => rfl) rfl (Nat.zero_le _) (fun W hW => hW) ?_
    rintro k K1 hk0 hk1
    refine E_fa fun _ => ?_
    refine E_lss ?_
    refine E_if (fun hc1 => ?_) (fun hc1 => ?_)
    · have hk2 := hk1 (k + 1) (by omega) (by omega)
      have hml : (more k (w16 p 16)).length = k + 16 := by rw [more_len, w16_len]
      rw [← mre_set (by omega), nxt_at hml] at hk2
      refine E_dr ?_
      refine E_subI (by omega) (by omega) ?_
      rw [show ((16 + k : Nat) : Int) - 15 = ((k + 1 : Nat) : Int) by omega]
      refine E_ldW (l := mre p k) (by omega) (mre_get (by omega)) ?_
      refine E_subI (by omega) (by omega) ?_
      rw [show ((16 + k : Nat) : Int) - 2 = ((k + 14 : Nat) : Int) by omega]
      refine E_ldW (l := mre p k) (by omega) (mre_get (by omega)) ?_
      refine E_dr ?_
      refine E_subI (by omega) (by omega) ?_
      rw [show ((16 + k : Nat) : Int) - 16 = ((k : Nat) : Int) by omega]
      refine E_ldW (l := mre p k) (by omega) (mre_get (by omega)) ?_
      refine E_shr32n 3 rfl (by omega) ?_
      refine E_subI (by omega) (by omega) ?_
      rw [show ((16 + k : Nat) : Int) - 7 = ((k + 9 : Nat) : Int) by omega]
      refine E_ldW (l := mre p k) (by omega) (mre_get (by omega)) ?_
      have g1 := mre_get (p := p) (k := k) (j := k + 9) (by omega)
      have g2 := mre_get (p := p) (k := k) (j := k) (by omega)
      have hlen := mre_len (p := p) (k := k) (by omega)
      generalize (more k (w16 p 16)).getD (k + 1) 0#32 = a at hk2 ⊢
      generalize (more k (w16 p 16)).getD (k + 14) 0#32 = b at hk2 ⊢
      generalize (more k (w16 p 16)).getD (k + 9) 0#32 = c at hk2 g1 ⊢
      generalize (more k (w16 p 16)).getD k 0#32 = d at hk2 g2 ⊢
      generalize mre p k = l at hk2 g1 g2 hlen ⊢
      refine E_shr32n 10 rfl (by omega) ?_
      refine turn (n := 7) (by omega) (by omega) ?_
      refine E_rckw g1 (E_rckw g2 (E_rck0 ?_))
      refine turn (n := 18) (by omega) (by omega) ?_
      refine E_rckw g1 (E_rckw g2 (E_rck0 ?_))
      refine E_xor32 ?_
      refine E_xor32 ?_
      refine E_add32 ?_
      refine E_add32 ?_
      refine turn (n := 17) (by omega) (by omega) ?_
      refine E_rckw g1 (E_rckw g2 (E_rck0 ?_))
      refine turn (n := 19) (by omega) (by omega) ?_
      refine E_rckw g1 (E_rckw g2 (E_rck0 ?_))
      refine E_xor32 ?_
      refine E_xor32 ?_
      refine E_add32 ?_
      refine E_wdA (by omega) ?_
      rw [show 0 + (16 + k) * 1 = 16 + k by omega]
      refine E_stw (l := l) (by omega) ?_
      refine E_addI (by omega) (by omega) ?_
      exact hk2
    · have : k = 48 := by omega
      subst this
      rw [mre_end]
      refine E_ldN (cs := us (sched p)) (by rw [List.drop_zero, List.take_of_length_le (by rw [us_len, sched_len]; omega)]) (by rw [us_len, sched_len]) ?_
      refine E_stW (by rw [us_len, sched_len]) (by rw [us_len]; rfl) ?_
      refine E_ldN (cs := us (sched p)) (by rw [List.drop_zero, List.take_of_length_le (by rw [us_len, sched_len]; omega)]) (by rw [us_len, sched_len]) ?_
      refine sm (G := H) h
end Go.Proofs.YtmbfmkiagdhcoaaGreat.Dig
end
section
namespace Go.Proofs.YtmbfmkiagdhcoaaGreat.Dig
open Go Go.SL Go.Proofs Go.Proofs.YtmbfmkiagdhcoaaGreat.Sh Go.Proofs.YtmbfmkiagdhcoaaGreat.Oct Go.Proofs.YtmbfmkiagdhcoaaGreat.Disk Go.Proofs.YtmbfmkiagdhcoaaGreat.Slot
variable {B : World} {H : List Asrt} {K : Value → WT} {W : WT}
abbrev z8 : List Value := [.int .u32 0, .int .u32 0, .int .u32 0, .int .u32 0, .int .u32 0, .int .u32 0, .int .u32 0, .int .u32 0]
theorem buildK (w : World) : (Instr.build 214 ((List.range 64).map fun i => (i, u32 (kk.getD i 0#32))).toArray).run Tryz.prog w = .ok (.agg (us kk).toArray) w := by kernel_rfl
theorem build8 (a b c d e f g h : Wd) (w : World) : (Instr.build 189 #[(0, u32 a), (1, u32 b), (2, u32 c), (3, u32 d), (4, u32 e), (5, u32 f), (6, u32 g), (7, u32 h)]).run Tryz.prog w = .ok (.agg #[u32 a, u32 b, u32 c, u32 d, u32 e, u32 f, u32 g, u32 h]) w := by kernel_rfl
theorem add_part (s v : S8) (i : Nat) (h : i < 8) : ((s.add v).l.take i ++ s.l.drop i).set i ((s.l.getD i 0#32) + (v.l.getD i 0#32)) = (s.add v).l.take (i + 1) ++ s.l.drop (i + 1) := by
  match i, h with
  | 0, _ => rfl
  | 1, _ => rfl
  | 2, _ => rfl
  | 3, _ => rfl
  | 4, _ => rfl
  | 5, _ => rfl
  | 6, _ => rfl
  | 7, _ => rfl
theorem part_get (s v : S8) (i : Nat) (h : i < 8) : ((s.add v).l.take i ++ s.l.drop i)[i]? = some (s.l.getD i 0#32) := by
  match i, h with
  | 0, _ => rfl
  | 1, _ => rfl
  | 2, _ => rfl
  | 3, _ => rfl
  | 4, _ => rfl
  | 5, _ => rfl
  | 6, _ => rfl
  | 7, _ => rfl
theorem l_get (v : S8) (i : Nat) (h : i < 8) : v.l[i]? = some (v.l.getD i 0#32) := by
  match i, h with
  | 0, _ => rfl
  | 1, _ => rfl
  | 2, _ => rfl
  | 3, _ => rfl
  | 4, _ => rfl
  | 5, _ => rfl
  | 6, _ => rfl
  | 7, _ => rfl
theorem part_len (s v : S8) (i : Nat) (h : i < 8) : ((s.add v).l.take i ++ s.l.drop i).length = 8 := by simp [S8.l]; omega
theorem E_Vr {P : Program} {s : Sem Value} {v : Value} (hr : ∀ w, s.run P w = .ok v w) (h : E B H (K v)) : E B H (V P s K) := E_Vok fun w hw => ⟨_, _, hr w, h w hw⟩
attribute [local irreducible] S.pick S.ld S.ldN S.st S.box S.nc S.fad S.ixS S.ixA S.chr S.prt S.ext S.bin S.sh S.sbin S.beq S.neg1 S.com1 S.not1 S.cvt S.str1 S.lenS S.len S.cap S.lenM S.mx S.mn S.mkM S.cond S.gd S.fa S.dr S.rck S.join S.loop S.cvv S.eqv S.slc S.slcS S.b2s S.lk V U CF Gives E cel mpb osl ros dct dit itr lpo dfo
theorem rounds (h : E B H (K (.agg (us kk).toArray))) : E B H (CF Tryz.prog 154 [] K) := by
  refine E_mono (W := s154 K) ?_ fun _ => c154
  unfold s154
  refine gA fun v0 => ?_
  refine E_Vr buildK ?_
  refine E_stW (b := v0) (vs := us kk) rfl rfl ?_
  refine E_ldN (cs := us kk) rfl rfl ?_
  refine sm (G := H) h
theorem begin_ (h : E B H (K (.agg (us s0.l).toArray))) : E B H (CF Tryz.prog 128 [] K) := by
  refine E_mono (W := s128 K) ?_ fun _ => c128
  unfold s128
  refine gA fun v0 => ?_
  refine E_Vr (build8 s0.a s0.b s0.c s0.d s0.e s0.f s0.g s0.h) ?_
  refine E_stW (b := v0) (vs := us s0.l) rfl rfl ?_
  refine E_ldN (cs := us s0.l) rfl rfl ?_
  refine sm (G := H) h
theorem E_ldW0 {len b : Nat} {κ : Bool} {T : TypeId} {l : List Wd} {k : IntKind} {x : Wd} {c : Int} (n : Nat) {K : Value → Value → WT} [hf : HasC H b κ T (us l)] (hc : c = (n : Int)) (hl : n < len) (hx : l[n]? = some x) (h : E B H (K (.pointer (some ⟨b, n, none⟩)) (u32 x))) :
    E B H (S.ixA len 1 (.pointer (some ⟨b, 0, none⟩)) (.int k c) fun p => S.ld p fun v => K p v) := by
  subst hc
  exact E_ldW hl hx h
theorem mixed {v : Value} {s : S8} {p : List UInt8} [hr : Rb B H v p] (hp : p.length = 64) (h : E B H (K (.agg (us (mix s p).l).toArray))) : E B H (CF Tryz.prog 129 [.agg (us s.l).toArray, v] K) := by
  have hs64 : (us (sched p)).length = 64 := by rw [us_len, sched_len]
  refine E_mono (W := s129 _ _ K) ?_ fun _ => c129
  unfold s129
  refine gA fun v2 => ?_
  refine gA fun v4 => ?_
  refine E_joinC (n := 5) (σ := Nat × Nat × Nat) (fun _ => True) (fun b => [ptr v2, ptr v4, ptr b.1, ptr b.2.1, ptr b.2.2])
    (fun b => cel true b.1 214 (us (sched p)) :: cel true b.2.1 214 (us kk) :: cel true b.2.2 189 (us s.l) :: cel true v2 189 (us s.l) :: cel true v4 189 z8 :: H) ?_ ?_
  · intro k hk
    have hW : ∀ {H' : List Asrt} {K' : Value → WT} [Rb B H' v p], E B H' (K' (.agg (us (sched p)).toArray)) → E B H' (CF Tryz.prog 153 [v] K') := words hp
    have hR : ∀ {H' : List Asrt} {K' : Value → WT}, E B H' (K' (.agg (us kk).toArray)) → E B H' (CF Tryz.prog 154 [] K') := rounds
    have hk64 : (us kk).length = 64 := by rw [us_len, kk_len]
    have hl8 : s.l.length = 8 := rfl
    have hu8 : (us s.l).length = 8 := rfl
    have hk : ∀ a b c : Nat, E B (cel true a 214 (us (sched p)) :: cel true b 214 (us kk) :: cel true c 189 (us s.l) :: cel true v2 189 (us s.l) :: cel true v4 189 z8 :: H) (k (ptr v2) (ptr v4) (ptr a) (ptr b) (ptr c)) := fun a b c => hk (a, b, c) trivial
    generalize sched p = ws at hW hk hs64
    generalize kk = ks at hR hk hk64
    generalize s.l = l8 at hk hl8 hu8 ⊢
    refine E_dr ?_
    refine E_ldN (cs := us l8) (by rw [List.drop_zero, List.take_of_length_le (by omega)]) hu8 ?_
    repeat' first
      | refine E_both ?_ ?_
      | refine E_rck0 ?_
      | refine E_rckW (l := l8) hl8 ?_
      | refine gA fun _ => ?_
      | refine hW ?_
      | refine hR ?_
      | refine E_stW (vs := us ws) hs64 (List.length_replicate ..) ?_
      | refine E_stW (vs := us ks) hk64 (List.length_replicate ..) ?_
      | refine E_stW (vs := us l8) hu8 rfl ?_
      | exact sm (hk _ _ _)
  rintro ⟨v5, v6, v7⟩ _
  simp only
  refine E_fa fun _ => ?_
  refine E_loop (n := 6) (σ := Nat) (fun t => t ≤ 64) (fun t => [ptr v2, ptr v4, ptr v5, ptr v6, ptr v7, I t])
    (fun t => cel true v7 189 (us (rds (sched p) t s).l) :: cel true v5 214 (us (sched p)) :: cel true v6 214 (us kk) :: cel true v2 189 (us s.l) :: cel true v4 189 z8 :: H) (fun t => 64 - t) 0 (fun _ => rfl) rfl (Nat.zero_le _) (fun W hW => sm (G := cel true v7 189 (us s.l) :: cel true v5 214 (us (sched p)) :: cel true v6 214 (us kk) :: cel true v2 189 (us s.l) :: cel true v4 189 z8 :: H) hW) ?_
  rintro t K0 ht hk
  refine E_fa fun _ => ?_
  refine E_lss ?_
  refine E_if (fun hc => ?_) (fun hc => ?_)
  · have hw : (sched p)[t]? = some ((sched p)[t]'(by rw [sched_len]; omega)) := List.getElem?_eq_getElem (by rw [sched_len]; omega)
    have hkk : kk[t]? = some (kk[t]'(by rw [kk_len]; omega)) := List.getElem?_eq_getElem (by rw [kk_len]; omega)
    generalize ((sched p)[t]'(by rw [sched_len]; omega)) = w at hw
    generalize (kk[t]'(by rw [kk_len]; omega)) = c at hkk
    have hk1 := hk (t + 1) (by omega) (by omega)
    rw [rds_suc hkk hw] at hk1
    generalize rds (sched p) t s = q at hk1 ⊢
    refine E_dr ?_
    refine E_ldW0 0 (l := q.l) rfl (by omega) rfl ?_
    refine E_ldW0 1 (l := q.l) rfl (by omega) rfl ?_
    refine E_ldW0 2 (l := q.l) rfl (by omega) rfl ?_
    refine E_ldW0 4 (l := q.l) rfl (by omega) rfl ?_
    refine E_ldW0 5 (l := q.l) rfl (by omega) rfl ?_
    refine E_ldW0 6 (l := q.l) rfl (by omega) rfl ?_
    refine E_dr ?_
    refine E_ldW0 7 (l := q.l) rfl (by omega) rfl ?_
    refine E_xor32 ?_
    refine E_and32 ?_
    refine E_xor32 ?_
    refine E_ldW (l := kk) (by omega) hkk ?_
    refine E_ldW (l := sched p) (by omega) hw ?_
    refine turn (n := 6) (by omega) (by omega) ?_
    refine E_rckw hw (E_rckw hkk (E_rckw (l := q.l) rfl (E_rck0 ?_)))
    refine turn (n := 11) (by omega) (by omega) ?_
    refine E_rckw hw (E_rckw hkk (E_rckw (l := q.l) rfl (E_rck0 ?_)))
    refine E_xor32 ?_
    refine turn (n := 25) (by omega) (by omega) ?_
    refine E_rckw hw (E_rckw hkk (E_rckw (l := q.l) rfl (E_rck0 ?_)))
    refine E_xor32 ?_
    refine E_add32 ?_
    refine E_add32 ?_
    refine E_add32 ?_
    refine E_add32 ?_
    refine turn (n := 2) (by omega) (by omega) ?_
    refine turn (n := 13) (by omega) (by omega) ?_
    refine E_xor32 ?_
    refine turn (n := 22) (by omega) (by omega) ?_
    refine E_xor32 ?_
    refine E_or32 ?_
    refine E_and32 ?_
    refine E_and32 ?_
    refine E_or32 ?_
    refine E_add32 ?_
    refine E_add32 ?_
    refine E_ldW0 3 (l := q.l) rfl (by omega) rfl ?_
    refine E_add32 ?_
    refine E_Vr (build8 _ _ _ _ _ _ _ _) ?_
    refine E_stW (vs := us (rnd q c w).l) rfl rfl ?_
    refine E_addI (by omega) (by omega) ?_
    exact hk1
  · have : t = 64 := by omega
    subst this
    refine E_loop (n := 4) (σ := Nat) (fun i => i ≤ 8) (fun i => [ptr v2, ptr v4, ptr v7, I i])
      (fun i => cel true v2 189 (us ((s.add (rds (sched p) 64 s)).l.take i ++ s.l.drop i)) :: cel true v7 189 (us (rds (sched p) 64 s).l) :: cel true v4 189 z8 :: H) (fun i => 8 - i) 0 (fun _ => rfl) rfl (Nat.zero_le _) (fun W hW => sm (G := cel true v2 189 (us s.l) :: cel true v7 189 (us (rds (sched p) 64 s).l) :: cel true v4 189 z8 :: H) hW) ?_
    rintro i K1 hi hk1
    refine E_fa fun _ => ?_
    refine E_lss ?_
    refine E_if (fun hc1 => ?_) (fun hc1 => ?_)
    · have hk2 := hk1 (i + 1) (by omega) (by omega)
      generalize rds (sched p) 64 s = q at hk2 ⊢
      rw [← add_part s q i (by omega)] at hk2
      have g1 := part_get s q i (by omega)
      have g2 := l_get q i (by omega)
      have hlen := part_len s q i (by omega)
      generalize (s.add q).l.take i ++ s.l.drop i = l at hk2 g1 hlen ⊢
      refine E_dr ?_
      refine E_ldW (l := l) (by omega) g1 ?_
      refine E_ldW (l := q.l) (by omega) g2 ?_
      refine E_add32 ?_
      refine E_wdA (by omega) ?_
      rw [show 0 + i * 1 = i by omega]
      refine E_stw (l := l) (by omega) ?_
      refine E_addI (by omega) (by omega) ?_
      exact hk2
    · have : i = 8 := by omega
      subst this
      have e : (s.add (rds (sched p) 64 s)).l.take 8 ++ s.l.drop 8 = (mix s p).l := rfl
      rw [e]
      refine E_ldN (cs := us (mix s p).l) rfl rfl ?_
      refine E_stW (vs := us (mix s p).l) rfl rfl ?_
      refine E_ldN (cs := us (mix s p).l) rfl rfl ?_
      refine sm (G := H) h
end Go.Proofs.YtmbfmkiagdhcoaaGreat.Dig
end
section
namespace Go.Proofs.YtmbfmkiagdhcoaaGreat.Dig
open Go Go.SL Go.Proofs Go.Proofs.YtmbfmkiagdhcoaaGreat.Sh Go.Proofs.YtmbfmkiagdhcoaaGreat.Oct Go.Proofs.YtmbfmkiagdhcoaaGreat.Disk Go.Proofs.YtmbfmkiagdhcoaaGreat.Slot
variable {B : World} {H : List Asrt} {K : Value → WT} {W : WT}
abbrev nil : Value := .slice none 0 0
abbrev hc (s : S8) (rv : Value) (n : Nat) : List Value := [u32 s.a, u32 s.b, u32 s.c, u32 s.d, u32 s.e, u32 s.f, u32 s.g, u32 s.h, rv, I n]
theorem buildHash (s : S8) (w : World) : (Instr.build 192 #[(0, .agg (us s.l).toArray)]).run Tryz.prog w = .ok (.agg (hc s nil 0).toArray) w := by kernel_rfl
theorem u_pHash : Tryz.prog.underlying 170 = some (.pointer 192) := by kernel_rfl
theorem u_bytesD : Tryz.prog.underlying 48 = some (.slice 5) := by kernel_rfl
theorem elt_byteD : Elt Tryz.prog 5 1 1 [.int .u8 0] := elt_of (zv := .int .u8 0) (by kernel_rfl) rfl rfl
theorem hc_set (s t : S8) (rv : Value) (n : Nat) : setAll (hc s rv n) 0 (us t.l) = hc t rv n := rfl
theorem cloneB {v : Value} {bs : List UInt8} [Rb B H v bs] (hn : bs.length ≤ 70368744177664) (h : ∀ v' [CellI v'], E B (sls cB 5 1 v' bs :: H) (K v')) : E B H (CF Tryz.prog 54 [v] K) :=
  clone (v := v) (bs := bs) hn fun v' _ => E_bytes (l := bs) (h v')
abbrev Cv := { v : Value // isCell v = true }
attribute [local irreducible] S.pick S.ld S.ldN S.st S.box S.nc S.fad S.ixS S.ixA S.chr S.prt S.ext S.bin S.sh S.sbin S.beq S.neg1 S.com1 S.not1 S.cvt S.str1 S.lenS S.len S.cap S.lenM S.mx S.mn S.mkM S.cond S.gd S.fa S.dr S.rck S.join S.loop S.cvv S.eqv S.slc S.slcS S.b2s S.lk V U CF Gives E cel mpb osl ros dct dit itr lpo dfo
theorem hnew (h : ∀ b, E B (cel true b 192 (hc s0 nil 0) :: H) (K (ptr b))) : E B H (CF Tryz.prog 100 [] K) := by
  refine E_mono (W := s100 K) ?_ fun _ => c100
  unfold s100
  refine begin_ ?_
  refine E_Vr (buildHash s0) ?_
  refine gA fun b => ?_
  exact h b
abbrev Part (B : World) (v u : Value) (p r : List UInt8) : Prop := ∀ H' [Rb B H' v p], Rb B H' u r
theorem Part.refl {v : Value} {p : List UInt8} : Part B v v p p := fun _ h => h
theorem Part.trans {v u x : Value} {p r q : List UInt8} (h1 : Part B v u p r) (h2 : Part B u x r q) : Part B v x p q := fun H' _ => by
  have := h1 H'
  exact h2 H'
theorem Part.take {v u : Value} {p r : List UInt8} (h1 : Part B v u p r) {j : Nat} : (∀ {W : WT} {H' : List Asrt} {K' : Value → WT} [Rb B H' v p], 64 ≤ r.length → (∀ x [Rb B H' x (r.take 64)] [CellI x], E B H' (K' x)) → E B H' (S.slc 1 u none (some (I 64)) none K')) := fun {W H' K'} _ hl hk => by
  have := h1 H'
  refine E_slcB (v := u) (bs := r) (l := 0) (hh := 64) (bndN rfl) rfl (by omega) hl fun x hx _ => ?_
  have := hx H'
  rw [List.drop_zero] at this
  exact hk x
theorem Part.drop {v u : Value} {p r : List UInt8} (h1 : Part B v u p r) : ∀ {H' : List Asrt} {K' : Value → WT} [Rb B H' v p], 64 ≤ r.length → (∀ x [CellI x], Part B v x p (r.drop 64) → E B H' (K' x)) → E B H' (S.slc 1 u (some (I 64)) none none K') := fun {H' K'} _ hl hk => by
  have := h1 H'
  refine E_slcB (v := u) (bs := r) (l := 64) (hh := r.length) rfl (bndN rfl) hl (Nat.le_refl _) fun x hx _ => ?_
  refine hk x (h1.trans fun H2 _ => ?_)
  have := hx H2
  rw [List.take_of_length_le (by rw [List.length_drop]; omega)] at this
  exact this
theorem hwrite {hp : Nat} {v : Value} {p : List UInt8} [hr : Rb B H v p] (hl : p.length ≤ 1000000000)
    (h : ∀ v' u [CellI u], Part B v' u p (rem p) → E B (cel true hp 192 (hc (hash s0 p) u p.length) :: sls cB 5 1 v' p :: H) (K (I 0))) :
    E B (cel true hp 192 (hc s0 nil 0) :: H) (CF Tryz.prog 101 [ptr hp, v] K) := by
  refine E_mono (W := s101 _ _ K) ?_ fun _ => c101
  unfold s101
  refine E_peq u_pHash ?_
  refine E_ff ?_
  refine E_nc ?_
  refine E_fad0 ?_
  refine E_ld ?_
  refine E_rslen (v := v) (l := p) ?_
  refine E_addI (by omega) (by omega) ?_
  refine E_nc ?_
  refine E_fad0 ?_
  refine E_st ?_
  rw [show ((0 : Nat) : Int) + (p.length : Int) = (p.length : Int) by omega]
  refine E_nc ?_
  refine E_fad0 ?_
  refine E_ld ?_
  have : Rb B (cel true hp 192 (hc s0 nil p.length) :: H) nil [] := ⟨fun _ => .inl ⟨rfl, rfl⟩⟩
  refine cloneB (v := nil) (bs := []) (by simp) fun v1 _ => ?_
  refine E_sapps (enc := cB) (u := v) (m := p) u_bytesD elt_byteD (by simp; omega) (by simp; omega) fun v2 _ => ?_
  rw [List.nil_append]
  refine E_loop (n := 2) (σ := S8 × List UInt8 × Cv) (fun s => hash s.1 s.2.1 = hash s0 p ∧ rem s.2.1 = rem p ∧ Part B v2 s.2.2.1 p s.2.1 ∧ s.2.1.length ≤ p.length) (fun s => [ptr hp, s.2.2.1])
    (fun s => sls cB 5 1 v2 p :: cel true hp 192 (hc s.1 nil p.length) :: H) (fun s => s.2.1.length) (s0, p, ⟨v2, CellI.pf⟩) (fun _ => rfl) rfl ⟨rfl, rfl, Part.refl, Nat.le_refl _⟩ (fun W hW => hW) ?_
  rintro ⟨s, q, u, hcu⟩ K0 ⟨h1, h2, h3, h4⟩ hk
  simp only at h1 h2 h3 h4 hk ⊢
  refine E_fa fun _ => ?_
  have hru := h3 (sls cB 5 1 v2 p :: cel true hp 192 (hc s nil p.length) :: H)
  refine E_rslen (v := u) (l := q) ?_
  refine E_geq ?_
  refine E_if (fun hc => ?_) (fun hc => ?_)
  · have hq : 64 ≤ q.length := by omega
    refine E_dr ?_
    refine E_nc ?_
    refine E_fad0 ?_
    refine E_ldN (cs := us s.l) rfl rfl ?_
    refine h3.take (W := fun _ => True) (j := 0) hq fun x _ _ => ?_
    refine mixed (v := x) (s := s) (p := q.take 64) (by rw [List.length_take]; omega) ?_
    refine E_nc ?_
    refine E_fad0 ?_
    refine E_stN (vs := us (mix s (q.take 64)).l) rfl (fun v hv => by obtain ⟨x, _, rfl⟩ := List.mem_map.1 hv; rfl) (by simp) (hc_set _ _ _ _) ?_
    refine h3.drop hq fun y hy hpy => ?_
    rw [hash_ge hq] at h1
    rw [rem_ge hq] at h2
    refine sm (hk (mix s (q.take 64), q.drop 64, ⟨y, hy.pf⟩) ⟨h1, h2, hpy, by simp only [List.length_drop]; omega⟩ (by simp only [List.length_drop]; omega))
  · have hq : ¬ 64 ≤ q.length := by omega
    rw [hash_lt hq] at h1
    rw [rem_lt hq] at h2
    subst h1
    rw [h2] at h3
    have : CellI u := ⟨hcu⟩
    refine E_nc ?_
    refine E_fad0 ?_
    refine E_st ?_
    exact sm (h v2 u h3)
end Go.Proofs.YtmbfmkiagdhcoaaGreat.Dig
end
section
namespace Go.Proofs.YtmbfmkiagdhcoaaGreat.Dig
open Go Go.SL Go.Proofs Go.Proofs.YtmbfmkiagdhcoaaGreat.Sh Go.Proofs.YtmbfmkiagdhcoaaGreat.Oct Go.Proofs.YtmbfmkiagdhcoaaGreat.Disk Go.Proofs.YtmbfmkiagdhcoaaGreat.Slot
variable {B : World} {H : List Asrt} {K : Value → WT} {W : WT}
theorem be4 (x : Wd) : be x.toNat 4 = [UInt8.ofNat (x >>> 24).toNat, UInt8.ofNat (x >>> 16).toNat, UInt8.ofNat (x >>> 8).toNat, UInt8.ofNat (x >>> 0).toNat] := by
  simp [be, BitVec.toNat_ushiftRight, Nat.shiftRight_eq_div_pow, Nat.div_div_eq_div_mul]
def byteAt (s : S8) (i : Nat) : UInt8 := UInt8.ofNat ((s.l.getD (i / 4) 0#32) >>> (24 - 8 * (i % 4))).toNat
theorem outB_eq (s : S8) : outB s = (List.range 32).map (byteAt s) := by
  unfold outB
  have e : (fun x : Wd => be x.toNat 4) = fun x : Wd => [UInt8.ofNat (x >>> 24).toNat, UInt8.ofNat (x >>> 16).toNat, UInt8.ofNat (x >>> 8).toNat, UInt8.ofNat (x >>> 0).toNat] := funext be4
  rw [e]
  rfl
def outP (s : S8) (i : Nat) : List UInt8 := (List.range i).map (byteAt s) ++ List.replicate (32 - i) 0
theorem outP_len {s : S8} {i : Nat} (h : i ≤ 32) : (outP s i).length = 32 := by simp [outP]; omega
theorem outP_set {s : S8} {i : Nat} (h : i < 32) : (outP s i).set i (byteAt s i) = outP s (i + 1) := by
  unfold outP
  rw [List.set_append_right _ _ (by simp), List.length_map, List.length_range, Nat.sub_self, show 32 - i = (32 - (i + 1)) + 1 by omega, List.replicate_succ, List.set_cons_zero, List.range_succ, List.map_append, List.append_assoc]; rfl
theorem outP_end (s : S8) : outP s 32 = outB s := by rw [outB_eq]; simp [outP]
theorem bcs_set (l : List UInt8) (i : Nat) (x : UInt8) : (bcs l).set i (.int .u8 x.toNat) = bcs (l.set i x) := by unfold bcs; rw [List.map_set]
theorem bcs_len (l : List UInt8) : (bcs l).length = l.length := List.length_map ..
theorem bcs_cell (l : List UInt8) : ∀ v ∈ bcs l, isCell v = true := fun v hv => by
  obtain ⟨x, _, rfl⟩ := List.mem_map.1 hv
  rfl
instance (l : List UInt8) : AllC (bcs l) := ⟨bcs_cell l⟩
abbrev zb : List Value := bcs (List.replicate 32 0)
def padZ (r : List UInt8) (j : Nat) : List UInt8 := r ++ [128] ++ List.replicate j 0
theorem padZ_suc (r : List UInt8) (j : Nat) : padZ r j ++ [0] = padZ r (j + 1) := by
  unfold padZ
  rw [List.append_assoc, ← List.replicate_succ']
theorem padZ_len (r : List UInt8) (j : Nat) : (padZ r j).length = r.length + 1 + j := by simp [padZ]; omega
theorem pad_tail (r : List UInt8) (n : Nat) : padZ r (zs n) ++ be (8 * n) 8 = r ++ tail n := by simp [padZ, tail]
theorem E_cells0 {b n m : Nat} {T : TypeId} {l : List UInt8} {κ : Bool} [hf : HasC H b κ T (bcs l)] (hl : l.length = m) (hn : n = m) (h : E B H (K (.agg (bcs l).toArray))) : E B H (S.ldN n (.pointer (some ⟨b, 0, none⟩)) K) :=
  E_ldN (hf := hf) (cs := bcs l) (by rw [List.drop_zero, List.take_of_length_le (by rw [bcs_len]; omega)]) (by rw [bcs_len]; omega) h
abbrev z32 : Value := .agg #[(.int .u8 0), (.int .u8 0), (.int .u8 0), (.int .u8 0), (.int .u8 0), (.int .u8 0), (.int .u8 0), (.int .u8 0), (.int .u8 0), (.int .u8 0), (.int .u8 0), (.int .u8 0), (.int .u8 0), (.int .u8 0), (.int .u8 0), (.int .u8 0), (.int .u8 0), (.int .u8 0), (.int .u8 0), (.int .u8 0), (.int .u8 0), (.int .u8 0), (.int .u8 0), (.int .u8 0), (.int .u8 0), (.int .u8 0), (.int .u8 0), (.int .u8 0), (.int .u8 0), (.int .u8 0), (.int .u8 0), (.int .u8 0)]
theorem E_box32 {T : TypeId} (h : ∀ b, E B (cel true b T zb :: H) (K (.pointer (some ⟨b, 0, none⟩)))) : E B H (S.box T z32 K) := E_box (v := z32) (vs := zb) (hv := ⟨rfl⟩) h
theorem E_rem0 {k : IntKind} {a b : Nat} {K : Value → WT} (hb : b ≠ 0) (h : E B H (K (.int k ((a % b : Nat) : Int)))) : E B H (S.bin .rem (.int k (a : Int)) (.int k (b : Int)) K) := E_rem (by omega) (by
  rw [Int.tmod_eq_emod_of_nonneg (by omega)]
  exact h)
attribute [local irreducible] S.pick S.ld S.ldN S.st S.box S.nc S.fad S.ixS S.ixA S.chr S.prt S.ext S.bin S.sh S.sbin S.beq S.neg1 S.com1 S.not1 S.cvt S.str1 S.lenS S.len S.cap S.lenM S.mx S.mn S.mkM S.cond S.gd S.fa S.dr S.rck S.join S.loop S.cvv S.eqv S.slc S.slcS S.b2s S.lk V U CF Gives E cel mpb osl ros dct dit itr lpo dfo
theorem hsum {hp : Nat} {s : S8} {u : Value} {r : List UInt8} {n : Nat} [hr : Rb B H u r] (hrn : r.length = n % 64) (hn : n ≤ 1000000000)
    (h : E B H (K (.agg (bcs (outB (hash s (r ++ tail n)))).toArray))) :
    E B (cel true hp 192 (hc s u n) :: H) (CF Tryz.prog 102 [ptr hp] K) := by
  refine E_mono (W := s102 _ K) ?_ fun _ => c102
  unfold s102
  refine E_box32 fun v2 => ?_
  refine E_box32 fun v3 => ?_
  refine E_peq u_pHash ?_
  refine E_ff ?_
  refine E_nc ?_
  refine E_fad0 ?_
  refine E_ld ?_
  have hr64 : r.length < 64 := by rw [hrn]; exact Nat.mod_lt _ (by decide)
  refine cloneB (v := u) (bs := r) (by omega) fun v1 _ => ?_
  refine E_sapp1 (enc := cB) (xv := .int .u8 128) 128 u_bytesD elt_byteD rfl (by omega) (by simp; omega) (by simp; omega) fun v4 _ => ?_
  refine E_loop (n := 4) (σ := Nat × Cv) (fun t => t.1 ≤ zs n) (fun t => [ptr hp, ptr v2, ptr v3, t.2.1])
    (fun t => sls cB 5 1 t.2.1 (padZ r t.1) :: cel true v3 107 zb :: cel true v2 107 zb :: cel true hp 192 (hc s u n) :: H) (fun t => zs n - t.1) (0, ⟨v4, CellI.pf⟩) (fun _ => rfl) rfl (Nat.zero_le _) (fun W hW => by
      have e : padZ r 0 = r ++ [128] := by simp [padZ]
      simp only [e] at hW
      exact hW) ?_
  rintro ⟨j, v5, hc5⟩ K0 hj hk
  simp only at hj hk ⊢
  have hzl := zs_lt n
  refine E_fa fun _ => ?_
  refine E_rslen (v := v5) (l := padZ r j) ?_
  rw [padZ_len]
  refine E_rem0 (b := 64) (by decide) ?_
  refine E_neq ?_
  have hmod : (r.length + 1 + j) % 64 = (n + 1 + j) % 64 := by rw [hrn]; omega
  refine E_if (fun hc => ?_) (fun hc => ?_)
  · have hjz : j < zs n := by
      rcases Nat.lt_or_ge j (zs n) with h' | h'
      · exact h'
      · have : j = zs n := by omega
        subst this
        have := zs_ok n
        omega
    refine E_sapp1 (enc := cB) (xv := .int .u8 0) 0 u_bytesD elt_byteD rfl (by omega) (by simp [padZ_len]; omega) (by simp [padZ_len]; omega) fun v6 i6 => ?_
    rw [padZ_suc]
    exact hk (j + 1, ⟨v6, i6.pf⟩) hjz (by simp only; omega)
  · have hjz : j = zs n := zs_end hj (by omega)
    subst hjz
    refine E_nc ?_
    refine E_fad0 ?_
    refine E_ld ?_
    refine E_mulI (by omega) (by omega) ?_
    rw [show (8 : Int) * (n : Int) = ((8 * n : Nat) : Int) by omega]
    refine fixed (n := 8 * n) (w := 8) (by omega) (by omega) (by omega) (by omega) fun v34 _ => ?_
    refine E_ext ?_
    refine E_ext ?_
    refine E_nc ?_
    refine E_fad0 ?_
    refine E_ldN (cs := us s.l) rfl rfl ?_
    refine gA fun v7 => ?_
    refine E_stW (vs := us s.l) rfl rfl ?_
    refine fd (a := sls cB 5 1 v5 (padZ r (zs n))) ?_
    have hb8 := be_length (8 * n) 8
    refine E_sapps (enc := cB) (u := v34) (m := be (8 * n) 8) u_bytesD elt_byteD (by rw [padZ_len, hb8]; omega) (by rw [padZ_len, hb8]; omega) fun v8 _ => ?_
    rw [pad_tail]
    have htl : (r ++ tail n).length % 64 = 0 := by
      rw [← pad_tail, List.length_append, padZ_len, hb8]
      have := zs_ok n
      omega
    refine E_loop (n := 4) (σ := S8 × List UInt8 × Cv) (fun t => hash t.1 t.2.1 = hash s (r ++ tail n) ∧ t.2.1.length % 64 = 0 ∧ Part B v8 t.2.2.1 (r ++ tail n) t.2.1 ∧ t.2.1.length ≤ (r ++ tail n).length) (fun t => [ptr v2, ptr v3, ptr v7, t.2.2.1])
      (fun t => sls cB 5 1 v8 (r ++ tail n) :: cel true v7 189 (us t.1.l) :: cel true v3 107 zb :: cel true v2 107 zb :: H) (fun t => t.2.1.length) (s, r ++ tail n, ⟨v8, CellI.pf⟩) (fun _ => rfl) rfl ⟨rfl, htl, Part.refl, Nat.le_refl _⟩ (fun W hW => sm hW) ?_
    rintro ⟨t, q, x, hcx⟩ K1 ⟨h1, h2, h3, h4⟩ hk1
    simp only at h1 h2 h3 h4 hk1 ⊢
    refine E_fa fun _ => ?_
    have hrx := h3 (sls cB 5 1 v8 (r ++ tail n) :: cel true v7 189 (us t.l) :: cel true v3 107 zb :: cel true v2 107 zb :: H)
    refine E_rslen (v := x) (l := q) ?_
    refine E_gtr ?_
    refine E_if (fun hc1 => ?_) (fun hc1 => ?_)
    · have hq : 64 ≤ q.length := by omega
      refine E_dr ?_
      refine E_ldN (cs := us t.l) rfl rfl ?_
      refine h3.take (W := fun _ => True) (j := 0) hq fun y _ _ => ?_
      refine mixed (v := y) (s := t) (p := q.take 64) (by rw [List.length_take]; omega) ?_
      refine E_stW (vs := us (mix t (q.take 64)).l) rfl rfl ?_
      refine h3.drop hq fun y hy hpy => ?_
      rw [hash_ge hq] at h1
      refine sm (hk1 (mix t (q.take 64), q.drop 64, ⟨y, hy.pf⟩) ⟨h1, by simp only [List.length_drop]; omega, hpy, by simp only [List.length_drop]; omega⟩ (by simp only [List.length_drop]; omega))
    · have hq : ¬ 64 ≤ q.length := by omega
      rw [hash_lt hq] at h1
      subst h1
      generalize hash s (r ++ tail n) = g at h ⊢
      refine E_loop (n := 4) (σ := Nat) (fun i => i ≤ 32) (fun i => [ptr v2, ptr v3, ptr v7, I i])
        (fun i => cel true v3 107 (bcs (outP g i)) :: cel true v7 189 (us g.l) :: cel true v2 107 zb :: H) (fun i => 32 - i) 0 (fun _ => rfl) rfl (Nat.zero_le _) (fun W hW => sm (G := cel true v3 107 zb :: cel true v7 189 (us g.l) :: cel true v2 107 zb :: H) hW) ?_
      rintro i K2 hi hk2
      refine E_fa fun _ => ?_
      refine E_lss ?_
      refine E_if (fun hc2 => ?_) (fun hc2 => ?_)
      · have hk3 := hk2 (i + 1) (by omega) (by omega)
        rw [← outP_set (by omega), ← bcs_set] at hk3
        have hlen := outP_len (s := g) (i := i) (by omega)
        refine E_quo (by decide) ?_
        rw [show IntKind.wrap .i64 ((i : Int).tdiv 4) = ((i / 4 : Nat) : Int) by rw [Int.tdiv_eq_ediv_of_nonneg (by omega), wrapI (by omega) (by omega)]; omega]
        refine E_ldW (l := g.l) (by omega) (l_get g (i / 4) (by omega)) ?_
        refine E_rem0 (b := 4) (by decide) ?_
        refine E_mulI (by omega) (by omega) ?_
        refine E_subI (by omega) (by omega) ?_
        refine E_shr32n (24 - 8 * (i % 4)) (by omega) (by omega) ?_
        refine E_cvt8 (by omega) ?_
        rw [Int.toNat_natCast]
        refine E_wdA (by omega) ?_
        rw [show 0 + i * 1 = i by omega]
        refine E_st' (by rw [bcs_len]; omega) ?_
        refine E_addI (by omega) (by omega) ?_
        exact hk3
      · have : i = 32 := by omega
        subst this
        rw [outP_end]
        have hol : (outB g).length = 32 := by rw [← outP_end, outP_len (Nat.le_refl _)]
        refine E_cells0 hol rfl ?_
        refine E_stW (vs := bcs (outB g)) (by rw [bcs_len, hol]) rfl ?_
        refine E_cells0 hol rfl ?_
        refine sm (G := H) h
theorem dsum {v : Value} {p : List UInt8} [hr : Rb B H v p] (hl : p.length ≤ 1000000000) (h : E B H (K (.agg (bcs (sum p)).toArray))) : E B H (CF Tryz.prog 60 [v] K) := by
  refine E_mono (W := s60 _ K) ?_ fun _ => c60
  unfold s60
  refine E_box32 fun v2 => ?_
  refine hnew fun hp => ?_
  refine hwrite (v := v) (p := p) hl fun v' u _ hu => ?_
  have := hu (sls cB 5 1 v' p :: cel true v2 107 zb :: H)
  refine hsum (s := hash s0 p) (u := u) (r := rem p) (n := p.length) (rem_len p) hl ?_
  rw [← sumS_rem]
  have hol : (outB (sumS p)).length = 32 := sum_len p
  refine E_stW (vs := bcs (outB (sumS p))) (by rw [bcs_len, hol]) rfl ?_
  refine E_cells0 hol rfl ?_
  exact sm (G := H) h
end Go.Proofs.YtmbfmkiagdhcoaaGreat.Dig
end
section
namespace Go.Proofs.YtmbfmkiagdhcoaaGreat.Dig
open Go Go.SL Go.Proofs Go.Proofs.YtmbfmkiagdhcoaaGreat.Sh Go.Proofs.YtmbfmkiagdhcoaaGreat.Oct Go.Proofs.YtmbfmkiagdhcoaaGreat.Disk Go.Proofs.YtmbfmkiagdhcoaaGreat.Slot
variable {B : World} {H : List Asrt} {K : Value → WT} {W : WT}
theorem E_bslK {P : Program} {t T : TypeId} {n sz by_ : Nat} {z l : List Value} {ps : List (Nat × Value)} (hu : P.underlying t = some (.slice T)) (he : Elt P T sz by_ z)
    (hs0 : 0 < n * sz ∧ n * sz ≤ 1000) (hfl : Instr.fill (fun i => some (i * sz, sz)) (rep n z).toArray ps = some l.toArray)
    (h : ∀ b, E B (cel true b T l :: H) (K (.slice (some ⟨b, 0, none⟩) n n))) : E B H (V P (Instr.buildSlice t n ps.toArray) K) := by
  obtain ⟨i, zv, hi, hs, hb, hz, hzl, hzn⟩ := he.pf
  refine E_Vok fun w hw => ⟨_, _, ?_, h _ _ (sat_cel_new hw T l (0, 0) (by simp))⟩
  unfold Instr.buildSlice
  simp only [run_bind, run_underlying' hu, run_size' hi, hs]
  have e24 : (2 : Nat) ^ 24 = 16777216 := by decide
  rw [if_neg (by rw [e24]; omega), if_neg (by omega)]
  simp only [run_bind, run_pure, zero_run hi hz]
  have hsz : zv.cells.size = sz := by rw [← Array.length_toList, hzl, hzn]
  have hc : (Array.range (n * sz)).map (fun i => zv.cells[i % zv.cells.size]!) = (rep n z).toArray := by
    have := zero_cells zv.cells n (.inl (by rw [hsz]; intro h; rw [h] at hs0; simp at hs0))
    rw [hsz, hzl] at this
    rw [hsz]; exact this
  rw [hc]
  simp only [hfl, newRow, newObj, run_bind, Sem.run, run_pure]
attribute [local irreducible] S.pick S.ld S.ldN S.st S.box S.nc S.fad S.ixS S.ixA S.chr S.prt S.ext S.bin S.sh S.sbin S.beq S.neg1 S.com1 S.not1 S.cvt S.str1 S.lenS S.len S.cap S.lenM S.mx S.mn S.mkM S.cond S.gd S.fa S.dr S.rck S.join S.loop S.cvv S.eqv S.slc S.slcS S.b2s S.lk V U CF Gives E cel mpb osl ros dct dit itr lpo dfo
end Go.Proofs.YtmbfmkiagdhcoaaGreat.Dig
end
