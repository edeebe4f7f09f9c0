/-
  Part 7: CdG.
-/
import Derived.Lib.UnsafeStr
import Derived.Lib.Builder
import Derived.Laws.Externs
import Derived.Test.YtblgkgobakhigaaPkCodeBackf
set_option linter.unusedSimpArgs false
set_option linter.unusedVariables false
set_option linter.unusedSectionVars false
section
namespace Go.Proofs.Ytblgkgobakhigaa.Cod
open Go Go.SL Go.SL.Stb Go.Proofs Go.Proofs.Ytblgkgobakhigaa.Sh Go.RowKit
variable {B : World} {H : List Asrt} {K : Value → WT} {W : WT}
theorem u_bytes : Try.prog.underlying 31 = some (.slice 5) := by kernel_rfl
theorem u_byte : Try.prog.underlying 5 = some (.int .u8) := by kernel_rfl
theorem elt_byte : Elt Try.prog 5 1 1 [.int .u8 0] := elt_of (zv := .int .u8 0) (by kernel_rfl) rfl rfl
theorem u_builder : Try.prog.underlying 92 = some (.pointer 94) := by kernel_rfl
theorem u_unsafe : Try.prog.underlying 129 = some .unsafePointer := by kernel_rfl
theorem u_pbyte : Try.prog.underlying 119 = some (.pointer 5) := by kernel_rfl
theorem size_builder : (Try.prog.info? 94).map (fun j => j.size) = some 2 := by kernel_rfl
theorem lies_builder : liesAt Try.prog Try.prog.depth 94 (2 / Try.prog.cellsOf 94) 0 94 1 = true := by kernel_rfl
theorem cells_byte : Try.prog.cellsOf 5 = 1 := by kernel_rfl
theorem cel_freeze {b n : Nat} {T : TypeId} {l : List Value} {w : World} (h : sat B (cel true b T l :: H) w) : sat B H (w.freeze ⟨b, 0, none⟩ n) := by
  obtain ⟨hb, ch, ⟨l1, l2, e, ⟨fr, hfr, rfl⟩, h2⟩, hc⟩ := h
  have hs : sat B (pt true b (.cells l.toArray T fr) :: H) w := ⟨hb, ch, ⟨_, l2, e, rfl, h2⟩, hc⟩
  have hh := hs.get
  by_cases hn : n = 0
  · subst hn
    unfold World.freeze
    rw [if_pos rfl]
    exact hs.tail
  have hw : w.freeze ⟨b, 0, none⟩ n = { w with heap := w.heap.setIfInBounds b (.cells l.toArray T (if fr.1 == fr.2 then (0, 0 + n) else (min fr.1 0, max fr.2 (0 + n)))) } := by
    unfold World.freeze
    rw [if_neg hn]
    congr 1
    apply Array.ext_getElem?
    intro i
    simp only [Array.getElem?_modify, Array.getElem?_setIfInBounds]
    by_cases hi : b = i
    · subst hi
      have hlt : b < w.heap.size := (Array.getElem?_eq_some_iff.1 hh).1
      simp only [if_true, hh, hlt, Option.map_some]
    · simp [hi]
  rw [hw]
  exact (hs.put _).tail
theorem cel_shape {b : Nat} {T : TypeId} {l : List Value} {w : World} (h : sat B (cel true b T l :: H) w) : w.shape? b = some (T, l.length) := by
  obtain ⟨hb, ch, ⟨l1, l2, e, ⟨fr, hfr, rfl⟩, h2⟩, hc⟩ := h
  have hs : sat B (pt true b (.cells l.toArray T fr) :: H) w := ⟨hb, ch, ⟨_, l2, e, rfl, h2⟩, hc⟩
  have hh := hs.get
  unfold World.shape?
  rw [hh]; simp
theorem E_ustr {v : Value} {bs : List UInt8} {fs : List WT} (h0 : bs ≠ []) (hn : bs.length ≤ 9223372036854775807)
    (hf : ∀ W, E B (sls cB 5 1 v bs :: H) W → E B (sls cB 5 1 v bs :: H) (S.rck fs W)) (h : E B H (K (str bs))) :
    E B (sls cB 5 1 v bs :: H) (V Try.prog (Builtin.unsafeSliceData_ #[31] 119 #[v]) fun p => S.rck fs <| V Try.prog (Builtin.unsafeString_ #[119, 3] 9 #[p, I bs.length]) K) := by
  have hpos := List.length_pos_iff.2 h0
  have key : ∀ W : Value → WT, (∀ p, v = p → True) → True := fun _ _ => trivial
  intro w hw
  have hw2 : sat B (osl 5 1 v bs.length (bs.flatMap cB) :: H) w := hw
  rcases sat_osl hw2 with ⟨_, hl0, _⟩ | ⟨g, cap, hv, hle, hxl, hcells⟩
  · omega
  · subst hv
    unfold V
    rw [Lib.run_unsafeSliceData_row _ _ _ _ _ _ (by omega)]
    refine hf _ (fun w2 hw3 => ?_) w hw
    have hw4 : sat B (osl 5 1 (.slice (some ⟨g, 0, none⟩) bs.length cap) bs.length (bs.flatMap cB) :: H) w2 := hw3
    obtain ⟨hB, ch, ⟨c1, c2, hch, hosl, hst⟩, hcc⟩ := hw4
    rcases hosl with ⟨h1, _⟩ | ⟨b', cap', spare, h1, h2, h3, h4, hcel⟩
    · cases h1
    · cases h1
      have hsat : sat B (cel true g 5 (bs.flatMap cB ++ spare) :: H) w2 := ⟨hB, ch, ⟨c1, c2, hch, hcel, hst⟩, hcc⟩
      have hsh := cel_shape hsat
      have hlen : (bs.flatMap cB ++ spare).length = cap := by
        rw [List.length_append, h3, h4]; omega
      rw [hlen] at hsh
      show V Try.prog (Builtin.unsafeString_ #[119, 3] 9 #[.pointer (some ⟨g, 0, none⟩), I bs.length]) K w2
      unfold V
      rw [Lib.run_unsafeString_row w2 119 3 9 5 u_pbyte cells_byte g cap hsh bs h0 h2 hn (fun j x hx => by
        rw [add_at, sat_cell (hf := hasC_here) hsat, Nat.zero_add, List.getElem?_append_left (by rw [h3]; have := (List.getElem?_eq_some_iff.1 hx).1; omega)]
        have := bcs_enc bs
        rw [this]
        unfold bcs
        rw [List.getElem?_map, hx]; rfl)]
      exact h _ (cel_freeze hsat)
theorem and_of {a r : Int} (e : IntKind.wrap .u64 (((BitVec.ofInt 64 a &&& BitVec.ofInt 64 1).toNat : Nat) : Int) = r) (h : E B H (K (.int .u64 r))) : E B H (S.bin .and (.int .u64 a) (.int .u64 1) K) := fun w hw => ⟨rfl, by
  have := h w hw
  rw [← e] at this
  exact this⟩
set_option maxRecDepth 100000
theorem noEscape {v : Value} (h : E B H (K v)) : E B H (Gives Try.prog (callFunc 72 #[v]) K) := fun w hw => by
  unfold Gives
  rw [run_callFunc_extern Try.func72 (by kernel_rfl) (by kernel_rfl) (by kernel_rfl) (e := Extern.AbiNoEscape.same) (by kernel_rfl)]
  exact h w hw
theorem E_toUnsafe {b : Nat} {l : List Value} (hl : l.length = 2) (h : E B (cel true b 94 l :: H) (K (ptr b))) : E B (cel true b 94 l :: H) (V Try.prog (convert 92 129 (ptr b)) K) := by
  obtain ⟨j, hj, hjs⟩ := Option.map_eq_some_iff.1 size_builder
  exact E_Vok fun w hw => ⟨_, w, Lib.run_to_unsafe w ⟨b, 0, none⟩ u_builder u_unsafe hj (by rw [hjs]; decide) (cel_shape hw) (by rw [hl]; exact Nat.zero_lt_succ 1), h w hw⟩
theorem E_fromUnsafe {b : Nat} {l : List Value} (hl : l.length = 2) (h : E B (cel true b 94 l :: H) (K (ptr b))) : E B (cel true b 94 l :: H) (V Try.prog (convert 129 92 (ptr b)) K) := by
  obtain ⟨j, hj, hjs⟩ := Option.map_eq_some_iff.1 size_builder
  exact E_Vok fun w hw => ⟨_, w, Lib.run_from_unsafe w ⟨b, 0, none⟩ u_unsafe u_builder hj (cel_shape hw) (by rw [hl]; exact lies_builder), h w hw⟩
theorem E_pneS {t el : TypeId} {c : Bool} {a : Addr} {j : TypeInfo} (hu : Try.prog.underlying t = some (.pointer el)) (hj : Try.prog.info? el = some j) (hk : E B H (K (.bool false))) : E B H (S.eqv Try.prog .neq t c (.pointer (some a)) (.pointer (some a)) K) :=
  E_eqS (fun w => by
    unfold S.eqS
    rw [run_bind]
    have : (eqGuard .neq t (S.cOp c) (.tmp 0) (.pointer (some a)) (.pointer (some a))).run Try.prog w = .ok () w := by rfl
    rw [this]
    exact Lib.run_neq_ptr_same w a hu hj) hk
attribute [local irreducible] S.pick S.ld S.ldN S.st S.box S.nc S.fad S.ixS S.ixA S.chr S.prt S.ext S.bin S.sh S.sbin S.beq S.neg1 S.com1 S.not1 S.cvt S.str1 S.lenS S.len S.cap S.lenM S.mx S.mn S.mkM S.cond S.gd S.fa S.dr S.rck S.join S.loop S.cvv S.eqv S.slc S.slcS S.b2s S.lk V U CF Gives E cel mpb osl ros dct dit itr
theorem copyCheck {b : Nat} {a sv : Value} [CellI sv] (ha : a = .pointer none ∨ a = ptr b) (h : E B (cel true b 94 [ptr b, sv] :: H) (K (.tuple #[]))) : E B (cel true b 94 [a, sv] :: H) (CF Try.prog 62 [ptr b] K) := by
  obtain ⟨j, hj, hjs⟩ := Option.map_eq_some_iff.1 size_builder
  refine E_mono (W := s62 _ K) ?_ fun _ => c62
  unfold s62
  rcases ha with rfl | rfl
  · (repeat first | refine gS ?_ | refine gA fun _ => ?_ | refine gX fun _ _ => ?_ | refine gT ?_ | refine gF ?_ | refine gI ?_)
    refine E_peq0 u_builder ?_
    refine E_tt ?_
    refine E_toUnsafe rfl ?_
    refine noEscape ?_
    refine E_fromUnsafe rfl ?_
    (repeat first | refine gS ?_ | refine gA fun _ => ?_ | refine gX fun _ _ => ?_ | refine gT ?_ | refine gF ?_ | refine gI ?_)
    exact h
  · (repeat first | refine gS ?_ | refine gA fun _ => ?_ | refine gX fun _ _ => ?_ | refine gT ?_ | refine gF ?_ | refine gI ?_)
    refine E_peq u_builder ?_
    refine E_ff ?_
    (repeat first | refine gS ?_ | refine gA fun _ => ?_ | refine gX fun _ _ => ?_ | refine gT ?_ | refine gF ?_ | refine gI ?_)
    refine E_pneS u_builder hj ?_
    (repeat first | refine gS ?_ | refine gA fun _ => ?_ | refine gX fun _ _ => ?_ | refine gT ?_ | refine gF ?_ | refine gI ?_)
    exact h
def bld (b : Nat) (bs : List UInt8) : Asrt := ex fun p : Cv × Bool => all [cel true b 94 [if p.2 then ptr b else .pointer none, p.1.1], sls cB 5 1 p.1.1 bs]
theorem E_bld {b : Nat} {bs : List UInt8} (h : ∀ a sv [CellI sv], (a = .pointer none ∨ a = ptr b) → E B (cel true b 94 [a, sv] :: sls cB 5 1 sv bs :: H) W) : E B (bld b bs :: H) W := by
  refine E_ex fun p => E_all ?_
  have : CellI p.1.1 := ⟨p.1.2⟩
  refine h _ p.1.1 ?_
  cases p.2
  · exact .inl rfl
  · exact .inr rfl
theorem E_bldS {b : Nat} {bs : List UInt8} {a sv : Value} [hc : CellI sv] (ha : a = .pointer none ∨ a = ptr b) (h : E B (bld b bs :: H) W) : E B (cel true b 94 [a, sv] :: sls cB 5 1 sv bs :: H) W := by
  rcases ha with rfl | rfl
  · have h' := E_all' (E_ex' (f := fun p : Cv × Bool => all [cel true b 94 [if p.2 then ptr b else .pointer none, p.1.1], sls cB 5 1 p.1.1 bs]) (⟨sv, hc.pf⟩, false) h)
    exact E_same (by repeat (first | exact Same.refl | (refine Same.cons (by repeat (first | exact Find.here | apply Find.there)) ?_) | (refine Same.drop ?_))) h'
  · have h' := E_all' (E_ex' (f := fun p : Cv × Bool => all [cel true b 94 [if p.2 then ptr b else .pointer none, p.1.1], sls cB 5 1 p.1.1 bs]) (⟨sv, hc.pf⟩, true) h)
    exact E_same (by repeat (first | exact Same.refl | (refine Same.cons (by repeat (first | exact Find.here | apply Find.there)) ?_) | (refine Same.drop ?_))) h'
attribute [local irreducible] bld
theorem writeByte {b : Nat} {bs : List UInt8} {c : UInt8} (hn : bs.length ≤ 1000000) (h : E B (bld b (bs ++ [c]) :: H) (K .nilIface)) : E B (bld b bs :: H) (CF Try.prog 46 [ptr b, .int .u8 (c.toNat : Int)] K) := by
  refine E_bld fun a sv _ ha => ?_
  refine E_mono (W := s46 _ _ K) ?_ fun _ => c46
  unfold s46
  refine copyCheck ha ?_
  (repeat first | refine gS ?_ | refine gA fun _ => ?_ | refine gX fun _ _ => ?_ | refine gT ?_ | refine gF ?_ | refine gI ?_)
  refine fd (a := sls cB 5 1 sv bs) ?_
  refine E_sapp1 (enc := cB) c u_bytes elt_byte rfl (by decide) (by omega) (by omega) fun sv' _ => ?_
  (repeat first | refine gS ?_ | refine gA fun _ => ?_ | refine gX fun _ _ => ?_ | refine gT ?_ | refine gF ?_ | refine gI ?_)
  refine sm (G := cel true b 94 [ptr b, sv'] :: sls cB 5 1 sv' (bs ++ [c]) :: H) ?_
  exact E_bldS (.inr rfl) h
theorem buildString {b : Nat} {bs : List UInt8} (h0 : bs ≠ []) (hn : bs.length ≤ 1000000) (h : E B H (K (str bs))) : E B (bld b bs :: H) (CF Try.prog 47 [ptr b] K) := by
  refine E_bld fun a sv _ ha => ?_
  refine E_mono (W := s47 _ K) ?_ fun _ => c47
  unfold s47
  have hca : CellI a := ⟨by rcases ha with rfl | rfl <;> rfl⟩
  (repeat first | refine gS ?_ | refine gA fun _ => ?_ | refine gX fun _ _ => ?_ | refine gT ?_ | refine gF ?_ | refine gI ?_)
  refine fd (a := sls cB 5 1 sv bs) ?_
  refine E_ustr h0 (by omega) (fun W hW => ?_) ?_
  · (repeat (refine E_rck1 (by first | exact E_ld (E_fact rfl) | exact E_ld' (by assumption) (E_fact rfl) | exact E_b2sR (E_fact rfl) | exact E_gdnF (by assumption) (E_ld (E_fact rfl)) | exact E_gdT (by assumption) (E_ld (E_fact rfl)) | exact E_gtf (E_ld (E_fact rfl)) | exact E_gft (E_ld (E_fact rfl)) | exact E_ldNA (E_fact rfl) | exact E_ptld (E_fact rfl) | exact E_gtf (E_ldNA (E_fact rfl))) ?_)); (first | (refine E_rck0 ?_) | skip)
    exact hW
  · exact E_drop h
def bitsN (n : Nat) : Nat → List UInt8
  | 0 => []
  | k + 1 => bitsN (n / 2) k ++ [UInt8.ofNat (48 + n % 2)]
theorem bitsN_len (n : Nat) : ∀ k, (bitsN n k).length = k
  | 0 => rfl
  | k + 1 => by unfold bitsN; rw [List.length_append, bitsN_len (n / 2) k]; rfl
theorem E_and1 {a : Nat} (ha : a < 18446744073709551616) (h : E B H (K (.int .u64 ((a % 2 : Nat) : Int)))) : E B H (S.bin .and (.int .u64 (a : Int)) (.int .u64 1) K) := by
  have e : IntKind.wrap .u64 (((BitVec.ofInt 64 (a : Int) &&& BitVec.ofInt 64 1).toNat : Nat) : Int) = ((a % 2 : Nat) : Int) := by
    have e1 : (BitVec.ofInt 64 (a : Int) &&& BitVec.ofInt 64 1).toNat = a % 2 := by
      have : BitVec.ofInt 64 (a : Int) = BitVec.ofNat 64 a := BitVec.ofInt_natCast ..
      rw [this]
      rw [BitVec.toNat_and, BitVec.toNat_ofNat, Nat.mod_eq_of_lt ha]
      have : (BitVec.ofInt 64 1).toNat = 1 := by decide
      rw [this, Nat.and_one_is_mod]
    rw [e1]
    unfold IntKind.wrap
    simp [IntKind.signed, IntKind.bits]
    omega
  exact and_of e h
theorem digits {n k : Nat} (hk : 1 ≤ k ∧ k ≤ 64) (hn : n < 18446744073709551616) (h : E B H (K (str (bitsN n k)))) : E B H (CF Try.prog 28 [.int .u64 (n : Int), I k] K) := by
  refine E_mono (W := s28 _ _ K) ?_ fun _ => c28
  unfold s28
  refine E_box (vs := [.pointer none, nil]) fun b => ?_
  refine E_subI (by omega) (by omega) ?_
  refine E_loop (n := 3) (σ := Nat) (fun m => m ≤ k) (fun m => [.int .u64 (n : Int), ptr b, I ((m : Int) - 1)]) (fun m => bld b (bitsN (n / 2 ^ m) (k - m)) :: H) (fun m => m) k (fun _ => rfl) rfl (Nat.le_refl _) (fun W hW => by
    rw [Nat.sub_self] at hW
    refine sls_nil cB 1 (T := 5) ?_
    refine sm (G := cel true b 94 [.pointer none, nil] :: sls cB 5 1 nil [] :: H) ?_
    exact E_bldS (.inl rfl) hW) ?_
  rintro m K0 hm hk0
  refine E_fa fun _ => ?_
  refine E_geq ?_
  refine E_if (fun hc => ?_) (fun hc => ?_)
  · obtain ⟨j, rfl⟩ : ∃ j, m = j + 1 := ⟨m - 1, by omega⟩
    have e1 : ((j + 1 : Nat) : Int) - 1 = (j : Int) := by omega
    rw [e1]
    refine E_shrI (by omega) (by omega) (by rw [Int.toNat_natCast]; show j ≤ 64; omega) ?_
    rw [Int.toNat_natCast]
    have e2 : (n : Int) / 2 ^ j = ((n / 2 ^ j : Nat) : Int) := by simp
    rw [e2]
    have hlt : n / 2 ^ j < 18446744073709551616 := Nat.lt_of_le_of_lt (Nat.div_le_self _ _) hn
    refine E_and1 hlt ?_
    have hb : bitsN (n / 2 ^ j) (k - j) = bitsN (n / 2 ^ (j + 1)) (k - (j + 1)) ++ [UInt8.ofNat (48 + n / 2 ^ j % 2)] := by
      have e3 : k - j = (k - (j + 1)) + 1 := by omega
      rw [e3]
      show bitsN (n / 2 ^ j / 2) _ ++ _ = _
      rw [Nat.div_div_eq_div_mul, ← Nat.pow_succ]
    have hk1 := hk0 j (by omega) (by omega)
    rw [hb] at hk1
    have hl := bitsN_len (n / 2 ^ (j + 1)) (k - (j + 1))
    have hmod : n / 2 ^ j % 2 = 0 ∨ n / 2 ^ j % 2 = 1 := by omega
    generalize n / 2 ^ j % 2 = c at hk1 hmod
    refine E_cvt ?_
    have ecv : IntKind.u8.wrap (c : Int) = (c : Int) := by
      rcases hmod with rfl | rfl <;> decide
    rw [ecv]
    have e4 : IntKind.u8.wrap (48 + (c : Int)) = ((UInt8.ofNat (48 + c)).toNat : Int) := by
      rcases hmod with rfl | rfl <;> decide
    refine E_add ?_
    rw [e4]
    refine writeByte (by omega) ?_
    refine E_subI (by omega) (by omega) ?_
    exact hk1
  · have hm0 : m = 0 := by omega
    subst hm0
    rw [Nat.pow_zero, Nat.div_one, Nat.sub_zero]
    refine buildString (fun e => ?_) (by rw [bitsN_len]; omega) h
    have := bitsN_len n k
    rw [e] at this
    simp only [List.length_nil] at this
    omega
end Go.Proofs.Ytblgkgobakhigaa.Cod
end
