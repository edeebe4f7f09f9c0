/-
  Names: chunks that lie elsewhere.
-/
import Derived.Test.YtjafpncngmbcdaaGreatNmP
set_option linter.unusedSimpArgs false
set_option linter.unusedVariables false
set_option linter.unusedSectionVars false
namespace Go.Proofs.YtjafpncngmbcdaaGreat.Nam
open Go Go.SL Go.Proofs Go.Proofs.YtjafpncngmbcdaaGreat.Sh
variable {B : World} {H : List Asrt} {K : Value → WT} {W : WT} {a : Nat} {M : Bk} {f : Fa}
theorem enc_set1 {α : Type} {enc : α → List Value} {sz : Nat} [hE : Enc enc sz] {l : List α} {i o : Nat} {x x' : α} {u : Value} (sp : List Value) (hx : l[i]? = some x) (ho : o < sz) (he : enc x' = (enc x).set o u) :
    (l.flatMap enc ++ sp).set (i * sz + o) u = (l.set i x').flatMap enc ++ sp := by
  obtain ⟨hi, hxe⟩ := List.getElem?_eq_some_iff.1 hx
  have h1 : l = l.take i ++ x :: l.drop (i + 1) := by
    rw [← hxe, List.getElem_cons_drop, List.take_append_drop]
  have h2 : l.set i x' = l.take i ++ x' :: l.drop (i + 1) := by rw [List.set_eq_take_append_cons_drop, if_pos hi]
  have hl : ((l.take i).flatMap enc).length = i * sz := by rw [enc_length, List.length_take, Nat.min_eq_left (by omega)]
  rw [h2]
  conv => lhs; rw [h1]
  rw [List.flatMap_append, List.flatMap_append, List.flatMap_cons, List.flatMap_cons, he]
  simp only [List.append_assoc]
  rw [List.set_append, if_neg (by omega), hl, Nat.add_sub_cancel_left, List.set_append, if_pos (by rw [hE.len]; exact ho)]
theorem E_sfld {α : Type} {enc : α → List Value} {sz : Nat} [hE : Enc enc sz] {T i o : Nat} {v u : Value} {l : List α} {x : α} {k : IntKind} (x' : α) (hx : l[i]? = some x) (ho : o < sz) [CellI u] (he : enc x' = (enc x).set o u)
    (h : E B (sls enc T sz v (l.set i x') :: H) (K undef)) : E B (sls enc T sz v l :: H) (S.ixS sz v (.int k (i : Int)) fun p => S.fad p o fun q => S.st 1 q u K) := by
  obtain ⟨hi, _⟩ := List.getElem?_eq_some_iff.1 hx
  refine E_oslo (by omega) fun b cap spare hv hle hxl hsl => ?_
  subst hv
  refine E_ixN hi ?_
  refine E_fad ?_
  have hle2 : i * sz + sz ≤ l.length * sz := by rw [← Nat.succ_mul]; exact Nat.mul_le_mul_right _ hi
  refine E_st' (hf := takC_here) (by rw [List.length_append, enc_length]; omega) ?_
  rw [Nat.zero_add, enc_set1 spare hx ho he]
  refine E_osls (n := l.length) (cap := cap) (sz := sz) hle (by rw [enc_length]; simp) hsl ?_
  unfold sls at h
  rw [List.length_set] at h
  exact h
abbrev spE (p : Int × Int) : Value := .agg #[I p.1, I p.2]
theorem u_moved : Tryz.prog.underlying 171 = some (.map 116 116) := by kernel_rfl
theorem str_spot : Str Tryz.prog 116 [(0, 1), (1, 1)] [I 0, I 0] := str_of (zv := .agg #[I 0, I 0]) (by kernel_rfl) (by kernel_rfl) rfl
theorem eq_spot (a b : Int × Int) (w : World) : (Op.equal 116 (spE a) (spE b)).run Tryz.prog w = .ok (decide (a = b)) w := by
  rw [run_eqStruct (xs := [I a.1, I a.2]) (ys := [I b.1, I b.2]) (bs := [decide (a.1 = b.1), decide (a.2 = b.2)]) [3, 3] (by kernel_rfl) (by kernel_rfl) (by kernel_rfl) rfl (fun i t b' h1 h2 => by
    match i, h1, h2 with
    | 0, h1, h2 => cases h1; cases h2; exact ⟨_, _, rfl, rfl, eqV_int u_int⟩
    | 1, h1, h2 => cases h1; cases h2; exact ⟨_, _, rfl, rfl, eqV_int u_int⟩
    | n + 2, h1, h2 => simp at h1) w]
  obtain ⟨a1, a2⟩ := a
  obtain ⟨b1, b2⟩ := b
  by_cases h1 : a1 = b1 <;> by_cases h2 : a2 = b2 <;> simp [h1, h2]
theorem key_spot : KeyG Tryz.prog 171 116 116 spE := {
  hm := by kernel_rfl
  chk := fun b k w => by kernel_rfl
  no := ⟨.struct (Tryz.prog.fieldsOf 116), by kernel_rfl, fun a b => rfl⟩
  eq := eq_spot
  bits := fun a => by simp [Instr.sameBits] }
theorem zero_spot (w : World) : (zeroValue 116).run Tryz.prog w = .ok (.agg #[I 0, I 0]) w := by kernel_rfl
instance {m : Mv} : AllC (mvC m) := ⟨fun y hy => Enc.cell (enc := mvC) m y hy⟩
def mvP (q : Int × Int) (m : Mv) : Bool := decide (m.fb = q.1 ∧ m.fs = q.2)
theorem moveR_eq (ms : List Mv) (r : Rf) : moveR ms r = match ms.find? (mvP (r.bin, r.slot)) with | none => r | some m => { r with bin := m.tb, slot := m.ts } := rfl
theorem rfC_bin (r : Rf) (n : Int) : rfC { r with bin := n } = (rfC r).set 33 (I n) := by
  unfold rfC
  rw [List.set_append, if_neg (by simp [r.sum.2])]
  simp [r.sum.2]
theorem rfC_slot (r : Rf) (n : Int) : rfC { r with slot := n } = (rfC r).set 34 (I n) := by
  unfold rfC
  rw [List.set_append, if_neg (by simp [r.sum.2])]
  simp [r.sum.2]
attribute [local irreducible] S.pick S.ld S.ldN S.st S.box S.nc S.fad S.ixS S.ixA S.chr S.prt S.ext S.bin S.sh S.sbin S.beq S.neg1 S.com1 S.not1 S.cvt S.str1 S.lenS S.len S.cap S.lenM S.mx S.mn S.mkM S.cond S.gd S.fa S.dr S.rck S.join S.loop S.cvv S.eqv S.slc S.slcS S.b2s S.lk V U CF Gives E cel mpb osl ros dct dit itr lpo dfo
set_option maxRecDepth 8000
attribute [local irreducible] bk
theorem move {v mv : Value} {l : List Rf} {ms : List Mv} [hv : Rs B H v rfC l] [hm : ∀ H', Rs B (H' ++ H) mv mvC ms] (hn : l.length ≤ 1000000) (hmn : ms.length ≤ 140737488355328) (h : ∀ v' (n : Int) [CellI v'], E B (sls rfC 38 35 v' (l.map (moveR ms)) :: H) (K (.tuple #[v', I n]))) :
    E B H (CF Tryz.prog 101 [v, mv] K) := by
  have hm2 : ∀ G G', Rs B (G :: G' :: H) mv mvC ms := fun G G' => hm [G, G']
  refine E_mono (W := s101 _ _ K) ?_ fun _ => c101
  unfold s101
  refine cloneR (v := v) (l := l) hn fun u _ => ?_
  refine E_mkM fun r => ?_
  refine E_gnew (κ := Int × Int) (enc := spE) ?_
  refine E_rslen (v := mv) (l := ms) ?_
  refine E_loop (n := 6) (σ := Nat × List ((Int × Int) × Value)) (fun s => s.1 ≤ ms.length ∧ ∀ q, lk s.2 q = ((ms.take s.1).find? (mvP q)).map fun m => spE (m.tb, m.ts))
    (fun s => [u, I 0, .map (some r), mv, I ms.length, I s.1]) (fun s => dct spE true r s.2 :: sls rfC 38 35 u l :: H) (fun s => ms.length - s.1) (0, []) (fun _ => rfl) rfl ⟨Nat.zero_le _, fun q => rfl⟩ (fun W hW => sm hW) ?_
  rintro ⟨i, kv⟩ K0 ⟨hi, hkv⟩ hk
  simp only at hi hkv hk ⊢
  refine E_fa fun _ => ?_
  refine E_lss ?_
  refine E_if (fun hc => ?_) (fun hc => ?_)
  · have hx : ms[i]? = some ms[i] := List.getElem?_eq_getElem (by omega)
    generalize ms[i] = m at hx
    have hfs : ∀ q, (ms.take (i + 1)).find? (mvP q) = match (ms.take i).find? (mvP q) with | some m' => some m' | none => if mvP q m then some m else none := fun q => by
      rw [List.take_add_one, hx, List.find?_append]
      cases (ms.take i).find? (mvP q) with
      | some m' => rfl
      | none => cases hmp : mvP q m <;> simp [hmp]
    refine E_joinC (σ := List ((Int × Int) × Value)) (fun kv' => ∀ q, lk kv' q = ((ms.take (i + 1)).find? (mvP q)).map fun m => spE (m.tb, m.ts)) (fun _ => [u, I 0, .map (some r), mv, I ms.length, I i])
      (fun kv' => dct spE true r kv' :: sls rfC 38 35 u l :: H) (fun k hk2 => ?_) (fun kv' hkv' => ?_)
    · refine E_rsix (v := mv) (l := ms) hx fun _ _ => ?_
      refine E_ptldA ?_
      refine E_box fun b10 => ?_
      refine E_stW (vs := mvC m) rfl rfl ?_
      (repeat first | refine gS ?_ | refine gA fun _ => ?_ | refine gX fun _ _ => ?_ | refine gT ?_ | refine gF ?_ | refine gI ?_)
      refine gY ?_
      cases hl : lk kv (m.fb, m.fs) with
      | none =>
        refine E_glk0 (κ := Int × Int) key_spot zero_spot (k := (m.fb, m.fs)) hl ?_
        rw [if_pos rfl]
        (repeat first | refine gS ?_ | refine gA fun _ => ?_ | refine gX fun _ _ => ?_ | refine gT ?_ | refine gF ?_ | refine gI ?_)
        refine gY ?_
        (repeat first | refine gS ?_ | refine gA fun _ => ?_ | refine gX fun _ _ => ?_ | refine gT ?_ | refine gF ?_ | refine gI ?_)
        refine gY ?_
        refine E_gmu (κ := Int × Int) key_spot (k := (m.fb, m.fs)) ?_
        refine sm (hk2 (dput kv (m.fb, m.fs) (spE (m.tb, m.ts))) fun q => ?_)
        rw [show lk (dput kv (m.fb, m.fs) (.agg [I m.tb, I m.ts].toArray)) q = _ from dget_dput, hfs]
        by_cases hq : q = (m.fb, m.fs)
        · subst hq
          rw [if_pos rfl]
          have h0 := hkv (m.fb, m.fs)
          rw [hl] at h0
          have h1 := Option.map_eq_none_iff.1 h0.symm
          rw [h1]
          simp [mvP]
        · rw [if_neg hq]
          show lk kv q = _
          rw [hkv]
          have hq' : mvP q m = false := decide_eq_false fun h => hq (Prod.ext h.1.symm h.2.symm)
          rw [hq']
          cases (ms.take i).find? (mvP q) <;> simp
      | some x =>
        refine E_glk1 (κ := Int × Int) key_spot (k := (m.fb, m.fs)) hl ?_
        rw [if_pos rfl]
        have hkm := hkv (m.fb, m.fs)
        rw [hl] at hkm
        cases hf : (ms.take i).find? (mvP (m.fb, m.fs)) with
        | none => rw [hf] at hkm; cases hkm
        | some m' =>
          rw [hf] at hkm
          have hx' : x = spE (m'.tb, m'.ts) := Option.some.inj hkm
          subst hx'
          (repeat first | refine gS ?_ | refine gA fun _ => ?_ | refine gX fun _ _ => ?_ | refine gT ?_ | refine gF ?_ | refine gI ?_)
          refine sm (hk2 kv fun q => ?_)
          rw [hkv, hfs]
          cases hfq : (ms.take i).find? (mvP q) with
          | some m'' => rfl
          | none =>
            have hq' : mvP q m = false := decide_eq_false fun h => by
              have : q = (m.fb, m.fs) := Prod.ext h.1.symm h.2.symm
              rw [this, hf] at hfq; cases hfq
            rw [hq']; rfl
    · refine E_fa fun _ => ?_
      refine E_addI (by omega) (by omega) ?_
      exact hk (i + 1, kv') ⟨by simp only; omega, hkv'⟩ (by simp only; omega)
  have hie : i = ms.length := by omega
  subst hie
  rw [List.take_length] at hkv
  clear hk hc hi
  (repeat first | refine gS ?_ | refine gA fun _ => ?_ | refine gX fun _ _ => ?_ | refine gT ?_ | refine gF ?_ | refine gI ?_)
  refine E_loop (n := 6) (σ := Nat × Nat × List Rf) (fun s => s.1 ≤ l.length ∧ s.2.1 ≤ s.1 ∧ s.2.2 = (l.take s.1).map (moveR ms) ++ l.drop s.1) (fun s => [u, I s.2.1, .map (some r), u, I l.length, I s.1]) (fun s => sls rfC 38 35 u s.2.2 :: dct spE true r kv :: H) (fun s => l.length - s.1) (0, 0, l) (fun _ => rfl) rfl ⟨Nat.zero_le _, Nat.zero_le _, by simp⟩ (fun W hW => sm hW) ?_
  rintro ⟨j, n, ls⟩ K1 ⟨hj, hnj, hls⟩ hk
  simp only at hj hnj hls hk ⊢
  refine E_fa fun _ => ?_
  refine E_lss ?_
  refine E_if (fun hc => ?_) (fun hc => ?_)
  · have hx : l[j]? = some l[j] := List.getElem?_eq_getElem (by omega)
    have hdr := List.drop_eq_getElem_cons (show j < l.length by omega)
    generalize l[j] = x at hx hdr
    have htl : ((l.take j).map (moveR ms)).length = j := by rw [List.length_map, List.length_take]; omega
    have hlx : ls[j]? = some x := by
      rw [hls, List.getElem?_append_right (by omega), htl, Nat.sub_self, hdr]; rfl
    have hset : ls.set j (moveR ms x) = (l.take (j + 1)).map (moveR ms) ++ l.drop (j + 1) := by
      rw [hls, List.set_append, if_neg (by omega), htl, Nat.sub_self, hdr, List.set_cons_zero, List.take_add_one, hx]
      simp
    have hsame : moveR ms x = x → ls = (l.take (j + 1)).map (moveR ms) ++ l.drop (j + 1) := fun e => by
      rw [← hset, e]
      obtain ⟨h1, h2⟩ := List.getElem?_eq_some_iff.1 hlx
      exact (h2 ▸ List.set_getElem_self h1).symm
    refine E_joinC (σ := Nat) (fun n' => n' ≤ j + 1) (fun n' => [u, I n', .map (some r), u, I l.length, I j]) (fun _ => sls rfC 38 35 u ((l.take (j + 1)).map (moveR ms) ++ l.drop (j + 1)) :: dct spE true r kv :: H) (fun k hk2 => ?_) (fun n' hn' => ?_)
    · refine E_rsix (v := u) (l := ls) hlx fun _ _ => ?_
      refine E_ptldA ?_
      refine E_box fun b14 => ?_
      refine E_stW (vs := rfC x) (rfC_len x) rfl ?_
      (repeat first | refine gS ?_ | refine gA fun _ => ?_ | refine gX fun _ _ => ?_ | refine gT ?_ | refine gF ?_ | refine gI ?_)
      refine E_build (l := [I x.bin, I x.slot]) str_spot ?_
      have hkx := hkv (x.bin, x.slot)
      have hmr := moveR_eq ms x
      cases hf : ms.find? (mvP (x.bin, x.slot)) with
      | none =>
        rw [hf] at hkx hmr
        refine E_glk0 (κ := Int × Int) key_spot zero_spot (k := (x.bin, x.slot)) hkx ?_
        rw [if_pos rfl]
        (repeat first | refine gS ?_ | refine gA fun _ => ?_ | refine gX fun _ _ => ?_ | refine gT ?_ | refine gF ?_ | refine gI ?_)
        have hk3 := hk2 n (by omega)
        rw [← hsame hmr] at hk3
        exact sm hk3
      | some m =>
        rw [hf] at hkx hmr
        refine E_glk1 (κ := Int × Int) key_spot (k := (x.bin, x.slot)) hkx ?_
        rw [if_pos rfl]
        (repeat first | refine gS ?_ | refine gA fun _ => ?_)
        refine fd (a := sls rfC 38 35 u ls) ?_
        refine E_sfld { x with bin := m.tb } hlx (by decide) (rfC_bin x m.tb) ?_
        (repeat (refine E_rck1 (by first | exact E_ld (E_fact rfl) | exact E_ld' (by assumption) (E_fact rfl) | exact E_b2sR (E_fact rfl) | exact E_gdnF (by assumption) (E_ld (E_fact rfl)) | exact E_gdT (by assumption) (E_ld (E_fact rfl)) | exact E_gtf (E_ld (E_fact rfl)) | exact E_gft (E_ld (E_fact rfl)) | exact E_ldNA (E_fact rfl) | exact E_ptld (E_fact rfl) | exact E_gtf (E_ldNA (E_fact rfl))) ?_)); (first | (refine E_rck0 ?_) | skip)
        refine E_sfld (moveR ms x) (x := { x with bin := m.tb }) (by rw [List.getElem?_set_self (by have := (List.getElem?_eq_some_iff.1 hlx).1; omega)]) (by decide) (by rw [hmr]; exact rfC_slot { x with bin := m.tb } m.ts) ?_
        rw [List.set_set, hset]
        refine E_addI (by omega) (by omega) ?_
        have hk3 := hk2 (n + 1) (by omega)
        exact sm hk3
    · refine E_fa fun _ => ?_
      refine E_addI (by omega) (by omega) ?_
      exact hk (j + 1, n', _) ⟨by simp only; omega, hn', rfl⟩ (by simp only; omega)
  · have hje : j = l.length := by omega
    subst hje
    rw [List.take_length, List.drop_length, List.append_nil] at hls
    subst hls
    refine rs_cell (v := u) (l := l.map (moveR ms)) fun hcv => ?_
    have : CellI u := ⟨hcv⟩
    exact sm (h u n)
end Go.Proofs.YtjafpncngmbcdaaGreat.Nam
