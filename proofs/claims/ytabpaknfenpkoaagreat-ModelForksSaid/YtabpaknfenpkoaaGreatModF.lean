/-
  Model: drop, Names, lost, size.
-/
import Derived.Test.YtabpaknfenpkoaaGreatModS
set_option linter.unusedSimpArgs false
set_option linter.unusedVariables false
set_option linter.unusedSectionVars false
namespace Go.Proofs.YtabpaknfenpkoaaGreat.Mod
open Go Go.SL Go.Proofs Go.Proofs.YtabpaknfenpkoaaGreat.Sh
variable {B : World} {H : List Asrt} {K : Value → WT} {W : WT}
theorem enc_set1 {α : Type} {enc : α → List Value} {sz : Nat} [hE : Enc enc sz] {l : List α} {i o : Nat} {x x' : α} {u : Value} (sp : List Value) (hx : l[i]? = some x) (ho : o < sz) (he : enc x' = (enc x).set o u) :
    (l.flatMap enc ++ sp).set (i * sz + o) u = (l.set i x').flatMap enc ++ sp := by
  obtain ⟨hi, hxe⟩ := List.getElem?_eq_some_iff.1 hx
  have h1 : l = l.take i ++ x :: l.drop (i + 1) := by
    rw [← hxe, List.getElem_cons_drop, List.take_append_drop]
  have h2 : l.set i x' = l.take i ++ x' :: l.drop (i + 1) := by rw [List.set_eq_take_append_cons_drop, if_pos hi]
  have hl : ((l.take i).flatMap enc).length = i * sz := by rw [enc_length, List.length_take, Nat.min_eq_left (by omega)]
  rw [h2]
  conv => lhs; rw [h1]
  rw [List.flatMap_append, List.flatMap_append, List.flatMap_cons, List.flatMap_cons, he]
  simp only [List.append_assoc]
  rw [List.set_append, if_neg (by omega), hl, Nat.add_sub_cancel_left, List.set_append, if_pos (by rw [hE.len]; exact ho)]
theorem E_sfld {α : Type} {enc : α → List Value} {sz : Nat} [hE : Enc enc sz] {T i o : Nat} {v u : Value} {l : List α} {x : α} {k : IntKind} (x' : α) (hx : l[i]? = some x) (ho : o < sz) [CellI u] (he : enc x' = (enc x).set o u)
    (h : E B (sls enc T sz v (l.set i x') :: H) (K undef)) : E B (sls enc T sz v l :: H) (S.ixS sz v (.int k (i : Int)) fun p => S.fad p o fun q => S.st 1 q u K) := by
  obtain ⟨hi, _⟩ := List.getElem?_eq_some_iff.1 hx
  refine E_oslo (by omega) fun b cap spare hv hle hxl hsl => ?_
  subst hv
  refine E_ixN hi ?_
  refine E_fad ?_
  have hle2 : i * sz + sz ≤ l.length * sz := by rw [← Nat.succ_mul]; exact Nat.mul_le_mul_right _ hi
  refine E_st' (hf := takC_here) (by rw [List.length_append, enc_length]; omega) ?_
  rw [Nat.zero_add, enc_set1 spare hx ho he]
  refine E_osls (n := l.length) (cap := cap) (sz := sz) hle (by rw [enc_length]; simp) hsl ?_
  unfold sls at h
  rw [List.length_set] at h
  exact h
attribute [local irreducible] S.pick S.ld S.ldN S.st S.box S.nc S.fad S.ixS S.ixA S.chr S.prt S.ext S.bin S.sh S.sbin S.beq S.neg1 S.com1 S.not1 S.cvt S.str1 S.lenS S.len S.cap S.lenM S.mx S.mn S.mkM S.cond S.gd S.fa S.dr S.rck S.join S.loop S.cvv S.eqv S.slc S.slcS S.b2s S.lk V U CF Gives E cel mpb osl ros dct dit itr lpo dfo
set_option maxRecDepth 4000
attribute [local irreducible] mo
theorem drop {a : Nat} {M : Mo} {n : List UInt8} {i : Nat} {x : Ver} (hw : Wf M) (hx : (fof M.V n)[i]? = some x)
    (h : E B (mo a { M with V := sweepV M.S (markV M.V n x.gen) } :: H) (K (.tuple #[]))) : E B (mo a M :: H) (CF Tryz.prog 77 [ptr a, str n, I i] K) := by
  refine E_mono (W := s77 _ _ _ K) ?_ fun _ => c77
  unfold s77
  refine E_mo fun r1 r2 r3 kf ks ko Lv Lh hf hs ho => ?_
  rcases hf n with ⟨_, h2⟩ | ⟨v, h1, h2, h3⟩
  · rw [h2] at hx; cases hx
  have hrs := rs_pool (B := B) (enc := vC) h2
  (repeat first | refine gS ?_ | refine gA fun _ => ?_ | refine gX fun _ _ => ?_ | refine gT ?_ | refine gF ?_ | refine gI ?_)
  refine E_dlk1 (κ := List UInt8) h1 ?_
  refine cloneV (v := v) (by have := fof_len M.V n; have := hw.n; omega) fun u _ => ?_
  refine E_sfld (goneV x) hx (by decide) rfl ?_
  (repeat first | refine gS ?_ | refine gA fun _ => ?_ | refine gX fun _ _ => ?_ | refine gT ?_ | refine gF ?_ | refine gI ?_)
  refine E_dmu (κ := List UInt8) key_files ?_
  refine sm (G := sls vC 98 4 u ((fof M.V n).set i (goneV x)) :: spool vC Lv :: cel true a 82 [.map (some r1), .map (some r2), .map (some r3), I M.began, I M.now, I M.quota] :: dct kL true r1 (dput kf n u) :: dct kL true r2 ks :: dct kI true r3 ko :: dpool kL Lh :: H) ?_
  refine E_give ?_
  refine sm (G := cel true a 82 [.map (some r1), .map (some r2), .map (some r3), I M.began, I M.now, I M.quota] :: dct kL true r1 (dput kf n u) :: dct kL true r2 ks :: dct kI true r3 ko :: spool vC ((u, (fof M.V n).set i (goneV x)) :: Lv) :: dpool kL Lh :: H) ?_
  have hm := fof_mark hw.v hx
  refine E_moS (M := { M with V := markV M.V n x.gen }) r1 r2 r3 (fok_put hf (fun k hk => fof_mark_ne hk) (by rw [hm]; simp) (fun _ h => List.mem_cons_of_mem _ h) (by rw [hm]; intro e; simp at e; exact h3 e)) hs ho (b := M.began) (n := M.now) (q := M.quota) rfl rfl rfl ?_
  have hw' : Wf { M with V := markV M.V n x.gen } := hw.map fun v => mark_f4 n x.gen v
  exact sweep hw'.su (fun v hv => (hw'.g v hv).1) hw'.v.n hw'.n h
theorem u_helds : Tryz.prog.underlying 31 = some (.slice 106) := by kernel_rfl
theorem elt_held : Elt Tryz.prog 106 2 24 [.string ⟨#[]⟩, I 0] := elt_of (zv := .agg #[.string ⟨#[]⟩, I 0]) (by kernel_rfl) rfl rfl
theorem str_held : Str Tryz.prog 106 [(0, 1), (1, 1)] [.string ⟨#[]⟩, I 0] := str_of (zv := .agg #[.string ⟨#[]⟩, I 0]) (by kernel_rfl) (by kernel_rfl) rfl
theorem names {a : Nat} {M : Mo} (hw : Wf M) (h : ∀ v [CellI v], E B (sls hC 106 2 v (namesV M.V) :: mo a M :: H) (K v)) : E B (mo a M :: H) (CF Tryz.prog 22 [ptr a] K) := by
  refine E_mono (W := s22 _ K) ?_ fun _ => c22
  unfold s22
  refine E_peq u_pModel ?_
  refine E_ff ?_
  refine E_mo fun r1 r2 r3 kf ks ko Lv Lh hf hs ho => ?_
  refine fd (a := dct kL true r1 kf) (E_dnod fun hnod => ?_)
  have hperm := fok_keys hf hnod hw.v.n
  have hnl := nms_len M.V
  have hMn := hw.n
  have hlen : kf.length ≤ 1000000 := by
    have h1 := hperm.length_eq
    simp at h1; omega
  (repeat first | refine gS ?_ | refine gA fun _ => ?_ | refine gX fun _ _ => ?_ | refine gT ?_ | refine gF ?_ | refine gI ?_)
  refine sortedNames (by omega) fun sv zs _ hz => ?_
  rw [sortS_eq (hz.trans hperm) (nms_lt hw.v.n)]
  (repeat first | refine gS ?_ | refine gA fun _ => ?_ | refine gX fun _ _ => ?_ | refine gT ?_ | refine gF ?_ | refine gI ?_)
  refine sm (G := cel true a 82 [.map (some r1), .map (some r2), .map (some r3), I M.began, I M.now, I M.quota] :: dct kL true r1 kf :: dct kL true r2 ks :: dct kI true r3 ko :: spool vC Lv :: dpool kL Lh :: sls cS 9 1 sv (nms M.V) :: H) ?_
  refine E_moS r1 r2 r3 hf hs ho (b := M.began) (n := M.now) (q := M.quota) rfl rfl rfl ?_
  refine E_loop (σ := Nat × Value) (fun s => s.1 ≤ (nms M.V).length ∧ isCell s.2 = true) (fun s => [ptr a, s.2, sv, I (nms M.V).length, I s.1])
    (fun s => sls hC 106 2 s.2 (((nms M.V).take s.1).filterMap fun k => (liveV M.V k 0).map fun v => (k, v.gen)) :: mo a M :: sls cS 9 1 sv (nms M.V) :: H) (fun s => (nms M.V).length - s.1) (0, nil) (fun _ => rfl) rfl ⟨Nat.zero_le _, rfl⟩
    (fun W hW => by
      simp only [List.take_zero, List.filterMap_nil] at hW
      exact sls_nil hC 2 hW) ?_
  rintro ⟨i, ov⟩ K0 ⟨hi, hov⟩ hk
  simp only at hi hov hk ⊢
  have : CellI ov := ⟨hov⟩
  refine E_fa fun _ => ?_
  (repeat first | refine gS ?_ | refine gA fun _ => ?_ | refine gX fun _ _ => ?_ | refine gT ?_ | refine gF ?_ | refine gI ?_)
  refine E_if (fun hc => ?_) (fun hc => ?_)
  · have hx : (nms M.V)[i]? = some (nms M.V)[i] := List.getElem?_eq_getElem (by omega)
    generalize (nms M.V)[i] = k at hx
    have hstep : ((nms M.V).take (i + 1)).filterMap (fun k => (liveV M.V k 0).map fun v => (k, v.gen)) = ((nms M.V).take i).filterMap (fun k => (liveV M.V k 0).map fun v => (k, v.gen)) ++ (match liveV M.V k 0 with | none => [] | some v => [(k, v.gen)]) := by
      rw [List.take_add_one, hx, List.filterMap_append]
      congr 1
      cases hl : liveV M.V k 0 with
      | none => simp [hl]
      | some v => simp [hl]
    have hlen2 : (((nms M.V).take i).filterMap (fun k => (liveV M.V k 0).map fun v => (k, v.gen))).length ≤ i := by
      refine Nat.le_trans (List.length_filterMap_le _ _) ?_
      rw [List.length_take]; omega
    refine E_joinC (σ := Value) (fun u => isCell u = true) (fun u => [ptr a, u, sv, I (nms M.V).length, I i])
      (fun u => sls hC 106 2 u (((nms M.V).take (i + 1)).filterMap fun k => (liveV M.V k 0).map fun v => (k, v.gen)) :: mo a M :: sls cS 9 1 sv (nms M.V) :: H) (fun q hq => ?_) (fun u hu => ?_)
    · rw [hstep] at hq
      (repeat first | refine gS ?_ | refine gA fun _ => ?_ | refine gX fun _ _ => ?_ | refine gT ?_ | refine gF ?_ | refine gI ?_)
      refine fd (a := mo a M) (at_ (by have := fof_len M.V k; omega) ?_)
      rcases lastIdx_getLast (p := liveP 0) (l := fof M.V k) with ⟨e1, e2⟩ | ⟨j, x, e1, e2, e3, e4⟩
      · have el : liveV M.V k 0 = none := e2
        rw [e1, show idxI none = (-1 : Int) from rfl]
        rw [el] at hq
        simp only [List.append_nil] at hq
        (repeat first | refine gS ?_ | refine gA fun _ => ?_ | refine gX fun _ _ => ?_ | refine gT ?_ | refine gF ?_ | refine gI ?_)
        exact sm (hq ov hov)
      · have el : liveV M.V k 0 = some x := e4
        rw [e1, show idxI (some j) = (j : Int) from rfl]
        rw [el] at hq
        simp only at hq
        (repeat first | refine gS ?_ | refine gA fun _ => ?_ | refine gX fun _ _ => ?_ | refine gT ?_ | refine gF ?_ | refine gI ?_)
        refine E_ifT (by omega) ?_
        refine E_mo fun r1 r2 r3 kf ks ko Lv Lh hf hs ho => ?_
        rcases hf k with ⟨_, h2⟩ | ⟨v, h1, h2, h3⟩
        · rw [h2] at e2; cases e2
        have hrs := rs_pool (B := B) (enc := vC) h2
        (repeat first | refine gS ?_ | refine gA fun _ => ?_ | refine gX fun _ _ => ?_ | refine gT ?_ | refine gF ?_ | refine gI ?_)
        refine E_dlk1 (κ := List UInt8) h1 ?_
        (repeat first | refine gS ?_ | refine gA fun _ => ?_ | refine gX fun _ _ => ?_ | refine gT ?_ | refine gF ?_ | refine gI ?_)
        refine E_build (l := [str k, I x.gen]) str_held ?_
        refine E_use (sls hC 106 2 ov) (E_sapp1 (k, x.gen) u_helds elt_held rfl (by decide) (by omega) (by omega) fun u' _ => ?_)
        have hq' := hq u' CellI.pf
        refine E_same (G := cel true a 82 [.map (some r1), .map (some r2), .map (some r3), I M.began, I M.now, I M.quota] :: dct kL true r1 kf :: dct kL true r2 ks :: dct kI true r3 ko :: spool vC Lv :: dpool kL Lh :: _ :: sls cS 9 1 sv (nms M.V) :: H) (by repeat (first | exact Same.refl | (refine Same.cons (by repeat (first | exact Find.here | apply Find.there)) ?_) | (refine Same.drop ?_))) ?_
        refine E_moS (M := M) r1 r2 r3 hf hs ho (b := M.began) (n := M.now) (q := M.quota) rfl rfl rfl ?_
        exact sm hq'
    · have : CellI u := ⟨hu⟩
      refine E_fa fun _ => ?_
      refine E_addI (by omega) (by omega) ?_
      exact hk (i + 1, u) ⟨by simp only; omega, hu⟩ (by simp only; omega)
  · have hin : i = (nms M.V).length := by omega
    subst hin
    rw [List.take_length]
    exact E_same (by repeat (first | exact Same.refl | (refine Same.cons (by repeat (first | exact Find.here | apply Find.there)) ?_) | (refine Same.drop ?_))) (h ov)
theorem names_nil (h : E B H (K nil)) : E B H (CF Tryz.prog 22 [.pointer none] K) := by
  refine E_mono (W := s22 _ K) ?_ fun _ => c22
  unfold s22
  refine E_peq0 u_pModel ?_
  refine E_tt ?_
  exact h
end Go.Proofs.YtabpaknfenpkoaaGreat.Mod
