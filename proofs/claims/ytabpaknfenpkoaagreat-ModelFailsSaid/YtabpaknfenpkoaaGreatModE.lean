/-
  Model: sweep.
-/
import Derived.Test.YtabpaknfenpkoaaGreatModD
set_option linter.unusedSimpArgs false
set_option linter.unusedVariables false
set_option linter.unusedSectionVars false
namespace Go.Proofs.YtabpaknfenpkoaaGreat.Mod
open Go Go.SL Go.Proofs Go.Proofs.YtabpaknfenpkoaaGreat.Sh
variable {B : World} {H : List Asrt} {K : Value → WT} {W : WT}
def keepP (S : List Sn) (v : Ver) : Bool := heldB S v.name v.gen || !v.gone
def sweepV (S : List Sn) (V : List Ver) : List Ver := V.filter (keepP S)
theorem fof_filter (V : List Ver) (q : Ver → Bool) (k : List UInt8) : fof (V.filter q) k = (fof V k).filter q := by
  unfold fof
  rw [List.filter_filter, List.filter_filter]
  congr 1; funext v; exact Bool.and_comm _ _
theorem fof_len (V : List Ver) (k : List UInt8) : (fof V k).length ≤ V.length := List.length_filter_le _ _
theorem fok_put {Lv Lv' : List (Value × List Ver)} {kf : List (List UInt8 × Value)} {V V' : List Ver} {k : List UInt8} {v : Value} (h : FOk Lv kf V) (ho : ∀ k', k' ≠ k → fof V' k' = fof V k') (hv : (v, fof V' k) ∈ Lv') (hL : ∀ p ∈ Lv, p ∈ Lv') (hn : fof V' k ≠ []) : FOk Lv' (dput kf k v) V' := fun k' => by
  by_cases hk : k' = k
  · subst hk
    exact .inr ⟨v, by rw [show lk (dput kf k' v) k' = _ from dget_dput, if_pos rfl], hv, hn⟩
  · have e : lk (dput kf k v) k' = lk kf k' := by rw [show lk (dput kf k v) k' = _ from dget_dput, if_neg hk]
    rw [e, ho k' hk]
    rcases h k' with h | ⟨u, h1, h2, h3⟩
    · exact .inl h
    · exact .inr ⟨u, h1, hL _ h2, h3⟩
theorem fok_del {Lv Lv' : List (Value × List Ver)} {kf : List (List UInt8 × Value)} {V V' : List Ver} {k : List UInt8} {v : Value} (h : FOk Lv kf V) (ho : ∀ k', k' ≠ k → fof V' k' = fof V k') (hL : ∀ p ∈ Lv, p ∈ Lv') (hn : fof V' k = []) : FOk Lv' (ddel (dput kf k v) k) V' := fun k' => by
  by_cases hk : k' = k
  · subst hk
    exact .inl ⟨by rw [show lk (ddel (dput kf k' v) k') k' = _ from dget_ddel, if_pos rfl], hn⟩
  · have e : lk (ddel (dput kf k v) k) k' = lk kf k' := by rw [show lk (ddel (dput kf k v) k) k' = _ from dget_ddel, if_neg hk, dget_dput, if_neg hk]
    rw [e, ho k' hk]
    rcases h k' with h | ⟨u, h1, h2, h3⟩
    · exact .inl h
    · exact .inr ⟨u, h1, hL _ h2, h3⟩
theorem lk_mem {kf : List (List UInt8 × Value)} {k : List UInt8} : k ∈ kf.map (·.1) ↔ lk kf k ≠ none := by
  have := lookup_none (kv := kf) (k := k)
  constructor
  · exact fun h he => this.1 he h
  · exact fun h => Classical.byContradiction fun hn => h (this.2 hn)
theorem fok_keys {Lv : List (Value × List Ver)} {kf : List (List UInt8 × Value)} {V : List Ver} (h : FOk Lv kf V) (hd : (kf.map (·.1)).Nodup) (hs : SrtN V) : (kf.map (·.1)).Perm (nms V) := by
  refine (List.perm_ext_iff_of_nodup hd ((nms_lt hs).imp fun h => slt_ne h)).2 fun k => ?_
  rw [lk_mem]
  rcases h k with ⟨h1, h2⟩ | ⟨u, h1, h2, h3⟩
  · rw [h1]
    constructor
    · exact fun h => (h rfl).elim
    · exact fun hk => (fof_some hk h2).elim
  · rw [h1]
    constructor
    · intro _
      exact Classical.byContradiction fun hn => h3 (fof_none hn)
    · intro _ he; cases he
theorem nms_len : ∀ V : List Ver, (nms V).length ≤ V.length
  | [] => Nat.le_refl _
  | v :: t => by
    have := nms_len t
    unfold nms
    split
    · simp; omega
    · simp; omega
/-- Swept as far as these names go. -/
def swV (S : List Sn) (V : List Ver) (ks : List (List UInt8)) : List Ver := V.filter fun v => decide (v.name ∉ ks) || keepP S v
theorem fof_sw (S : List Sn) (V : List Ver) (ks : List (List UInt8)) (k : List UInt8) : fof (swV S V ks) k = if k ∈ ks then (fof V k).filter (keepP S) else fof V k := by
  unfold swV
  rw [fof_filter]
  split
  · rename_i h
    refine List.filter_congr fun v hv => ?_
    rw [(fof_mem.1 hv).2]; simp [h]
  · rename_i h
    refine List.filter_eq_self.2 fun v hv => ?_
    rw [(fof_mem.1 hv).2]; simp [h]
theorem swV_nil (S : List Sn) (V : List Ver) : swV S V [] = V := List.filter_eq_self.2 fun v _ => by simp
theorem swV_all (S : List Sn) (V : List Ver) : swV S V (nms V) = sweepV S V := List.filter_congr fun v hv => by
  have : v.name ∈ nms V := nms_mem.2 ⟨v, hv, rfl⟩
  simp [this]
attribute [local irreducible] S.pick S.ld S.ldN S.st S.box S.nc S.fad S.ixS S.ixA S.chr S.prt S.ext S.bin S.sh S.sbin S.beq S.neg1 S.com1 S.not1 S.cvt S.str1 S.lenS S.len S.cap S.lenM S.mx S.mn S.mkM S.cond S.gd S.fa S.dr S.rck S.join S.loop S.cvv S.eqv S.slc S.slcS S.b2s S.lk V U CF Gives E cel mpb osl ros dct dit itr lpo dfo
set_option maxRecDepth 4000
attribute [local irreducible] mo
theorem sweep {a : Nat} {M : Mo} (hS : SU M.S) (hg : ∀ v ∈ M.V, 1 ≤ v.gen) (hs : SrtN M.V) (hn : M.V.length ≤ 1000000)
    (h : E B (mo a { M with V := sweepV M.S M.V } :: H) (K (.tuple #[]))) : E B (mo a M :: H) (CF Tryz.prog 78 [ptr a] K) := by
  refine E_mono (W := s78 _ K) ?_ fun _ => c78
  unfold s78
  (repeat first | refine gS ?_ | refine gA fun _ => ?_ | refine gX fun _ _ => ?_ | refine gT ?_ | refine gF ?_ | refine gI ?_)
  rename_i bm
  refine fd (a := mo a M) (E_mo fun r1 r2 r3 kf ks ko Lv Lh hf hs' ho => ?_)
  have hcl := fun W (hW : E B (mo a M :: cel true bm 23 [ptr a] :: H) W) => E_moS r1 r2 r3 hf hs' ho (b := M.began) (n := M.now) (q := M.quota) rfl rfl rfl hW
  refine fd (a := dct kL true r1 kf) (E_dnod fun hnod => ?_)
  have hperm := fok_keys hf hnod hs
  have hlen : kf.length ≤ 1000000 := by
    have h1 := hperm.length_eq
    have h2 := nms_len M.V
    simp at h1; omega
  (repeat first | refine gS ?_ | refine gA fun _ => ?_ | refine gX fun _ _ => ?_ | refine gT ?_ | refine gF ?_ | refine gI ?_)
  refine sortedNames (by omega) fun sv zs _ hz => ?_
  rw [sortS_eq (hz.trans hperm) (nms_lt hs)]
  (repeat first | refine gS ?_ | refine gA fun _ => ?_ | refine gX fun _ _ => ?_ | refine gT ?_ | refine gF ?_ | refine gI ?_)
  refine sm (G := cel true a 82 [.map (some r1), .map (some r2), .map (some r3), I M.began, I M.now, I M.quota] :: dct kL true r1 kf :: dct kL true r2 ks :: dct kI true r3 ko :: spool vC Lv :: dpool kL Lh :: cel true bm 23 [ptr a] :: sls cS 9 1 sv (nms M.V) :: H) ?_
  refine E_moS r1 r2 r3 hf hs' ho (b := M.began) (n := M.now) (q := M.quota) rfl rfl rfl ?_
  clear hcl hf hs' ho hnod hperm hlen hz zs
  refine E_loop (σ := Nat) (fun i => i ≤ (nms M.V).length) (fun i => [ptr bm, sv, I (nms M.V).length, I i])
    (fun i => mo a { M with V := swV M.S M.V ((nms M.V).take i) } :: cel true bm 23 [ptr a] :: sls cS 9 1 sv (nms M.V) :: H) (fun i => (nms M.V).length - i) 0 (fun _ => rfl) rfl (Nat.zero_le _)
    (fun W hW => by rw [List.take_zero, swV_nil] at hW; exact hW) ?_
  intro i K0 hi hk
  refine E_fa fun _ => ?_
  (repeat first | refine gS ?_ | refine gA fun _ => ?_ | refine gX fun _ _ => ?_ | refine gT ?_ | refine gF ?_ | refine gI ?_)
  refine E_if (fun hc => ?_) (fun hc => ?_)
  · have hx : (nms M.V)[i]? = some (nms M.V)[i] := List.getElem?_eq_getElem (by omega)
    generalize (nms M.V)[i] = k at hx
    have hnd : k ∉ (nms M.V).take i := fun hm => by
      obtain ⟨j, hj, e⟩ := List.mem_take_iff_getElem.1 hm
      have hp := nms_lt hs
      obtain ⟨hil, hie⟩ := List.getElem?_eq_some_iff.1 hx
      have := List.pairwise_iff_getElem.1 hp j i (by omega) hil (by omega)
      rw [e, hie] at this
      exact slt_irr _ this
    have hkm : k ∈ nms M.V := List.mem_of_getElem? hx
    refine E_join1 [ptr bm, sv, I (nms M.V).length, I i] (mo a { M with V := swV M.S M.V ((nms M.V).take (i + 1)) } :: cel true bm 23 [ptr a] :: sls cS 9 1 sv (nms M.V) :: H) (fun q hq => ?_) ?_
    · (repeat first | refine gS ?_ | refine gA fun _ => ?_ | refine gX fun _ _ => ?_ | refine gT ?_ | refine gF ?_ | refine gI ?_)
      rename_i bn
      refine fd (a := mo a { M with V := swV M.S M.V ((nms M.V).take i) }) (E_mo fun r1 r2 r3 kf ks ko Lv Lh hf hs' ho => ?_)
      have hfk : fof (swV M.S M.V ((nms M.V).take i)) k = fof M.V k := by rw [fof_sw, if_neg hnd]
      rcases hf k with ⟨_, h2⟩ | ⟨v, h1, h2, h3⟩
      · exact (fof_some hkm (hfk.symm.trans h2)).elim
      simp only at h2 hf ho hs'
      rw [hfk] at h2 h3
      have hrs := rs_pool (B := B) (enc := vC) h2
      (repeat first | refine gS ?_ | refine gA fun _ => ?_ | refine gX fun _ _ => ?_ | refine gT ?_ | refine gF ?_ | refine gI ?_)
      refine E_dlk1 (κ := List UInt8) h1 ?_
      refine cloneV (v := v) (by have := fof_len M.V k; omega) fun u _ => ?_
      refine sm (G := cel true a 82 [.map (some r1), .map (some r2), .map (some r3), I M.began, I M.now, I M.quota] :: dct kL true r1 kf :: dct kL true r2 ks :: dct kI true r3 ko :: spool vC Lv :: dpool kL Lh :: cel true bn 9 [str k] :: cel true bm 23 [ptr a] :: sls vC 98 4 u (fof M.V k) :: sls cS 9 1 sv (nms M.V) :: H) ?_
      refine E_moS (M := { M with V := swV M.S M.V ((nms M.V).take i) }) r1 r2 r3 hf hs' ho (b := M.began) (n := M.now) (q := M.quota) rfl rfl rfl ?_
      refine sm (G := sls vC 98 4 u (fof M.V k) :: mo a { M with V := swV M.S M.V ((nms M.V).take i) } :: cel true bn 9 [str k] :: cel true bm 23 [ptr a] :: sls cS 9 1 sv (nms M.V) :: H) ?_
      clear hf hs' ho h1 h2 hrs
      refine fd (a := sls vC 98 4 u (fof M.V k)) ?_
      refine E_imp (a' := sls vC 98 4 u (fof M.V k)) (fun _ h => h) ?_
      have hC : ∀ W, E B (sls vC 98 4 u (fof M.V k) :: all [mo a { M with V := swV M.S M.V ((nms M.V).take i) }, cel true bn 9 [str k], cel true bm 23 [ptr a]] :: sls cS 9 1 sv (nms M.V) :: H) W →
          E B (sls vC 98 4 u (fof M.V k) :: mo a { M with V := swV M.S M.V ((nms M.V).take i) } :: cel true bn 9 [str k] :: cel true bm 23 [ptr a] :: sls cS 9 1 sv (nms M.V) :: H) W := fun W hW => by
        refine E_same (G := [mo a { M with V := swV M.S M.V ((nms M.V).take i) }, cel true bn 9 [str k], cel true bm 23 [ptr a]] ++ (sls vC 98 4 u (fof M.V k) :: sls cS 9 1 sv (nms M.V) :: H)) (by repeat (first | exact Same.refl | (refine Same.cons (by repeat (first | exact Find.here | apply Find.there)) ?_) | (refine Same.drop ?_))) ?_
        exact E_all' (sm hW)
      refine hC _ ?_
      refine deleteFunc (p := fun v => !keepP M.S v) (by have := fof_len M.V k; omega) (fun x hx H' K' hK => ?_) fun u' _ => ?_
      · refine E_cvv (by kernel_rfl) ?_
        show E B _ (CF Tryz.prog 94 [.agg (vC x).toArray, ptr bm, ptr bn] K')
        refine E_mono (W := s94 _ _ _ K') ?_ fun _ => c94
        unfold s94
        refine E_all ?_
        show E B (mo a { M with V := swV M.S M.V ((nms M.V).take i) } :: cel true bn 9 [str k] :: cel true bm 23 [ptr a] :: H') _
        obtain ⟨hxm, hxn⟩ := fof_mem.1 hx
        have hfin : ∀ b : Bool, (!keepP M.S x) = b → E B (mo a { M with V := swV M.S M.V ((nms M.V).take i) } :: cel true bn 9 [str k] :: cel true bm 23 [ptr a] :: H') (K' (.bool b)) := fun b hb => by
          rw [← hb]
          have := E_all' hK
          exact E_same (by repeat (first | exact Same.refl | (refine Same.cons (by repeat (first | exact Find.here | apply Find.there)) ?_) | (refine Same.drop ?_))) this
        unfold vC
        (repeat first | refine gS ?_ | refine gA fun _ => ?_ | refine gX fun _ _ => ?_ | refine gT ?_ | refine gF ?_ | refine gI ?_)
        cases hgo : x.gone with
        | false =>
          (repeat first | refine gS ?_ | refine gA fun _ => ?_ | refine gX fun _ _ => ?_ | refine gT ?_ | refine gF ?_ | refine gI ?_)
          exact sm (hfin false (by simp [keepP, hgo]))
        | true =>
          (repeat first | refine gS ?_ | refine gA fun _ => ?_ | refine gX fun _ _ => ?_ | refine gT ?_ | refine gF ?_ | refine gI ?_)
          refine fd (a := mo a { M with V := swV M.S M.V ((nms M.V).take i) }) (held (M := { M with V := swV M.S M.V ((nms M.V).take i) }) hS (hg x hxm) ?_)
          refine E_gtf ?_
          refine E_notb ?_
          refine E_ptt ?_
          refine sm (hfin _ ?_)
          simp [keepP, hgo, hxn]
      have hfl : (fof M.V k).filter (fun x => !!keepP M.S x) = (fof M.V k).filter (keepP M.S) := List.filter_congr fun v _ => by simp
      rw [hfl]
      refine fd (a := all [mo a { M with V := swV M.S M.V ((nms M.V).take i) }, cel true bn 9 [str k], cel true bm 23 [ptr a]]) (E_all ?_)
      show E B (mo a { M with V := swV M.S M.V ((nms M.V).take i) } :: cel true bn 9 [str k] :: cel true bm 23 [ptr a] :: sls vC 98 4 u' ((fof M.V k).filter (keepP M.S)) :: sls cS 9 1 sv (nms M.V) :: H) _
      refine E_mo fun r1 r2 r3 kf ks ko Lv Lh hf hs' ho => ?_
      simp only at hf ho hs'
      (repeat first | refine gS ?_ | refine gA fun _ => ?_ | refine gX fun _ _ => ?_ | refine gT ?_ | refine gF ?_ | refine gI ?_)
      refine E_dmu (κ := List UInt8) key_files ?_
      (repeat first | refine gS ?_ | refine gA fun _ => ?_ | refine gX fun _ _ => ?_ | refine gT ?_ | refine gF ?_ | refine gI ?_)
      have ho' : ∀ k', k' ≠ k → fof (swV M.S M.V ((nms M.V).take (i + 1))) k' = fof (swV M.S M.V ((nms M.V).take i)) k' := fun k' hk' => by
        rw [fof_sw, fof_sw]
        have : (k' ∈ (nms M.V).take (i + 1)) ↔ k' ∈ (nms M.V).take i := by
          rw [List.take_add_one, hx]
          simp [hk']
        simp only [this]
      have hk1 : fof (swV M.S M.V ((nms M.V).take (i + 1))) k = (fof M.V k).filter (keepP M.S) := by
        rw [fof_sw, if_pos]
        rw [List.take_add_one, hx]; simp
      by_cases h0 : (((fof M.V k).filter (keepP M.S)).length : Int) = 0
      · (repeat first | refine gS ?_ | refine gA fun _ => ?_ | refine gX fun _ _ => ?_ | refine gT ?_ | refine gF ?_ | refine gI ?_)
        refine E_ddel (κ := List UInt8) rfl key_files ?_
        refine sm (G := cel true a 82 [.map (some r1), .map (some r2), .map (some r3), I M.began, I M.now, I M.quota] :: dct kL true r1 (ddel (dput kf k u') k) :: dct kL true r2 ks :: dct kI true r3 ko :: spool vC Lv :: dpool kL Lh :: cel true bm 23 [ptr a] :: sls cS 9 1 sv (nms M.V) :: H) ?_
        refine E_moS (M := { M with V := swV M.S M.V ((nms M.V).take (i + 1)) }) r1 r2 r3 (fok_del hf ho' (fun _ h => h) (by rw [hk1]; exact List.length_eq_zero_iff.1 (by omega))) hs' ho (b := M.began) (n := M.now) (q := M.quota) rfl rfl rfl ?_
        exact hq
      · (repeat first | refine gS ?_ | refine gA fun _ => ?_ | refine gX fun _ _ => ?_ | refine gT ?_ | refine gF ?_ | refine gI ?_)
        refine sm (G := sls vC 98 4 u' ((fof M.V k).filter (keepP M.S)) :: spool vC Lv :: cel true a 82 [.map (some r1), .map (some r2), .map (some r3), I M.began, I M.now, I M.quota] :: dct kL true r1 (dput kf k u') :: dct kL true r2 ks :: dct kI true r3 ko :: dpool kL Lh :: cel true bm 23 [ptr a] :: sls cS 9 1 sv (nms M.V) :: H) ?_
        refine E_give ?_
        refine sm (G := cel true a 82 [.map (some r1), .map (some r2), .map (some r3), I M.began, I M.now, I M.quota] :: dct kL true r1 (dput kf k u') :: dct kL true r2 ks :: dct kI true r3 ko :: spool vC ((u', (fof M.V k).filter (keepP M.S)) :: Lv) :: dpool kL Lh :: cel true bm 23 [ptr a] :: sls cS 9 1 sv (nms M.V) :: H) ?_
        refine E_moS (M := { M with V := swV M.S M.V ((nms M.V).take (i + 1)) }) r1 r2 r3 (fok_put hf ho' (by rw [hk1]; simp) (fun _ h => List.mem_cons_of_mem _ h) (by rw [hk1]; intro e; rw [e] at h0; simp at h0)) hs' ho (b := M.began) (n := M.now) (q := M.quota) rfl rfl rfl ?_
        exact hq
    · refine E_fa fun _ => ?_
      have hnl := nms_len M.V
      refine E_addI (by omega) (by omega) ?_
      exact hk (i + 1) (by omega) (by omega)
  · have hin : i = (nms M.V).length := by omega
    subst hin
    rw [List.take_length, swV_all]
    exact sm h
end Go.Proofs.YtabpaknfenpkoaaGreat.Mod
