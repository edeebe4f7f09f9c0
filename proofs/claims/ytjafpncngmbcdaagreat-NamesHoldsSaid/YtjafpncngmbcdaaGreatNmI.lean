/-
  Names: files put and taken out; the files' names; sweep.
-/
import Derived.Test.YtjafpncngmbcdaaGreatNmH
set_option linter.unusedSimpArgs false
set_option linter.unusedVariables false
set_option linter.unusedSectionVars false
namespace Go.Proofs.YtjafpncngmbcdaaGreat.Nam
open Go Go.SL Go.Proofs Go.Proofs.YtjafpncngmbcdaaGreat.Sh
variable {B : World} {H : List Asrt} {K : Value → WT} {W : WT} {a : Nat} {M : Bk}
variable {Lv Lv' : List (Value × List VR)} {Lr Lr' : List (Value × List Rf)} {kf : List (List UInt8 × Value)} {V V' : List Ver} {k : List UInt8} {v : Value} {l : List VR}
theorem VOk.mono (h : VOk Lv Lr v l V) (hL : ∀ p ∈ Lv, p ∈ Lv') (hR : ∀ p ∈ Lr, p ∈ Lr') : VOk Lv' Lr' v l V := ⟨hL _ h.m, h.e, fun p hp => hR _ (h.r p hp)⟩
theorem fok_put (h : FOk Lv Lr kf V) (ho : ∀ k', k' ≠ k → fof V' k' = fof V k') (hv : VOk Lv' Lr' v l (fof V' k)) (hL : ∀ p ∈ Lv, p ∈ Lv') (hR : ∀ p ∈ Lr, p ∈ Lr') (hn : fof V' k ≠ []) : FOk Lv' Lr' (dput kf k v) V' := fun k' => by
  by_cases hk : k' = k
  · subst hk
    exact .inr ⟨v, l, by rw [show lk (dput kf k' v) k' = _ from dget_dput, if_pos rfl], hv, hn⟩
  · have e : lk (dput kf k v) k' = lk kf k' := by rw [show lk (dput kf k v) k' = _ from dget_dput, if_neg hk]
    rw [e, ho k' hk]
    rcases h k' with h | ⟨u, l', h1, h2, h3⟩
    · exact .inl h
    · exact .inr ⟨u, l', h1, h2.mono hL hR, h3⟩
theorem fok_del (h : FOk Lv Lr kf V) (ho : ∀ k', k' ≠ k → fof V' k' = fof V k') (hL : ∀ p ∈ Lv, p ∈ Lv') (hR : ∀ p ∈ Lr, p ∈ Lr') (hn : fof V' k = []) : FOk Lv' Lr' (ddel (dput kf k v) k) V' := fun k' => by
  by_cases hk : k' = k
  · subst hk
    exact .inl ⟨by rw [show lk (ddel (dput kf k' v) k') k' = _ from dget_ddel, if_pos rfl], hn⟩
  · have e : lk (ddel (dput kf k v) k) k' = lk kf k' := by rw [show lk (ddel (dput kf k v) k) k' = _ from dget_ddel, if_neg hk, dget_dput, if_neg hk]
    rw [e, ho k' hk]
    rcases h k' with h | ⟨u, l', h1, h2, h3⟩
    · exact .inl h
    · exact .inr ⟨u, l', h1, h2.mono hL hR, h3⟩
theorem lk_mem {kf : List (List UInt8 × Value)} {k : List UInt8} : k ∈ kf.map (·.1) ↔ lk kf k ≠ none := by
  have := lookup_none (kv := kf) (k := k)
  constructor
  · exact fun h he => this.1 he h
  · exact fun h => Classical.byContradiction fun hn => h (this.2 hn)
theorem fok_keys (h : FOk Lv Lr kf V) (hd : (kf.map (·.1)).Nodup) (hs : SrtN V) : (kf.map (·.1)).Perm (nms V) := by
  refine (List.perm_ext_iff_of_nodup hd ((nms_lt hs).imp fun h => slt_ne h)).2 fun k => ?_
  rw [lk_mem]
  rcases h k with ⟨h1, h2⟩ | ⟨u, l, h1, h2, h3⟩
  · rw [h1]
    constructor
    · exact fun h => (h rfl).elim
    · exact fun hk => (fof_some hk h2).elim
  · rw [h1]
    constructor
    · intro _
      exact Classical.byContradiction fun hn => h3 (fof_none hn)
    · intro _ he; cases he
/-- A file's slice, or none. -/
theorem fok_get (h : FOk Lv Lr kf V) (k : List UInt8) : ∃ v l, (∀ (B : World) (H : List Asrt), Rs B (spool vC Lv :: H) v vC l) ∧ l.map (·.1) = fof V k ∧ (∀ p ∈ l, (p.2.1, p.1.refs) ∈ Lr) ∧ (lk kf k = some v ∨ (lk kf k = none ∧ v = nil)) := by
  rcases h k with ⟨h1, h2⟩ | ⟨u, l, h1, h2, h3⟩
  · exact ⟨nil, [], fun _ _ => ⟨fun _ => .inl ⟨rfl, rfl, rfl⟩⟩, h2.symm, (fun p hp => by cases hp), .inr ⟨h1, rfl⟩⟩
  · exact ⟨u, l, fun B H => rs_pool h2.m H, h2.e, h2.r, .inl h1⟩
theorem E_dlkg {r : Nat} {kf : List (List UInt8 × Value)} {k : List UInt8} {v : Value} {H' : List Asrt} [ht : TakD H kL true r kf H'] (hv : lk kf k = some v ∨ (lk kf k = none ∧ v = nil)) (h : E B (dct kL true r kf :: H') (K v)) : E B H (S.lk .string nil false (.map (some r)) (str k) K) := by
  rcases hv with hv | ⟨hv, rfl⟩
  · exact E_dlk1 (κ := List UInt8) hv h
  · exact E_dlk0 (κ := List UInt8) hv h
/-- Swept as far as one name goes. -/
def swN (S : List Sn) (V : List Ver) (k : List UInt8) : List Ver := V.filter fun v => decide (v.name ≠ k) || keepP S v
theorem fof_swN (S : List Sn) (V : List Ver) (k k' : List UInt8) : fof (swN S V k) k' = if k' = k then (fof V k').filter (keepP S) else fof V k' := by
  unfold swN
  rw [fof_filter]
  split
  · rename_i h
    refine List.filter_congr fun v hv => ?_
    rw [(fof_mem.1 hv).2]; simp [h]
  · rename_i h
    refine List.filter_eq_self.2 fun v hv => ?_
    rw [(fof_mem.1 hv).2]; simp [h]
attribute [local irreducible] S.pick S.ld S.ldN S.st S.box S.nc S.fad S.ixS S.ixA S.chr S.prt S.ext S.bin S.sh S.sbin S.beq S.neg1 S.com1 S.not1 S.cvt S.str1 S.lenS S.len S.cap S.lenM S.mx S.mn S.mkM S.cond S.gd S.fa S.dr S.rck S.join S.loop S.cvv S.eqv S.slc S.slcS S.b2s S.lk V U CF Gives E cel mpb osl ros dct dit itr lpo dfo
set_option maxRecDepth 8000
attribute [local irreducible] bk
theorem order (hs : SrtN M.V) (hn : M.V.length ≤ 1000000) (h : ∀ v [CellI v], E B (sls cS 9 1 v (nms M.V) :: bk a M :: H) (K v)) : E B (bk a M :: H) (CF Tryz.prog 49 [ptr a] K) := by
  refine E_mono (W := s49 _ K) ?_ fun _ => c49
  unfold s49
  refine E_peq u_pBook ?_
  refine E_ff ?_
  refine E_bk fun r1 r2 kf ks Lv Lr Lh hf hs' => ?_
  refine fd (a := dct kL true r1 kf) (E_dnod fun hnod => ?_)
  have hperm := fok_keys hf hnod hs
  have hnl := nms_len M.V
  have hlen : kf.length ≤ 1000000 := by
    have h1 := hperm.length_eq
    simp at h1; omega
  (repeat first | refine gS ?_ | refine gA fun _ => ?_ | refine gX fun _ _ => ?_ | refine gT ?_ | refine gF ?_ | refine gI ?_)
  refine sortedNames (by omega) fun sv zs _ hz => ?_
  rw [sortS_eq (hz.trans hperm) (nms_lt hs)]
  refine sm (G := cel true a 81 [.map (some r1), .map (some r2), I M.now] :: dct kL true r1 kf :: dct kL true r2 ks :: spool vC Lv :: spool rfC Lr :: spool hC Lh :: sls cS 9 1 sv (nms M.V) :: H) ?_
  refine E_bkS r1 r2 hf hs' rfl ?_
  exact sm (h sv)
theorem order_nil (h : E B H (K nil)) : E B H (CF Tryz.prog 49 [.pointer none] K) := by
  refine E_mono (W := s49 _ K) ?_ fun _ => c49
  unfold s49
  refine E_peq0 u_pBook ?_
  refine E_tt ?_
  exact h
theorem sweep {k : List UInt8} (hS : SU M.S) (hl : ∀ s ∈ M.S, s.held.length ≤ 140737488355328) (hn : (fof M.V k).length ≤ 1000000)
    (h : E B (bk a { M with V := swN M.S M.V k } :: H) (K (.tuple #[]))) : E B (bk a M :: H) (CF Tryz.prog 58 [ptr a, str k] K) := by
  refine E_mono (W := s58 _ _ K) ?_ fun _ => c58
  unfold s58
  refine E_box (vs := [ptr a]) fun bm => ?_
  refine E_box (vs := [str k]) fun bn => ?_
  refine fd (a := bk a M) (E_bk fun r1 r2 kf ks Lv Lr Lh hf hs => ?_)
  obtain ⟨v, l, hrv, hle, hlr, hlk⟩ := fok_get hf k
  have i1 := hrv B
  have hll : l.length = (fof M.V k).length := by rw [← hle, List.length_map]
  (repeat first | refine gS ?_ | refine gA fun _ => ?_ | refine gX fun _ _ => ?_ | refine gT ?_ | refine gF ?_ | refine gI ?_)
  refine E_dlkg hlk ?_
  refine cloneV (v := v) (by omega) fun u _ => ?_
  refine fd (a := spool rfC Lr) (pool_dup ?_)
  refine sm (G := cel true a 81 [.map (some r1), .map (some r2), I M.now] :: dct kL true r1 kf :: dct kL true r2 ks :: spool vC Lv :: spool rfC Lr :: spool hC Lh :: cel true bn 9 [str k] :: cel true bm 23 [ptr a] :: sls vC 31 4 u l :: spool rfC Lr :: H) ?_
  refine E_bkS r1 r2 hf hs rfl ?_
  refine E_same (G := [bk a M, cel true bn 9 [str k], cel true bm 23 [ptr a]] ++ (sls vC 31 4 u l :: spool rfC Lr :: H)) (by repeat (first | exact Same.refl | (refine Same.cons (by repeat (first | exact Find.here | apply Find.there)) ?_) | (refine Same.drop ?_))) ?_
  refine E_all' ?_
  refine fd (a := sls vC 31 4 u l) ?_
  refine deleteFunc (p := fun p => !keepP M.S p.1) (by omega) (fun p hp H' K' hK => ?_) fun u' _ => ?_
  · refine E_cvv (by kernel_rfl) ?_
    show E B _ (CF Tryz.prog 99 [.agg (vC p).toArray, ptr bm, ptr bn] K')
    refine E_mono (W := s99 _ _ _ K') ?_ fun _ => c99
    unfold s99
    rw [List.singleton_append]
    refine E_all ?_
    show E B (bk a M :: cel true bn 9 [str k] :: cel true bm 23 [ptr a] :: H') _
    have hpn : p.1.name = k := by
      have : p.1 ∈ fof M.V k := by rw [← hle]; exact List.mem_map_of_mem hp
      exact (fof_mem.1 this).2
    have hfin : ∀ b : Bool, (!keepP M.S p.1) = b → E B (bk a M :: cel true bn 9 [str k] :: cel true bm 23 [ptr a] :: H') (K' (.bool b)) := fun b hb => by
      rw [← hb]
      rw [List.singleton_append] at hK
      have := E_all' hK
      exact E_same (by repeat (first | exact Same.refl | (refine Same.cons (by repeat (first | exact Find.here | apply Find.there)) ?_) | (refine Same.drop ?_))) this
    (repeat first | refine gS ?_ | refine gA fun _ => ?_ | refine gX fun _ _ => ?_ | refine gT ?_ | refine gF ?_ | refine gI ?_)
    cases hgo : p.1.gone with
    | false =>
      (repeat first | refine gS ?_ | refine gA fun _ => ?_ | refine gX fun _ _ => ?_ | refine gT ?_ | refine gF ?_ | refine gI ?_)
      exact sm (hfin false (by simp [keepP, hgo]))
    | true =>
      (repeat first | refine gS ?_ | refine gA fun _ => ?_ | refine gX fun _ _ => ?_ | refine gT ?_ | refine gF ?_ | refine gI ?_)
      refine E_build (l := [str k, I p.1.gen]) str_held ?_
      (repeat first | refine gS ?_ | refine gA fun _ => ?_ | refine gX fun _ _ => ?_ | refine gT ?_ | refine gF ?_ | refine gI ?_)
      refine fd (a := bk a M) (held hS hl ?_)
      refine E_gtf ?_
      refine E_notb ?_
      refine E_ptt ?_
      refine sm (hfin _ ?_)
      simp [keepP, hgo, hpn]
  have hfl : l.filter (fun p => !!keepP M.S p.1) = l.filter (fun p => keepP M.S p.1) := List.filter_congr fun p _ => by simp
  rw [hfl]
  have hmf : (l.filter (fun p => keepP M.S p.1)).map (·.1) = fof (swN M.S M.V k) k := by
    rw [fof_swN, if_pos rfl, ← hle, List.filter_map]; rfl
  have hlen' : (l.filter (fun p => keepP M.S p.1)).length = (fof (swN M.S M.V k) k).length := by rw [← hmf, List.length_map]
  have ho : ∀ k', k' ≠ k → fof (swN M.S M.V k) k' = fof M.V k' := fun k' hk' => by rw [fof_swN, if_neg hk']
  clear hf hs hlk i1 hrv
  refine fd (a := all [bk a M, cel true bn 9 [str k], cel true bm 23 [ptr a]]) (E_all ?_)
  show E B (bk a M :: cel true bn 9 [str k] :: cel true bm 23 [ptr a] :: sls vC 31 4 u' (l.filter (fun p => keepP M.S p.1)) :: spool rfC Lr :: H) _
  have hrf : ∀ p ∈ l.filter (fun p => keepP M.S p.1), (p.2.1, p.1.refs) ∈ Lr := fun p hp => hlr p (List.mem_filter.1 hp).1
  generalize l.filter (fun p => keepP M.S p.1) = l2 at hmf hlen' hrf ⊢
  rename List (Value × List Rf) => Lr0
  refine E_bk fun r1 r2 kf ks Lv Lr Lh hf hs => ?_
  (repeat first | refine gS ?_ | refine gA fun _ => ?_ | refine gX fun _ _ => ?_ | refine gT ?_ | refine gF ?_ | refine gI ?_)
  refine E_dmu (κ := List UInt8) key_files ?_
  (repeat first | refine gS ?_ | refine gA fun _ => ?_ | refine gX fun _ _ => ?_ | refine gT ?_ | refine gF ?_ | refine gI ?_)
  refine sm (G := spool rfC Lr0 :: spool rfC Lr :: sls vC 31 4 u' l2 :: spool vC Lv :: cel true a 81 [.map (some r1), .map (some r2), I M.now] :: dct kL true r1 (dput kf k u') :: dct kL true r2 ks :: spool hC Lh :: cel true bm 23 [ptr a] :: cel true bn 9 [str k] :: H) ?_
  refine pool_join ?_
  have hR : ∀ p ∈ Lr, p ∈ Lr0 ++ Lr := fun p hp => List.mem_append_right _ hp
  by_cases h0 : (l2.length : Int) = 0
  · (repeat first | refine gS ?_ | refine gA fun _ => ?_ | refine gX fun _ _ => ?_ | refine gT ?_ | refine gF ?_ | refine gI ?_)
    refine E_ddel (κ := List UInt8) rfl key_files ?_
    refine sm (G := cel true a 81 [.map (some r1), .map (some r2), I M.now] :: dct kL true r1 (ddel (dput kf k u') k) :: dct kL true r2 ks :: spool vC Lv :: spool rfC (Lr0 ++ Lr) :: spool hC Lh :: H) ?_
    refine E_bkS (M := { M with V := swN M.S M.V k }) r1 r2 (fok_del hf ho (fun _ h => h) hR (show fof (swN M.S M.V k) k = [] from List.length_eq_zero_iff.1 (by omega))) hs rfl ?_
    exact h
  · (repeat first | refine gS ?_ | refine gA fun _ => ?_ | refine gX fun _ _ => ?_ | refine gT ?_ | refine gF ?_ | refine gI ?_)
    refine fd (a := spool vC Lv) ?_
    refine fd (a := sls vC 31 4 u' l2) ?_
    refine E_give ?_
    refine sm (G := cel true a 81 [.map (some r1), .map (some r2), I M.now] :: dct kL true r1 (dput kf k u') :: dct kL true r2 ks :: spool vC ((u', l2) :: Lv) :: spool rfC (Lr0 ++ Lr) :: spool hC Lh :: H) ?_
    refine E_bkS (M := { M with V := swN M.S M.V k }) r1 r2 (fok_put hf ho ⟨by simp, hmf, fun p hp => List.mem_append_left _ (hrf p hp)⟩ (fun _ h => List.mem_cons_of_mem _ h) hR (by intro e; rw [e] at hlen'; simp at hlen'; rw [hlen'] at h0; simp at h0)) hs rfl ?_
    exact h
end Go.Proofs.YtjafpncngmbcdaaGreat.Nam
