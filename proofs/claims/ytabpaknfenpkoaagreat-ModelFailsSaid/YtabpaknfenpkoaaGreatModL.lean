/-
  Model: Snap, Unsnap.
-/
import Derived.Test.YtabpaknfenpkoaaGreatModJ
set_option linter.unusedSimpArgs false
set_option linter.unusedVariables false
set_option linter.unusedSectionVars false
namespace Go.Proofs.YtabpaknfenpkoaaGreat.Mod
open Go Go.SL Go.Proofs Go.Proofs.YtabpaknfenpkoaaGreat.Sh
variable {B : World} {H : List Asrt} {K : Value → WT} {W : WT}
variable {a : Nat} {M : Mo} {o : Od} {bv kv : Value} {t u : Int}
theorem sof_filter (S : List Sn) (n k : List UInt8) : sof (S.filter fun s => decide (s.name ≠ n)) k = if k = n then none else sof S k := by
  induction S with
  | nil => simp [sof]
  | cons c t ih =>
    rw [List.filter_cons]
    by_cases hc : c.name = n
    · simp only [hc, ne_eq, not_true, decide_false, Bool.false_eq_true, if_false]
      rw [ih]
      split
      · rfl
      · rename_i hk
        unfold sof
        rw [List.find?_cons]
        have : ¬ c.name = k := fun e => hk (e.symm.trans hc)
        simp [this]
    · simp only [hc, ne_eq, not_false_iff, decide_true, if_true]
      unfold sof at ih ⊢
      rw [List.find?_cons, ih, List.find?_cons]
      by_cases hk : c.name = k
      · have : ¬ k = n := fun e => hc (hk.trans e)
        simp [hk, this]
      · simp [hk]
theorem sok_del {Lh : List (Nat × List (List UInt8 × Value))} {ks : List (List UInt8 × Value)} {S : List Sn} {n : List UInt8} (h : SOk Lh ks S) : SOk Lh (ddel ks n) (S.filter fun s => decide (s.name ≠ n)) := fun k => by
  rw [show lk (ddel ks n) k = _ from dget_ddel, sof_filter]
  by_cases hk : k = n
  · rw [if_pos hk, if_pos hk]; exact .inl ⟨rfl, rfl⟩
  · rw [if_neg hk, if_neg hk]; exact h k
theorem sof_ins {A C : List Sn} {s : Sn} (hn : sof (A ++ C) s.name = none) (k : List UInt8) : sof (A ++ s :: C) k = if k = s.name then some s else sof (A ++ C) k := by
  unfold sof at hn ⊢
  rw [List.find?_append] at hn
  rw [List.find?_append, List.find?_cons]
  by_cases hk : k = s.name
  · subst hk
    rw [if_pos rfl]
    cases hA : A.find? (fun t => decide (t.name = s.name)) with
    | none => simp
    | some t => rw [hA] at hn; cases hn
  · rw [if_neg hk, List.find?_append]
    have : ¬ s.name = k := fun e => hk e.symm
    simp [this]
theorem sof_insS {S : List Sn} {s : Sn} (hn : sof S s.name = none) (k : List UInt8) : sof (insS S s) k = if k = s.name then some s else sof S k := by
  have e : S.takeWhile (fun u => decide (u.name < s.name)) ++ S.dropWhile (fun u => decide (u.name < s.name)) = S := List.takeWhile_append_dropWhile ..
  have := sof_ins (A := S.takeWhile (fun u => decide (u.name < s.name))) (C := S.dropWhile (fun u => decide (u.name < s.name))) (s := s) (by rw [e]; exact hn) k
  rw [e] at this
  exact this
theorem sok_put {Lh : List (Nat × List (List UInt8 × Value))} {ks : List (List UInt8 × Value)} {S : List Sn} {s : Sn} {r : Nat} {kv : List (List UInt8 × Value)} (h : SOk Lh ks S) (hn : sof S s.name = none) (hk : ∀ n, lk kv n = (lk s.held n).map kI) : SOk ((r, kv) :: Lh) (dput ks s.name (.map (some r))) (insS S s) := fun k => by
  rw [show lk (dput ks s.name _) k = _ from dget_dput, sof_insS hn]
  by_cases hkk : k = s.name
  · rw [if_pos hkk, if_pos hkk]
    exact .inr ⟨r, kv, s, rfl, by simp, rfl, hk⟩
  · rw [if_neg hkk, if_neg hkk]
    rcases h k with h | ⟨r', kv', s', h1, h2, h3, h4⟩
    · exact .inl h
    · exact .inr ⟨r', kv', s', h1, List.mem_cons_of_mem _ h2, h3, h4⟩
theorem lk_cons {κ β : Type} [DecidableEq κ] {k' : κ} {v' : β} {t : List (κ × β)} (q : κ) : lk ((k', v') :: t) q = if q = k' then some v' else lk t q := by
  show List.lookup q ((k', v') :: t) = _
  rw [List.lookup_cons]
  by_cases h : q = k'
  · subst h; simp
  · have hb : (q == k') = false := by simpa using h
    rw [hb, if_neg h]
theorem lk_snoc {β : Type} {l : List (List UInt8 × β)} {k : List UInt8} {v : β} (hn : lk l k = none) (n : List UInt8) : lk (l ++ [(k, v)]) n = if n = k then some v else lk l n := by
  induction l with
  | nil => rw [List.nil_append, lk_cons]
  | cons p t ih =>
    obtain ⟨k', v'⟩ := p
    rw [lk_cons] at hn
    rw [List.cons_append, lk_cons, lk_cons]
    by_cases hk : k = k'
    · rw [if_pos hk] at hn; cases hn
    · rw [if_neg hk] at hn
      rw [ih hn]
      by_cases h1 : n = k'
      · have : ¬ n = k := fun h => hk (h.symm.trans h1)
        rw [if_pos h1, if_neg this, if_pos h1]
      · rw [if_neg h1, if_neg h1]
theorem names_nodup {V : List Ver} (h : SrtN V) : ((namesV V).map (·.1)).Nodup := by
  have hs : ((namesV V).map (·.1)).Sublist (nms V) := by
    unfold namesV
    generalize nms V = l
    induction l with
    | nil => exact List.Sublist.slnil
    | cons k t ih =>
      rw [List.filterMap_cons]
      cases liveV V k 0 with
      | none => exact ih.cons k
      | some v => exact ih.cons_cons k
  exact ((nms_lt h).imp fun h => slt_ne h : (nms V).Pairwise (· ≠ ·)).sublist hs
theorem names_len (V : List Ver) : (namesV V).length ≤ (nms V).length := List.length_filterMap_le _ _
attribute [local irreducible] S.pick S.ld S.ldN S.st S.box S.nc S.fad S.ixS S.ixA S.chr S.prt S.ext S.bin S.sh S.sbin S.beq S.neg1 S.com1 S.not1 S.cvt S.str1 S.lenS S.len S.cap S.lenM S.mx S.mn S.mkM S.cond S.gd S.fa S.dr S.rck S.join S.loop S.cvv S.eqv S.slc S.slcS S.b2s S.lk V U CF Gives E cel mpb osl ros dct dit itr lpo dfo
set_option maxRecDepth 4000
attribute [local irreducible] mo ansH
theorem unsnapF [CellI bv] [CellI kv] (hw : Wf M) (hn : o.shot.length ≤ 140737488355328) (h : ∀ rv, E B (ansH (unsnapM M o).1 rv :: mo a (unsnapM M o).2 :: H) (K rv)) : E B (mo a M :: H) (CF Tryz.prog 47 [ptr a, opV o bv kv t u] K) := by
  refine E_mono (W := s47 _ _ K) ?_ fun _ => c47
  unfold s47
  unfold unsnapM at h
  (repeat first | refine gS ?_ | refine gA fun _ => ?_ | refine gX fun _ _ => ?_ | refine gT ?_ | refine gF ?_ | refine gI ?_)
  rename_i bo br
  refine fd (a := mo a M) (E_mo fun r1 r2 r3 kf ks ko Lv Lh hf hs ho => ?_)
  (repeat first | refine gS ?_ | refine gA fun _ => ?_ | refine gX fun _ _ => ?_ | refine gT ?_ | refine gF ?_ | refine gI ?_)
  have hnot : ∀ (A : Ans) (e : Int), A = errA e → (∀ rv, E B (ansH A rv :: mo a M :: H) (K rv)) → E B (cel true a 82 [.map (some r1), .map (some r2), .map (some r3), I M.began, I M.now, I M.quota] :: dct kL true r1 kf :: dct kL true r2 ks :: dct kI true r3 ko :: spool vC Lv :: dpool kL Lh :: cel true br 33 [I 0, I 0, nil, nil] :: cel true bo 42 (opL o bv kv t u) :: H)
      (CF Tryz.prog 39 [I e] fun v35 => S.st 4 (ptr br) v35 fun _ => S.ldN 4 (ptr br) fun v => K v) := fun A e hA hh => by
    subst hA
    refine wrong ?_
    (repeat first | refine gS ?_ | refine gA fun _ => ?_ | refine gX fun _ _ => ?_ | refine gT ?_ | refine gF ?_ | refine gI ?_)
    refine sm (G := cel true a 82 [.map (some r1), .map (some r2), .map (some r3), I M.began, I M.now, I M.quota] :: dct kL true r1 kf :: dct kL true r2 ks :: dct kI true r3 ko :: spool vC Lv :: dpool kL Lh :: H) ?_
    refine E_moS (M := M) r1 r2 r3 hf hs ho rfl rfl rfl ?_
    exact ansE (A := errA e) rfl rfl hh
  have hyes : (sof M.S o.shot).isSome = true → nameOk o.shot = true → E B (cel true a 82 [.map (some r1), .map (some r2), .map (some r3), I M.began, I M.now, I M.quota] :: dct kL true r1 kf :: dct kL true r2 ks :: dct kI true r3 ko :: spool vC Lv :: dpool kL Lh :: cel true br 33 [I 0, I 0, nil, nil] :: cel true bo 42 (opL o bv kv t u) :: H) (S.dr <|
      S.nc (ptr a) fun v28 =>
      S.fad v28 1 fun v29 =>
      S.ld v29 fun v30 =>
      S.fad (ptr bo) 3 fun v31 =>
      S.ld v31 fun v32 =>
      V Tryz.prog (Builtin.delete_ #[79, 9] 0 #[v30, v32]) fun _ =>
      CF Tryz.prog 78 [ptr a] fun v34 =>
      V Tryz.prog (Instr.build 33 #[]) fun v35 =>
      S.st 4 (ptr br) v35 fun _ =>
      S.ldN 4 (ptr br) fun v4'3 =>
      K v4'3) := fun hi hk => by
    rw [if_neg (by simp [hk]), if_neg (by simp [hi])] at h
    (repeat first | refine gS ?_ | refine gA fun _ => ?_ | refine gX fun _ _ => ?_ | refine gT ?_ | refine gF ?_ | refine gI ?_)
    refine E_ddel (κ := List UInt8) rfl key_shots ?_
    refine sm (G := cel true a 82 [.map (some r1), .map (some r2), .map (some r3), I M.began, I M.now, I M.quota] :: dct kL true r1 kf :: dct kL true r2 (ddel ks o.shot) :: dct kI true r3 ko :: spool vC Lv :: dpool kL Lh :: cel true br 33 [I 0, I 0, nil, nil] :: H) ?_
    refine E_moS (M := { M with S := M.S.filter fun s => decide (s.name ≠ o.shot) }) r1 r2 r3 hf (sok_del hs) ho rfl rfl rfl ?_
    have hss : (M.S.filter fun s => decide (s.name ≠ o.shot)).Pairwise fun a b => a.name < b.name := hw.ss.sublist List.filter_sublist
    refine sweep (M := { M with S := M.S.filter fun s => decide (s.name ≠ o.shot) }) (fun _ hs => sof_of hss hs) (fun v hv => (hw.g v hv).1) hw.v.n hw.n ?_
    refine E_build (l := [I 0, I 0, nil, nil]) str_ans ?_
    (repeat first | refine gS ?_ | refine gA fun _ => ?_ | refine gX fun _ _ => ?_ | refine gT ?_ | refine gF ?_ | refine gI ?_)
    exact sm (ansE (A := okA) rfl rfl h)
  have hrest : ∀ b : Bool, (sof M.S o.shot).isSome = b → E B (cel true a 82 [.map (some r1), .map (some r2), .map (some r3), I M.began, I M.now, I M.quota] :: dct kL true r1 kf :: dct kL true r2 ks :: dct kI true r3 ko :: spool vC Lv :: dpool kL Lh :: cel true br 33 [I 0, I 0, nil, nil] :: cel true bo 42 (opL o bv kv t u) :: H) (S.fad (ptr bo) 3 fun v18 =>
      S.ld v18 fun v19 =>
      CF Tryz.prog 69 [v19] fun v20 =>
      S.not1 v20 fun v21 =>
      S.cond v21 (
        CF Tryz.prog 39 [(I 2)] fun v22 =>
        S.st 4 (ptr br) v22 fun _ =>
        S.ldN 4 (ptr br) fun v4' =>
        K v4') (
        S.not1 (.bool b) fun v25 =>
        S.cond v25 (
          CF Tryz.prog 39 [(I 9)] fun v26 =>
          S.st 4 (ptr br) v26 fun _ =>
          S.ldN 4 (ptr br) fun v4'2 =>
          K v4'2) (S.dr <|
      S.nc (ptr a) fun v28 =>
      S.fad v28 1 fun v29 =>
      S.ld v29 fun v30 =>
      S.fad (ptr bo) 3 fun v31 =>
      S.ld v31 fun v32 =>
      V Tryz.prog (Builtin.delete_ #[79, 9] 0 #[v30, v32]) fun _ =>
      CF Tryz.prog 78 [ptr a] fun v34 =>
      V Tryz.prog (Instr.build 33 #[]) fun v35 =>
      S.st 4 (ptr br) v35 fun _ =>
      S.ldN 4 (ptr br) fun v4'3 =>
      K v4'3))) := fun b hb => by
    (repeat first | refine gS ?_ | refine gA fun _ => ?_ | refine gX fun _ _ => ?_ | refine gT ?_ | refine gF ?_ | refine gI ?_)
    refine recName (by omega) ?_
    cases hk : nameOk o.shot with
    | false =>
      rw [if_pos hk] at h
      (repeat first | refine gS ?_ | refine gA fun _ => ?_ | refine gX fun _ _ => ?_ | refine gT ?_ | refine gF ?_ | refine gI ?_)
      exact hnot _ 2 rfl h
    | true =>
      cases b with
      | false =>
        rw [if_neg (by simp [hk]), if_pos hb] at h
        refine goS ?_
        refine E_ff ?_
        refine goS ?_
        refine E_tt ?_
        exact hnot _ 9 rfl h
      | true =>
        refine goS ?_
        refine E_ff ?_
        refine goS ?_
        refine E_ff ?_
        exact hyes hb hk
  rcases hs o.shot with ⟨h1, h2⟩ | ⟨r, kvs, s, h1, h2, h3, h4⟩
  · refine E_dlk0 (κ := List UInt8) h1 ?_
    refine goS ?_
    refine goS ?_
    exact sm (hrest false (by rw [h2]; rfl))
  · refine E_dlk1 (κ := List UInt8) h1 ?_
    refine goS ?_
    refine goS ?_
    exact sm (hrest true (by rw [h3]; rfl))
theorem snapF [CellI bv] [CellI kv] {sp : Bool} (hw : Wf M) (hn : o.shot.length ≤ 140737488355328) (h : ∀ rv, E B (ansH (snapM M o sp).1 rv :: mo a (snapM M o sp).2 :: H) (K rv)) : E B (mo a M :: H) (CF Tryz.prog 46 [ptr a, opV o bv kv t u, .bool sp] K) := by
  refine E_mono (W := s46 _ _ _ K) ?_ fun _ => c46
  unfold s46
  unfold snapM at h
  (repeat first | refine gS ?_ | refine gA fun _ => ?_ | refine gX fun _ _ => ?_ | refine gT ?_ | refine gF ?_ | refine gI ?_)
  rename_i bo br
  refine fd (a := mo a M) (E_mo fun r1 r2 r3 kf ks ko Lv Lh hf hs ho => ?_)
  (repeat first | refine gS ?_ | refine gA fun _ => ?_ | refine gX fun _ _ => ?_ | refine gT ?_ | refine gF ?_ | refine gI ?_)
  have hnot : ∀ (A : Ans) (e : Int), A = errA e → (∀ rv, E B (ansH A rv :: mo a M :: H) (K rv)) → E B (cel true a 82 [.map (some r1), .map (some r2), .map (some r3), I M.began, I M.now, I M.quota] :: dct kL true r1 kf :: dct kL true r2 ks :: dct kI true r3 ko :: spool vC Lv :: dpool kL Lh :: cel true br 33 [I 0, I 0, nil, nil] :: cel true bo 42 (opL o bv kv t u) :: H)
      (CF Tryz.prog 39 [I e] fun v35 => S.st 4 (ptr br) v35 fun _ => S.ldN 4 (ptr br) fun v => K v) := fun A e hA hh => by
    subst hA
    refine wrong ?_
    (repeat first | refine gS ?_ | refine gA fun _ => ?_ | refine gX fun _ _ => ?_ | refine gT ?_ | refine gF ?_ | refine gI ?_)
    refine sm (G := cel true a 82 [.map (some r1), .map (some r2), .map (some r3), I M.began, I M.now, I M.quota] :: dct kL true r1 kf :: dct kL true r2 ks :: dct kI true r3 ko :: spool vC Lv :: dpool kL Lh :: H) ?_
    refine E_moS (M := M) r1 r2 r3 hf hs ho rfl rfl rfl ?_
    exact ansE (A := errA e) rfl rfl hh
  rcases hs o.shot with ⟨h1, h2⟩ | ⟨r, kvs, s, h1, h2, h3, h4⟩
  · refine E_dlk0 (κ := List UInt8) h1 ?_
    (repeat first | refine gS ?_ | refine gA fun _ => ?_ | refine gX fun _ _ => ?_ | refine gT ?_ | refine gF ?_ | refine gI ?_)
    refine recName (by omega) ?_
    cases hk : nameOk o.shot with
    | false =>
      rw [if_pos hk] at h
      (repeat first | refine gS ?_ | refine gA fun _ => ?_ | refine gX fun _ _ => ?_ | refine gT ?_ | refine gF ?_ | refine gI ?_)
      exact sm (hnot _ 2 rfl h)
    | true =>
      rw [if_neg (by simp [hk]), if_neg (by simp [h2])] at h
      refine goS ?_
      refine E_ff ?_
      refine E_ff ?_
      (repeat first | refine gS ?_ | refine gA fun _ => ?_ | refine gX fun _ _ => ?_ | refine gT ?_ | refine gF ?_ | refine gI ?_)
      refine fd (a := dct kL true r2 ks) (E_dnod fun hnod => ?_)
      have hlen := sok_keys hs hnod hw.ss
      refine E_dlen (κ := List UInt8) ?_
      rw [hlen]
      (repeat first | refine gS ?_ | refine gA fun _ => ?_ | refine gX fun _ _ => ?_ | refine gT ?_ | refine gF ?_ | refine gI ?_)
      refine E_if (fun hc => ?_) (fun hc => ?_)
      · rw [if_pos (by omega)] at h
        exact sm (hnot _ 6 rfl h)
      · rw [if_neg (by omega)] at h
        cases sp with
        | true =>
          rw [if_pos rfl] at h
          refine E_tt ?_
          exact sm (hnot _ 8 rfl h)
        | false =>
          rw [if_neg (by decide)] at h
          refine E_ff ?_
          refine E_mkM fun rm => ?_
          refine E_dnew (enc := kL) ?_
          refine sm (G := cel true a 82 [.map (some r1), .map (some r2), .map (some r3), I M.began, I M.now, I M.quota] :: dct kL true r1 kf :: dct kL true r2 ks :: dct kI true r3 ko :: spool vC Lv :: dpool kL Lh :: dct kL true rm [] :: cel true br 33 [I 0, I 0, nil, nil] :: cel true bo 42 (opL o bv kv t u) :: H) ?_
          refine E_moS (M := M) r1 r2 r3 hf hs ho rfl rfl rfl ?_
          refine names hw fun nv _ => ?_
          (repeat first | refine gS ?_ | refine gA fun _ => ?_ | refine gX fun _ _ => ?_ | refine gT ?_ | refine gF ?_ | refine gI ?_)
          have hnl := names_len M.V
          have hnm := nms_len M.V
          have hMn := hw.n
          have hnd := names_nodup hw.v.n
          refine E_loop (σ := Nat × List (List UInt8 × Value)) (fun s => s.1 ≤ (namesV M.V).length ∧ ∀ n, lk s.2 n = (lk ((namesV M.V).take s.1) n).map kI)
            (fun s => [ptr a, ptr bo, ptr br, .map (some rm), nv, I (namesV M.V).length, I s.1])
            (fun s => sls hC 106 2 nv (namesV M.V) :: dct kL true rm s.2 :: mo a M :: cel true br 33 [I 0, I 0, nil, nil] :: cel true bo 42 (opL o bv kv t u) :: H) (fun s => (namesV M.V).length - s.1) (0, []) (fun _ => rfl) rfl ⟨Nat.zero_le _, fun n => by simp [lk]⟩ (fun W hW => sm hW) ?_
          rintro ⟨i, kvm⟩ K0 ⟨hi, hkv⟩ hk0
          simp only at hi hkv hk0 ⊢
          refine E_fa fun _ => ?_
          (repeat first | refine gS ?_ | refine gA fun _ => ?_ | refine gX fun _ _ => ?_ | refine gT ?_ | refine gF ?_ | refine gI ?_)
          refine E_if (fun hc => ?_) (fun hc => ?_)
          · have hx : (namesV M.V)[i]? = some (namesV M.V)[i] := List.getElem?_eq_getElem (by omega)
            generalize (namesV M.V)[i] = x at hx
            obtain ⟨k, g⟩ := x
            (repeat first | refine gS ?_ | refine gA fun _ => ?_ | refine gX fun _ _ => ?_ | refine gT ?_ | refine gF ?_ | refine gI ?_)
            unfold hC
            (repeat first | refine gS ?_ | refine gA fun _ => ?_ | refine gX fun _ _ => ?_ | refine gT ?_ | refine gF ?_ | refine gI ?_)
            refine E_dmu (κ := List UInt8) key_shot ?_
            refine E_addI (by omega) (by omega) ?_
            have hk' := hk0 (i + 1, dput kvm k (kI g)) ⟨by simp only; omega, fun n => by
              simp only
              have hlk : lk ((namesV M.V).take i) k = none := by
                cases hl : lk ((namesV M.V).take i) k with
                | none => rfl
                | some g' =>
                  have hm := lk_in hl
                  obtain ⟨j, hj, e⟩ := List.mem_take_iff_getElem.1 hm
                  obtain ⟨hil, hie⟩ := List.getElem?_eq_some_iff.1 hx
                  have hp : ((namesV M.V).map (·.1)).Pairwise (· ≠ ·) := hnd
                  rw [List.pairwise_map] at hp
                  have := List.pairwise_iff_getElem.1 hp j i (by omega) hil (by omega)
                  rw [e, hie] at this
                  exact (this rfl).elim
              rw [show lk (dput kvm k (kI g)) n = _ from dget_dput, List.take_add_one, hx]
              show _ = (lk ((namesV M.V).take i ++ [(k, g)]) n).map kI
              rw [lk_snoc hlk]
              split
              · rfl
              · exact hkv n⟩ (by simp only; omega)
            exact E_same (by repeat (first | exact Same.refl | (refine Same.cons (by repeat (first | exact Find.here | apply Find.there)) ?_) | (refine Same.drop ?_))) hk'
          · have hin : i = (namesV M.V).length := by omega
            subst hin
            rw [List.take_length] at hkv
            refine fd (a := mo a M) (E_mo fun r1 r2 r3 kf ks ko Lv Lh hf hs ho => ?_)
            (repeat first | refine gS ?_ | refine gA fun _ => ?_ | refine gX fun _ _ => ?_ | refine gT ?_ | refine gF ?_ | refine gI ?_)
            refine E_dmu (κ := List UInt8) key_shots ?_
            refine E_build (l := [I 0, I 0, nil, nil]) str_ans ?_
            (repeat first | refine gS ?_ | refine gA fun _ => ?_ | refine gX fun _ _ => ?_ | refine gT ?_ | refine gF ?_ | refine gI ?_)
            refine sm (G := dct kL true rm kvm :: dpool kL Lh :: cel true a 82 [.map (some r1), .map (some r2), .map (some r3), I M.began, I M.now, I M.quota] :: dct kL true r1 kf :: dct kL true r2 (dput ks o.shot (.map (some rm))) :: dct kI true r3 ko :: spool vC Lv :: H) ?_
            refine E_dgive ?_
            refine sm (G := cel true a 82 [.map (some r1), .map (some r2), .map (some r3), I M.began, I M.now, I M.quota] :: dct kL true r1 kf :: dct kL true r2 (dput ks o.shot (.map (some rm))) :: dct kI true r3 ko :: spool vC Lv :: dpool kL ((rm, kvm) :: Lh) :: H) ?_
            refine E_moS (M := { M with S := insS M.S ⟨o.shot, namesV M.V⟩ }) r1 r2 r3 hf (sok_put (s := ⟨o.shot, namesV M.V⟩) hs h2 hkv) ho rfl rfl rfl ?_
            exact ansE (A := okA) rfl rfl h
  · refine E_dlk1 (κ := List UInt8) h1 ?_
    (repeat first | refine gS ?_ | refine gA fun _ => ?_ | refine gX fun _ _ => ?_ | refine gT ?_ | refine gF ?_ | refine gI ?_)
    refine recName (by omega) ?_
    cases hk : nameOk o.shot with
    | false =>
      rw [if_pos hk] at h
      (repeat first | refine gS ?_ | refine gA fun _ => ?_ | refine gX fun _ _ => ?_ | refine gT ?_ | refine gF ?_ | refine gI ?_)
      exact sm (hnot _ 2 rfl h)
    | true =>
      rw [if_neg (by simp [hk]), if_pos (by simp [h3])] at h
      refine goS ?_
      refine E_ff ?_
      refine E_tt ?_
      exact sm (hnot _ 10 rfl h)
end Go.Proofs.YtabpaknfenpkoaaGreat.Mod
