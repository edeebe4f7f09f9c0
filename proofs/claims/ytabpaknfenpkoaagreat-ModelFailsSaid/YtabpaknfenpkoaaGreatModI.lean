/-
  Model: begin, write.
-/
import Derived.Test.YtabpaknfenpkoaaGreatModH
set_option linter.unusedSimpArgs false
set_option linter.unusedVariables false
set_option linter.unusedSectionVars false
namespace Go.Proofs.YtabpaknfenpkoaaGreat.Mod
open Go Go.SL Go.Proofs Go.Proofs.YtabpaknfenpkoaaGreat.Sh
variable {B : World} {H : List Asrt} {K : Value → WT} {W : WT}
variable {a : Nat} {M : Mo} {o : Od} {bv kv : Value} {t u : Int}
attribute [local irreducible] S.pick S.ld S.ldN S.st S.box S.nc S.fad S.ixS S.ixA S.chr S.prt S.ext S.bin S.sh S.sbin S.beq S.neg1 S.com1 S.not1 S.cvt S.str1 S.lenS S.len S.cap S.lenM S.mx S.mn S.mkM S.cond S.gd S.fa S.dr S.rck S.join S.loop S.cvv S.eqv S.slc S.slcS S.b2s S.lk V U CF Gives E cel mpb osl ros dct dit itr lpo dfo
set_option maxRecDepth 4000
attribute [local irreducible] mo ansH
theorem str_sess : Str Tryz.prog 88 [(0, 1), (1, 1)] [.string ⟨#[]⟩, .string ⟨#[]⟩] := str_of (zv := .agg #[.string ⟨#[]⟩, .string ⟨#[]⟩]) (by kernel_rfl) (by kernel_rfl) rfl
theorem str_ver : Str Tryz.prog 98 [(0, 1), (1, 1), (2, 1), (3, 1)] [I 0, I 0, .string ⟨#[]⟩, .bool false] := str_of (zv := .agg #[I 0, I 0, .string ⟨#[]⟩, .bool false]) (by kernel_rfl) (by kernel_rfl) rfl
theorem ook_add {ko : List (Int × Value)} {O : List Se} {s : Se} (h : OOk ko O) (hn : ∀ t ∈ O, t.n ≠ s.n) : OOk (dput ko s.n (sAgg s)) (O ++ [s]) := fun k => by
  have e : oof (O ++ [s]) k = if k = s.n then some s else oof O k := by
    unfold oof
    rw [List.find?_append]
    by_cases hk : k = s.n
    · subst hk
      have : O.find? (fun t => decide (t.n = s.n)) = none := List.find?_eq_none.2 fun t ht => by simpa using hn t ht
      rw [this]; simp
    · have : ¬ s.n = k := fun e => hk e.symm
      rw [if_neg hk]
      simp [this]
  rw [show lk (dput ko s.n (sAgg s)) k = _ from dget_dput, e]
  split
  · rfl
  · exact h k
theorem begin_ [CellI bv] [CellI kv] (hw : Wf M) (hn : o.name.length ≤ 140737488355328) (h : ∀ rv, E B (ansH (beginM M o).1 rv :: mo a (beginM M o).2 :: H) (K rv)) : E B (mo a M :: H) (CF Tryz.prog 40 [ptr a, opV o bv kv t u] K) := by
  refine E_mono (W := s40 _ _ K) ?_ fun _ => c40
  unfold s40
  unfold beginM at h
  (repeat first | refine gS ?_ | refine gA fun _ => ?_ | refine gX fun _ _ => ?_ | refine gT ?_ | refine gF ?_ | refine gI ?_)
  rename_i bo br
  refine recName (by omega) ?_
  have hb := hw.b
  cases hnm : nameOk o.name with
  | false =>
    rw [if_pos hnm] at h
    (repeat first | refine gS ?_ | refine gA fun _ => ?_ | refine gX fun _ _ => ?_ | refine gT ?_ | refine gF ?_ | refine gI ?_)
    refine wrong ?_
    (repeat first | refine gS ?_ | refine gA fun _ => ?_ | refine gX fun _ _ => ?_ | refine gT ?_ | refine gF ?_ | refine gI ?_)
    exact sm (ansE (A := errA 2) rfl rfl h)
  | true =>
    rw [if_neg (by simp [hnm])] at h
    (repeat first | refine gS ?_ | refine gA fun _ => ?_ | refine gX fun _ _ => ?_ | refine gT ?_ | refine gF ?_ | refine gI ?_)
    refine fd (a := mo a M) (E_mo fun r1 r2 r3 kf ks ko Lv Lh hf hs ho => ?_)
    refine fd (a := dct kI true r3 ko) (E_dnod fun hnod3 => ?_)
    have hlen : ko.length = M.O.length := by have := (ook_perm ho hnod3 hw.o).length_eq; simpa using this
    (repeat first | refine gS ?_ | refine gA fun _ => ?_ | refine gX fun _ _ => ?_ | refine gT ?_ | refine gF ?_ | refine gI ?_)
    refine E_dlen (κ := Int) ?_
    rw [hlen]
    (repeat first | refine gS ?_ | refine gA fun _ => ?_ | refine gX fun _ _ => ?_ | refine gT ?_ | refine gF ?_ | refine gI ?_)
    refine E_if (fun hc => ?_) (fun hc => ?_)
    · rw [if_pos (by omega)] at h
      refine wrong ?_
      (repeat first | refine gS ?_ | refine gA fun _ => ?_ | refine gX fun _ _ => ?_ | refine gT ?_ | refine gF ?_ | refine gI ?_)
      refine sm (G := cel true a 82 [.map (some r1), .map (some r2), .map (some r3), I M.began, I M.now, I M.quota] :: dct kL true r1 kf :: dct kL true r2 ks :: dct kI true r3 ko :: spool vC Lv :: dpool kL Lh :: H) ?_
      refine E_moS (M := M) r1 r2 r3 hf hs ho rfl rfl rfl ?_
      exact ansE (A := errA 6) rfl rfl h
    · rw [if_neg (by omega)] at h
      (repeat first | refine gS ?_ | refine gA fun _ => ?_ | refine gX fun _ _ => ?_ | refine gT ?_ | refine gF ?_ | refine gI ?_)
      refine E_build (l := [str o.name, .string ⟨#[]⟩]) str_sess ?_
      (repeat (refine E_rck1 (by first | exact E_ld (E_fact rfl) | exact E_ld' (by assumption) (E_fact rfl) | exact E_b2sR (E_fact rfl) | exact E_gdnF (by assumption) (E_ld (E_fact rfl)) | exact E_gdT (by assumption) (E_ld (E_fact rfl)) | exact E_gtf (E_ld (E_fact rfl)) | exact E_gft (E_ld (E_fact rfl)) | exact E_ldNA (E_fact rfl) | exact E_ptld (E_fact rfl) | exact E_gtf (E_ldNA (E_fact rfl))) ?_)); (first | (refine E_rck0 ?_) | skip)
      refine E_dmu (κ := Int) key_sess ?_
      (repeat first | refine gS ?_ | refine gA fun _ => ?_ | refine gX fun _ _ => ?_ | refine gT ?_ | refine gF ?_ | refine gI ?_)
      refine E_build (l := [I 0, I (M.began + 1), nil, nil]) str_ans ?_
      (repeat first | refine gS ?_ | refine gA fun _ => ?_ | refine gX fun _ _ => ?_ | refine gT ?_ | refine gF ?_ | refine gI ?_)
      refine E_same (G := cel true a 82 [.map (some r1), .map (some r2), .map (some r3), I (M.began + 1), I M.now, I M.quota] :: dct kL true r1 kf :: dct kL true r2 ks :: dct kI true r3 (dput ko (M.began + 1) (sAgg ⟨M.began + 1, o.name, []⟩)) :: spool vC Lv :: dpool kL Lh :: H) (by repeat (first | exact Same.refl | (refine Same.cons (by repeat (first | exact Find.here | apply Find.there)) ?_) | (refine Same.drop ?_))) ?_
      refine E_moS (M := { M with O := M.O ++ [⟨M.began + 1, o.name, []⟩], began := M.began + 1 }) r1 r2 r3 hf hs (ook_add (s := ⟨M.began + 1, o.name, []⟩) ho fun t ht e => by have := (hw.ob t ht).1; simp only at e; omega) rfl rfl rfl ?_
      exact ansE (A := ⟨0, M.began + 1, [], []⟩) rfl rfl h
theorem oof_map {O : List Se} {f : Se → Se} (hf : ∀ s, (f s).n = s.n) (k : Int) : oof (O.map f) k = (oof O k).map f := by
  unfold oof
  rw [List.find?_map]
  congr 1
  congr 1
  funext s
  simp [hf]
def putT (o : Od) (t : Se) : Se := if t.n = o.n then { t with text := t.text ++ o.bytes } else t
theorem putT_n (o : Od) (t : Se) : (putT o t).n = t.n := by unfold putT; split <;> rfl
theorem ook_put {ko : List (Int × Value)} {O : List Se} {s : Se} (h : OOk ko O) (hs : oof O o.n = some s) : OOk (dput ko o.n (.agg #[str s.name, str (s.text ++ o.bytes)])) (O.map (putT o)) := fun k => by
  rw [show lk (dput ko o.n _) k = _ from dget_dput, oof_map (putT_n o)]
  split
  · rename_i hk
    subst hk
    rw [hs]
    obtain ⟨_, hsn⟩ := oof_some hs
    simp only [Option.map_some]
    unfold putT
    rw [if_pos hsn]; rfl
  · rename_i hk
    rw [show dget ko k = _ from h k]
    cases hk' : oof O k with
    | none => rfl
    | some s' =>
      obtain ⟨_, hsn⟩ := oof_some hk'
      simp only [Option.map_some]
      unfold putT
      rw [if_neg (by omega)]
theorem write [CellI bv] [CellI kv] {sp : Bool} (hw : Wf M) [hb : Rb B H bv o.bytes] (hbl : o.bytes.length ≤ 140737488355328) (h : ∀ rv, E B (ansH (writeM M o sp).1 rv :: mo a (writeM M o sp).2 :: H) (K rv)) : E B (mo a M :: H) (CF Tryz.prog 41 [ptr a, opV o bv kv t u, .bool sp] K) := by
  refine E_mono (W := s41 _ _ _ K) ?_ fun _ => c41
  unfold s41
  unfold writeM at h
  have hq := hw.q
  (repeat first | refine gS ?_ | refine gA fun _ => ?_ | refine gX fun _ _ => ?_ | refine gT ?_ | refine gF ?_ | refine gI ?_)
  rename_i bo br
  refine fd (a := mo a M) (E_mo fun r1 r2 r3 kf ks ko Lv Lh hf hs ho => ?_)
  (repeat first | refine gS ?_ | refine gA fun _ => ?_ | refine gX fun _ _ => ?_ | refine gT ?_ | refine gF ?_ | refine gI ?_)
  have hl := ho o.n
  cases hs' : oof M.O o.n with
  | none =>
    rw [hs'] at hl h
    refine E_dlk0 (κ := Int) hl ?_
    (repeat first | refine gS ?_ | refine gA fun _ => ?_ | refine gX fun _ _ => ?_ | refine gT ?_ | refine gF ?_ | refine gI ?_)
    refine E_rck1 (E_dlk0 (κ := Int) hl (E_fact rfl)) ?_
    (repeat (refine E_rck1 (by first | exact E_ld (E_fact rfl) | exact E_ld' (by assumption) (E_fact rfl) | exact E_b2sR (E_fact rfl) | exact E_gdnF (by assumption) (E_ld (E_fact rfl)) | exact E_gdT (by assumption) (E_ld (E_fact rfl)) | exact E_gtf (E_ld (E_fact rfl)) | exact E_gft (E_ld (E_fact rfl)) | exact E_ldNA (E_fact rfl) | exact E_ptld (E_fact rfl) | exact E_gtf (E_ldNA (E_fact rfl))) ?_)); (first | (refine E_rck0 ?_) | skip)
    (repeat first | refine gS ?_ | refine gA fun _ => ?_ | refine gX fun _ _ => ?_ | refine gT ?_ | refine gF ?_ | refine gI ?_)
    refine wrong ?_
    (repeat first | refine gS ?_ | refine gA fun _ => ?_ | refine gX fun _ _ => ?_ | refine gT ?_ | refine gF ?_ | refine gI ?_)
    refine sm (G := cel true a 82 [.map (some r1), .map (some r2), .map (some r3), I M.began, I M.now, I M.quota] :: dct kL true r1 kf :: dct kL true r2 ks :: dct kI true r3 ko :: spool vC Lv :: dpool kL Lh :: H) ?_
    refine E_moS (M := M) r1 r2 r3 hf hs ho rfl rfl rfl ?_
    exact ansE (A := errA 9) rfl rfl h
  | some s =>
    rw [hs'] at hl h
    simp only [Option.map_some] at hl h
    unfold sAgg at hl
    obtain ⟨hsO, hsn⟩ := oof_some hs'
    have hsl := (hw.ob s hsO).2
    refine E_dlk1 (κ := Int) hl ?_
    (repeat first | refine gS ?_ | refine gA fun _ => ?_ | refine gX fun _ _ => ?_ | refine gT ?_ | refine gF ?_ | refine gI ?_)
    rename_i b7
    refine E_rck1 (E_dlk1 (κ := Int) hl (E_fact rfl)) ?_
    (repeat (refine E_rck1 (by first | exact E_ld (E_fact rfl) | exact E_ld' (by assumption) (E_fact rfl) | exact E_b2sR (E_fact rfl) | exact E_gdnF (by assumption) (E_ld (E_fact rfl)) | exact E_gdT (by assumption) (E_ld (E_fact rfl)) | exact E_gtf (E_ld (E_fact rfl)) | exact E_gft (E_ld (E_fact rfl)) | exact E_ldNA (E_fact rfl) | exact E_ptld (E_fact rfl) | exact E_gtf (E_ldNA (E_fact rfl))) ?_)); (first | (refine E_rck0 ?_) | skip)
    (repeat first | refine gS ?_ | refine gA fun _ => ?_ | refine gX fun _ _ => ?_ | refine gT ?_ | refine gF ?_ | refine gI ?_)
    refine sm (G := cel true a 82 [.map (some r1), .map (some r2), .map (some r3), I M.began, I M.now, I M.quota] :: dct kL true r1 kf :: dct kL true r2 ks :: dct kI true r3 ko :: spool vC Lv :: dpool kL Lh :: cel true br 33 [I 0, I 0, nil, nil] :: cel true bo 42 (opL o bv kv t u) :: cel true b7 88 [str s.name, str s.text] :: H) ?_
    refine E_moS (M := M) r1 r2 r3 hf hs ho rfl rfl rfl ?_
    clear hf hs ho hl
    have hlost : ∀ (A : Ans) (e : Int), A = errA e → (∀ rv, E B (ansH A rv :: mo a (lostM M o.n) :: H) (K rv)) → E B (mo a M :: cel true br 33 [I 0, I 0, nil, nil] :: cel true bo 42 (opL o bv kv t u) :: cel true b7 88 [str s.name, str s.text] :: H)
        (S.fad (ptr bo) 1 fun v33 => S.ld v33 fun v34 => CF Tryz.prog 70 [ptr a, v34, I e] fun v35 => S.st 4 (ptr br) v35 fun _ => S.ldN 4 (ptr br) fun v => K v) := fun A e hA hh => by
      subst hA
      (repeat first | refine gS ?_ | refine gA fun _ => ?_ | refine gX fun _ _ => ?_ | refine gT ?_ | refine gF ?_ | refine gI ?_)
      refine lost ?_
      (repeat first | refine gS ?_ | refine gA fun _ => ?_ | refine gX fun _ _ => ?_ | refine gT ?_ | refine gF ?_ | refine gI ?_)
      exact sm (ansE (A := errA e) rfl rfl hh)
    refine E_if (fun hc => ?_) (fun hc => ?_)
    · rw [if_pos (by omega)] at h
      exact hlost _ 6 rfl h
    · rw [if_neg (by omega)] at h
      refine E_join1 [ptr a, .bool sp, ptr bo, ptr br, ptr b7, .bool (decide (0 < M.quota ∧ M.quota < (sizeM M + o.bytes.length : Nat)))] (mo a M :: cel true br 33 [I 0, I 0, nil, nil] :: cel true bo 42 (opL o bv kv t u) :: cel true b7 88 [str s.name, str s.text] :: H) (fun q hq => ?_) ?_
      · have fin2 : ∀ b : Bool, decide (0 < M.quota ∧ M.quota < (sizeM M + o.bytes.length : Nat)) = b → E B (mo a M :: cel true br 33 [I 0, I 0, nil, nil] :: cel true bo 42 (opL o bv kv t u) :: cel true b7 88 [str s.name, str s.text] :: H) (app 6 q [ptr a, .bool sp, ptr bo, ptr br, ptr b7, .bool b]) := fun b hb => hb ▸ hq
        refine E_mo fun r1 r2 r3 kf ks ko Lv Lh hf hs ho => ?_
        refine E_dr ?_
        refine E_nc ?_
        refine E_fad0 ?_
        refine E_ld ?_
        refine E_gtr ?_
        by_cases h0 : 0 < M.quota
        · rw [decide_eq_true h0]
          (repeat first | refine gS ?_ | refine gA fun _ => ?_ | refine gX fun _ _ => ?_ | refine gT ?_ | refine gF ?_ | refine gI ?_)
          refine sm (G := cel true a 82 [.map (some r1), .map (some r2), .map (some r3), I M.began, I M.now, I M.quota] :: dct kL true r1 kf :: dct kL true r2 ks :: dct kI true r3 ko :: spool vC Lv :: dpool kL Lh :: cel true br 33 [I 0, I 0, nil, nil] :: cel true bo 42 (opL o bv kv t u) :: cel true b7 88 [str s.name, str s.text] :: H) ?_
          refine E_moS (M := M) r1 r2 r3 hf hs ho rfl rfl rfl ?_
          refine size hw fun hsz => ?_
          refine E_mo fun r1 r2 r3 kf ks ko Lv Lh hf hs ho => ?_
          (repeat (refine E_rck1 (by first | exact E_ld (E_fact rfl) | exact E_ld' (by assumption) (E_fact rfl) | exact E_b2sR (E_fact rfl) | exact E_gdnF (by assumption) (E_ld (E_fact rfl)) | exact E_gdT (by assumption) (E_ld (E_fact rfl)) | exact E_gtf (E_ld (E_fact rfl)) | exact E_gft (E_ld (E_fact rfl)) | exact E_ldNA (E_fact rfl) | exact E_ptld (E_fact rfl) | exact E_gtf (E_ldNA (E_fact rfl))) ?_)); (first | (refine E_rck0 ?_) | skip)
          refine E_gtf ?_
          refine E_subI (by omega) (by omega) ?_
          (repeat first | refine gS ?_ | refine gA fun _ => ?_ | refine gX fun _ _ => ?_ | refine gT ?_ | refine gF ?_ | refine gI ?_)
          refine sm (G := cel true a 82 [.map (some r1), .map (some r2), .map (some r3), I M.began, I M.now, I M.quota] :: dct kL true r1 kf :: dct kL true r2 ks :: dct kI true r3 ko :: spool vC Lv :: dpool kL Lh :: cel true br 33 [I 0, I 0, nil, nil] :: cel true bo 42 (opL o bv kv t u) :: cel true b7 88 [str s.name, str s.text] :: H) ?_
          refine E_moS (M := M) r1 r2 r3 hf hs ho rfl rfl rfl ?_
          refine fin2 _ ?_
          rw [decide_eq_decide]; omega
        · rw [decide_eq_false h0]
          (repeat first | refine gS ?_ | refine gA fun _ => ?_ | refine gX fun _ _ => ?_ | refine gT ?_ | refine gF ?_ | refine gI ?_)
          refine E_rck1 (E_gff (E_fact rfl)) ?_
          refine E_rck1 (E_gff (E_fact rfl)) ?_
          (repeat first | refine gS ?_ | refine gA fun _ => ?_ | refine gX fun _ _ => ?_ | refine gT ?_ | refine gF ?_ | refine gI ?_)
          refine E_moS (M := M) r1 r2 r3 hf hs ho rfl rfl rfl ?_
          exact fin2 false (decide_eq_false fun hh => h0 hh.1)
      · refine E_fa fun _ => ?_
        refine E_if (fun hc2 => ?_) (fun hc2 => ?_)
        · rw [if_pos hc2] at h
          exact hlost _ 11 rfl h
        · rw [if_neg hc2] at h
          cases sp with
          | true =>
            rw [if_pos rfl] at h
            refine E_tt ?_
            exact hlost _ 8 rfl h
          | false =>
            rw [if_neg (by decide)] at h
            (repeat first | refine gS ?_ | refine gA fun _ => ?_ | refine gX fun _ _ => ?_ | refine gT ?_ | refine gF ?_ | refine gI ?_)
            refine E_b2sR (bs := o.bytes) ?_
            refine E_stradd (by omega) ?_
            (repeat first | refine gS ?_ | refine gA fun _ => ?_ | refine gX fun _ _ => ?_ | refine gT ?_ | refine gF ?_ | refine gI ?_)
            refine fd (a := mo a M) (E_mo fun r1 r2 r3 kf ks ko Lv Lh hf hs ho => ?_)
            (repeat first | refine gS ?_ | refine gA fun _ => ?_ | refine gX fun _ _ => ?_ | refine gT ?_ | refine gF ?_ | refine gI ?_)
            refine E_dmu (κ := Int) key_sess ?_
            (repeat first | refine gS ?_ | refine gA fun _ => ?_ | refine gX fun _ _ => ?_ | refine gT ?_ | refine gF ?_ | refine gI ?_)
            refine E_build (l := [I 0, I 0, nil, nil]) str_ans ?_
            (repeat first | refine gS ?_ | refine gA fun _ => ?_ | refine gX fun _ _ => ?_ | refine gT ?_ | refine gF ?_ | refine gI ?_)
            refine sm (G := cel true a 82 [.map (some r1), .map (some r2), .map (some r3), I M.began, I M.now, I M.quota] :: dct kL true r1 kf :: dct kL true r2 ks :: dct kI true r3 (dput ko o.n (.agg #[str s.name, str (s.text ++ o.bytes)])) :: spool vC Lv :: dpool kL Lh :: H) ?_
            refine E_moS (M := { M with O := M.O.map (putT o) }) r1 r2 r3 hf hs (ook_put ho hs') rfl rfl rfl ?_
            exact ansE (A := okA) rfl rfl h
end Go.Proofs.YtabpaknfenpkoaaGreat.Mod
