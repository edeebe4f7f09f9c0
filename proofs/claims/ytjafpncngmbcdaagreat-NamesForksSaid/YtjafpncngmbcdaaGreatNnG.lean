/-
  Names: the document's Apply.
-/
import Derived.Test.YtjafpncngmbcdaaGreatNnF
set_option linter.unusedSimpArgs false
set_option linter.unusedVariables false
set_option linter.unusedSectionVars false
namespace Go.Proofs.YtjafpncngmbcdaaGreat.Nam
open Go Go.SL Go.Proofs Go.Proofs.YtjafpncngmbcdaaGreat.Sh
variable {B : World} {H : List Asrt} {K : Value → WT} {W : WT} {a : Nat} {M : Bk} {f : Fa} {rv hv mv : Value}
variable {fv sv : Cv} {L : List FC} {LS : List SC} {Pf : List (Value × List FC)} {Lv : List (Value × List VR)} {Lr : List (Value × List Rf)} {Ps : List (Value × List SC)} {Lh : List (Value × List (List UInt8 × Int))}
theorem DOk.refs (hd : DOk ⟨fv, sv, L, LS, Pf, Lv, Lr, Ps, Lh⟩ M) (p : Value × List Rf) : DOk ⟨fv, sv, L, LS, Pf, Lv, p :: Lr, Ps, Lh⟩ M where
  f := hd.f
  fs := ⟨hd.fs.1, fun q hq => by obtain ⟨l, hl⟩ := hd.fs.2 q hq; exact ⟨l, hl.mono (fun _ h => h) (fun _ h => List.mem_cons_of_mem _ h)⟩⟩
  s := hd.s
  sh := hd.sh
theorem posL_at {ns : List (List UInt8)} {i : Nat} {k : List UInt8} (hs : ns.Pairwise (· < ·)) (hx : ns[i]? = some k) : posL ns k = i := by
  obtain ⟨hi, e⟩ := List.getElem?_eq_some_iff.1 hx
  refine (pos_at hs hx (fun y hy => ?_) (slt_irr k)).1
  obtain ⟨j, hj, e'⟩ := List.mem_take_iff_getElem.1 hy
  have := List.pairwise_iff_getElem.1 hs j i (by omega) hi (by omega)
  rw [e, e'] at this; exact this
attribute [local irreducible] S.pick S.ld S.ldN S.st S.box S.nc S.fad S.ixS S.ixA S.chr S.prt S.ext S.bin S.sh S.sbin S.beq S.neg1 S.com1 S.not1 S.cvt S.str1 S.lenS S.len S.cap S.lenM S.mx S.mn S.mkM S.cond S.gd S.fa S.dr S.rck S.join S.loop S.cvv S.eqv S.slc S.slcS S.b2s S.lk V U CF Gives E cel mpb osl ros dct dit itr lpo dfo
set_option maxRecDepth 8000
attribute [local irreducible] bk dbk
theorem applyD0 [CellI rv] [CellI hv] [CellI mv] [hr1 : Rs B H rv rfC f.refs] [hr2 : Rs B H hv hC f.held] [hr3 : ∀ G, Rs B (G ++ H) mv mvC f.moves] (ho : FaOk f) (hw : Inv M)
    (hrec : f.k = 9 → ∀ (M' : Bk) (x : List UInt8 × Int) (H' : List Asrt) (K' : Value → WT), Inv M' → x.1.length ≤ 1000 → (∀ e, E B (dbk a (stepD M' x) :: H') (K' (I e))) → E B (dbk a M' :: H') (CF Tryz.prog 34 [ptr a, .agg (faL (dropF x) nil nil nil).toArray] K'))
    (h : E B (dbk a (stepM M f) :: H) (K (I (checkB M f)))) : E B (dbk a M :: H) (CF Tryz.prog 34 [ptr a, .agg (faL f rv hv mv).toArray] K) := by
  have hr3' : Rs B H mv mvC f.moves := hr3 []
  refine E_mono (W := s34 _ _ K) ?_ fun _ => c34
  unfold s34
  refine E_box (vs := faL f rv hv mv) fun b3 => ?_
  (repeat first | refine gS ?_ | refine gA fun _ => ?_ | refine gX fun _ _ => ?_ | refine gT ?_ | refine gF ?_ | refine gI ?_)
  refine fd (a := dbk a M) (E_dbk fun fv sv L LS Pf Lv Lr Ps Lh hd => ?_)
  refine checkD ho hd hw ?_
  refine E_neq ?_
  refine E_if (fun hc => ?_) (fun hc => ?_)
  · unfold stepM at h
    rw [if_pos hc] at h
    exact E_dbkS hd rfl (sm h)
  have hc0 : checkB M f = 0 := Decidable.not_not.1 hc
  have ok := checkB0.1 hc0
  obtain ⟨hk, hbad, hrl, hhl, hml, hmo, hho, hro, hbare⟩ := checkF0 ok.c
  obtain ⟨hnm, hgen, hng, hnt, h9⟩ := badB0 hbad
  have hfl := hw.fl
  have hnl := hw.nl
  have hlen := hd.len
  have hL := nms_len32 hd hw
  have hlS := hd.lenS
  have h16 := hw.s16
  have hns := nms_lt hw.v.n
  have hss := List.pairwise_map.2 hw.ss
  have rf : ∀ H, Rs B (spool fC Pf :: H) fv.1 fC L := rs_pool hd.f
  have rs : ∀ H, Rs B (spool shC Ps :: H) sv.1 shC LS := rs_pool hd.s
  have fin : ∀ M', applyM M f = M' → E B (dbk a M' :: H) (K (I 0)) := fun M' e => by
    unfold stepM at h
    rw [if_neg (by simpa using hc0), hc0, e] at h
    exact h
  refine E_join1 [] (dbk a (applyM M f) :: cel true b3 60 (faL f rv hv mv) :: H) (fun q hq => ?_) ?_
  case refine_2 =>
    refine E_fa fun _ => ?_
    exact sm (fin (applyM M f) rfl)
  clear fin
  have fin : ∀ M', applyM M f = M' → E B (dbk a M' :: cel true b3 60 (faL f rv hv mv) :: H) (app 0 q []) := fun M' e => e ▸ hq
  clear hq h
  unfold applyM at fin
  by_cases h8 : f.k = 8
  · rw [if_pos h8] at fin
    (repeat first | refine gS ?_ | refine gA fun _ => ?_ | refine gX fun _ _ => ?_ | refine gT ?_ | refine gF ?_ | refine gI ?_)
    refine sm (G := cel true a 88 [fv.1, sv.1, I f.time] :: spool fC Pf :: spool vC Lv :: spool rfC Lr :: spool shC Ps :: spool hC Lh :: cel true b3 60 (faL f rv hv mv) :: H) ?_
    exact E_dbkS (M := { M with now := f.time }) ⟨hd.f, hd.fs, hd.s, hd.sh⟩ rfl (fin _ rfl)
  rw [if_neg h8] at fin
  by_cases h3 : f.k = 3
  · rw [if_pos h3] at fin
    have hgg : ∀ w ∈ fof M.V f.name, w.gen < f.gen := fun w hw' => by
      have h1 := topG_le (fof_srt hw.v f.name) w hw'
      have h2 := (ok.k3 h3).2.1
      unfold nextG at h2
      omega
    have inner : ∀ (v48 : Value) (b6 : Nat) [CellI v48], E B (cel true b6 31 [I f.gen, I f.time, v48, .bool false] :: sls rfC 38 35 v48 f.refs :: cel true a 88 [fv.1, sv.1, I M.now] :: spool fC Pf :: spool vC Lv :: spool rfC Lr :: spool shC Ps :: spool hC Lh :: cel true b3 60 (faL f rv hv mv) :: H) (fileIn (ptr a) (ptr b3) (ptr b6) (app 0 q [])) := fun v48 b6 _ => by
      refine fd (a := spool rfC Lr) ?_
      refine fd (a := sls rfC 38 35 v48 f.refs) ?_
      refine E_give ?_
      refine sm (G := cel true a 88 [fv.1, sv.1, I M.now] :: spool fC Pf :: spool vC Lv :: spool rfC ((v48, f.refs) :: Lr) :: spool shC Ps :: spool hC Lh :: cel true b3 60 (faL f rv hv mv) :: cel true b6 31 [I f.gen, I f.time, v48, .bool false] :: H) ?_
      exact fileIn_ok (List.mem_cons_self) (hd.refs _) hw hgg (sm (fin _ rfl))
    (repeat first | refine gS ?_ | refine gA fun _ => ?_ | refine gX fun _ _ => ?_ | refine gT ?_ | refine gF ?_ | refine gI ?_)
    refine E_both ?_ ?_
    · refine E_bsl0 u_refs elt_ref fun b0 => ?_
      refine E_slsC (enc := rfC) [] 0 rfl rfl ?_
      (repeat (refine E_rck1 (by first | exact E_ld (E_fact rfl) | exact E_ld' (by assumption) (E_fact rfl) | exact E_b2sR (E_fact rfl) | exact E_gdnF (by assumption) (E_ld (E_fact rfl)) | exact E_gdT (by assumption) (E_ld (E_fact rfl)) | exact E_gtf (E_ld (E_fact rfl)) | exact E_gft (E_ld (E_fact rfl)) | exact E_ldNA (E_fact rfl) | exact E_ptld (E_fact rfl) | exact E_gtf (E_ldNA (E_fact rfl))) ?_)); (first | (refine E_rck0 ?_) | skip)
      refine E_both ?_ ?_
      · refine E_sapps (enc := rfC) (l := []) (m := f.refs) u_refs elt_ref (by simp; omega) (by simp; omega) fun v48 _ => ?_
        rw [List.nil_append]
        (repeat (refine E_rck1 (by first | exact E_ld (E_fact rfl) | exact E_ld' (by assumption) (E_fact rfl) | exact E_b2sR (E_fact rfl) | exact E_gdnF (by assumption) (E_ld (E_fact rfl)) | exact E_gdT (by assumption) (E_ld (E_fact rfl)) | exact E_gtf (E_ld (E_fact rfl)) | exact E_gft (E_ld (E_fact rfl)) | exact E_ldNA (E_fact rfl) | exact E_ptld (E_fact rfl) | exact E_gtf (E_ldNA (E_fact rfl))) ?_)); (first | (refine E_rck0 ?_) | skip)
        refine E_both ?_ ?_
        · refine E_build (l := [I f.gen, I f.time, v48, .bool false]) str_ver ?_
          refine E_box (vs := [I 0, I 0, nil, .bool false]) fun b6 => ?_
          refine E_stW (vs := [I f.gen, I f.time, v48, .bool false]) rfl rfl ?_
          exact sm (inner v48 b6)
        · refine E_box (vs := [I 0, I 0, nil, .bool false]) fun b6 => ?_
          (repeat (refine E_rck1 (by first | exact E_ld (E_fact rfl) | exact E_ld' (by assumption) (E_fact rfl) | exact E_b2sR (E_fact rfl) | exact E_gdnF (by assumption) (E_ld (E_fact rfl)) | exact E_gdT (by assumption) (E_ld (E_fact rfl)) | exact E_gtf (E_ld (E_fact rfl)) | exact E_gft (E_ld (E_fact rfl)) | exact E_ldNA (E_fact rfl) | exact E_ptld (E_fact rfl) | exact E_gtf (E_ldNA (E_fact rfl))) ?_)); (first | (refine E_rck0 ?_) | skip)
          refine E_build (l := [I f.gen, I f.time, v48, .bool false]) str_ver ?_
          refine E_stW (vs := [I f.gen, I f.time, v48, .bool false]) rfl rfl ?_
          exact sm (inner v48 b6)
      · refine E_box (vs := [I 0, I 0, nil, .bool false]) fun b6 => ?_
        (repeat (refine E_rck1 (by first | exact E_ld (E_fact rfl) | exact E_ld' (by assumption) (E_fact rfl) | exact E_b2sR (E_fact rfl) | exact E_gdnF (by assumption) (E_ld (E_fact rfl)) | exact E_gdT (by assumption) (E_ld (E_fact rfl)) | exact E_gtf (E_ld (E_fact rfl)) | exact E_gft (E_ld (E_fact rfl)) | exact E_ldNA (E_fact rfl) | exact E_ptld (E_fact rfl) | exact E_gtf (E_ldNA (E_fact rfl))) ?_)); (first | (refine E_rck0 ?_) | skip)
        refine fd (a := sls rfC 38 35 (.slice (some ⟨b0, 0, none⟩) 0 0) []) ?_
        refine E_sapps (enc := rfC) (l := []) (m := f.refs) u_refs elt_ref (by simp; omega) (by simp; omega) fun v48 _ => ?_
        rw [List.nil_append]
        (repeat (refine E_rck1 (by first | exact E_ld (E_fact rfl) | exact E_ld' (by assumption) (E_fact rfl) | exact E_b2sR (E_fact rfl) | exact E_gdnF (by assumption) (E_ld (E_fact rfl)) | exact E_gdT (by assumption) (E_ld (E_fact rfl)) | exact E_gtf (E_ld (E_fact rfl)) | exact E_gft (E_ld (E_fact rfl)) | exact E_ldNA (E_fact rfl) | exact E_ptld (E_fact rfl) | exact E_gtf (E_ldNA (E_fact rfl))) ?_)); (first | (refine E_rck0 ?_) | skip)
        refine E_build (l := [I f.gen, I f.time, v48, .bool false]) str_ver ?_
        refine fd (a := cel true b6 31 [I 0, I 0, nil, .bool false]) ?_
        refine E_stW (vs := [I f.gen, I f.time, v48, .bool false]) rfl rfl ?_
        exact sm (inner v48 b6)
    · refine E_box (vs := [I 0, I 0, nil, .bool false]) fun b6 => ?_
      (repeat (refine E_rck1 (by first | exact E_ld (E_fact rfl) | exact E_ld' (by assumption) (E_fact rfl) | exact E_b2sR (E_fact rfl) | exact E_gdnF (by assumption) (E_ld (E_fact rfl)) | exact E_gdT (by assumption) (E_ld (E_fact rfl)) | exact E_gtf (E_ld (E_fact rfl)) | exact E_gft (E_ld (E_fact rfl)) | exact E_ldNA (E_fact rfl) | exact E_ptld (E_fact rfl) | exact E_gtf (E_ldNA (E_fact rfl))) ?_)); (first | (refine E_rck0 ?_) | skip)
      refine E_bsl0 u_refs elt_ref fun b0 => ?_
      refine E_slsC (enc := rfC) [] 0 rfl rfl ?_
      (repeat (refine E_rck1 (by first | exact E_ld (E_fact rfl) | exact E_ld' (by assumption) (E_fact rfl) | exact E_b2sR (E_fact rfl) | exact E_gdnF (by assumption) (E_ld (E_fact rfl)) | exact E_gdT (by assumption) (E_ld (E_fact rfl)) | exact E_gtf (E_ld (E_fact rfl)) | exact E_gft (E_ld (E_fact rfl)) | exact E_ldNA (E_fact rfl) | exact E_ptld (E_fact rfl) | exact E_gtf (E_ldNA (E_fact rfl))) ?_)); (first | (refine E_rck0 ?_) | skip)
      refine E_sapps (enc := rfC) (l := []) (m := f.refs) u_refs elt_ref (by simp; omega) (by simp; omega) fun v48 _ => ?_
      rw [List.nil_append]
      (repeat (refine E_rck1 (by first | exact E_ld (E_fact rfl) | exact E_ld' (by assumption) (E_fact rfl) | exact E_b2sR (E_fact rfl) | exact E_gdnF (by assumption) (E_ld (E_fact rfl)) | exact E_gdT (by assumption) (E_ld (E_fact rfl)) | exact E_gtf (E_ld (E_fact rfl)) | exact E_gft (E_ld (E_fact rfl)) | exact E_ldNA (E_fact rfl) | exact E_ptld (E_fact rfl) | exact E_gtf (E_ldNA (E_fact rfl))) ?_)); (first | (refine E_rck0 ?_) | skip)
      refine E_build (l := [I f.gen, I f.time, v48, .bool false]) str_ver ?_
      refine fd (a := cel true b6 31 [I 0, I 0, nil, .bool false]) ?_
      refine E_stW (vs := [I f.gen, I f.time, v48, .bool false]) rfl rfl ?_
      exact sm (inner v48 b6)
  rw [if_neg h3] at fin
  by_cases h4 : f.k = 4
  · rw [if_pos h4] at fin
    (repeat first | refine gS ?_ | refine gA fun _ => ?_ | refine gX fun _ _ => ?_ | refine gT ?_ | refine gF ?_ | refine gI ?_)
    refine E_build (l := [str f.name, I f.gen]) str_held ?_
    obtain ⟨x0, _, _, _, _, hg0⟩ := live_some (ok.k4 h4)
    refine findD hd hw (fun e => ?_) (fun j e hn => ?_)
    · exfalso
      rcases fi (fof M.V f.name) (genP f.gen) with ⟨_, e2⟩ | ⟨_, _, e2, _, _⟩
      · unfold genV at hg0
        rw [show (fun v : Ver => decide (v.gen = f.gen)) = genP f.gen from rfl, e2] at hg0; cases hg0
      · rw [e] at e2; cases e2
    rcases fi (fof M.V f.name) (genP f.gen) with ⟨e2, _⟩ | ⟨j', x, e2, e3, e4⟩
    · rw [e] at e2; cases e2
    rw [e] at e2; cases e2
    have hxg : x.gen = f.gen := by simpa [genP] using List.find?_some e4
    obtain ⟨c, l, hx, hl⟩ := hd.get (pos_mem hns hn)
    have hpl : posL (nms M.V) f.name < L.length := (List.getElem?_eq_some_iff.1 hx).1
    have rl := rs_pool (B := B) (enc := vC) hl.m
    have hll : l.length = (fof M.V f.name).length := by rw [← hl.e, List.length_map]
    have hlf := hfl f.name
    have hp : ∃ p, l[j]? = some p ∧ p.1 = x := by
      rw [← hl.e, List.getElem?_map] at e3
      cases hp : l[j]? with
      | none => rw [hp] at e3; cases e3
      | some p => rw [hp] at e3; exact ⟨p, rfl, Option.some.inj e3⟩
    obtain ⟨p, hp, hpx⟩ := hp
    (repeat first | refine gS ?_ | refine gA fun _ => ?_ | refine gX fun _ _ => ?_ | refine gT ?_ | refine gF ?_ | refine gI ?_)
    refine E_bsl0 u_vers elt_ver fun b0 => ?_
    refine E_slsC (enc := vC) [] 0 rfl rfl ?_
    (repeat first | refine gS ?_ | refine gA fun _ => ?_ | refine gX fun _ _ => ?_ | refine gT ?_ | refine gF ?_ | refine gI ?_)
    refine E_sapps (enc := vC) (l := []) (m := l) u_vers elt_ver (by simp; omega) (by simp; omega) fun u hu => ?_
    rw [List.nil_append]
    refine E_sfld (goneV p.1, p.2) hp (by decide) rfl ?_
    (repeat first | refine gS ?_ | refine gA fun _ => ?_ | refine gX fun _ _ => ?_ | refine gT ?_ | refine gF ?_ | refine gI ?_)
    refine E_build (l := [str f.name, u]) str_file ?_
    refine E_bsl [(0, 2)] u_fileL elt_file (by simp) (by decide) (l0 := [.string ⟨#[]⟩, nil]) rfl fun bx => ?_
    refine E_slsC (enc := fC) [((f.name, ⟨u, hu.pf⟩) : FC)] 1 rfl rfl ?_
    rw [show (posL (nms M.V) f.name : Int) + 1 = ((posL (nms M.V) f.name + 1 : Nat) : Int) by omega]
    refine sm (G := cel true a 88 [fv.1, sv.1, I M.now] :: spool fC Pf :: spool vC Lv :: spool rfC Lr :: spool shC Ps :: spool hC Lh :: sls fC 86 2 (.slice (some ⟨bx, 0, none⟩) 1 1) [((f.name, ⟨u, hu.pf⟩) : FC)] :: sls vC 31 4 u (l.set j (goneV p.1, p.2)) :: cel true b3 60 (faL f rv hv mv) :: H) ?_
    refine withD (L := L) (ms := [((f.name, ⟨u, hu.pf⟩) : FC)]) hd.f (by omega) (by omega) (by omega) (by simp) (fun G => rs_app G inferInstance) fun v' hv' => ?_
    refine fd (a := spool vC Lv) ?_
    refine fd (a := sls vC 31 4 u (l.set j (goneV p.1, p.2))) ?_
    refine E_give ?_
    have hv'' : (l.set j (goneV p.1, p.2)).map (·.1) = fof (markV M.V f.name f.gen) f.name := by
      rw [← hxg, fof_mark hw.v e3, List.map_set, hl.e, hpx]
    have hnm' : nms (markV M.V f.name f.gen) = nms M.V := nms_map fun v => (mark_f _ _ v).1
    have hfs := hd.fs.put (V' := markV M.V f.name f.gen) (Lv' := (u, l.set j (goneV p.1, p.2)) :: Lv) (Lr' := Lr) (c := ⟨u, hu.pf⟩) hw.v.n hn hnm' (fun k' hk' => fof_mark_ne hk') ⟨by simp, hv'', fun y hy => by
      rcases List.mem_or_eq_of_mem_set hy with hy | hy
      · exact hl.r y hy
      · subst hy; exact hl.r p (List.mem_of_getElem? hp)⟩ (fun _ h => List.mem_cons_of_mem _ h) (fun _ h => h)
    refine sm (G := cel true a 88 [v', sv.1, I M.now] :: spool fC ((v', L.take (posL (nms M.V) f.name) ++ [((f.name, ⟨u, hu.pf⟩) : FC)] ++ L.drop (posL (nms M.V) f.name + 1)) :: Pf) :: spool vC ((u, l.set j (goneV p.1, p.2)) :: Lv) :: spool rfC Lr :: spool shC Ps :: spool hC Lh :: cel true b3 60 (faL f rv hv mv) :: H) ?_
    have hd' : DOk ⟨⟨v', hv'.pf⟩, sv, L.take (posL (nms M.V) f.name) ++ [((f.name, ⟨u, hu.pf⟩) : FC)] ++ L.drop (posL (nms M.V) f.name + 1), LS, (v', L.take (posL (nms M.V) f.name) ++ [((f.name, ⟨u, hu.pf⟩) : FC)] ++ L.drop (posL (nms M.V) f.name + 1)) :: Pf, (u, l.set j (goneV p.1, p.2)) :: Lv, Lr, Ps, Lh⟩ { M with V := markV M.V f.name f.gen } := ⟨by simp, hfs, hd.s, hd.sh⟩
    refine sweepD (M := { M with V := markV M.V f.name f.gen }) (fv := ⟨v', hv'.pf⟩) hd' (srtG_map hw.v fun v => mark_f f.name f.gen v).n (by show (nms (markV M.V f.name f.gen)).length ≤ 1000; rw [hnm']; omega) (fun k => ?_) (by show M.S.length ≤ 1000; omega) (fun s hs => Nat.le_trans (hw.hh s hs) (by decide)) fun fv' L' Pf' Lv' hd'' => ?_
    · show (fof (markV M.V f.name f.gen) k).length ≤ 1000
      unfold markV
      rw [fof_map (fun v => (mark_f _ _ v).1), List.length_map]
      have := hfl k; omega
    · exact E_dbkS (fv := fv') hd'' rfl (fin _ rfl)
  rw [if_neg h4] at fin
  by_cases h5 : f.k = 5
  · rw [if_pos h5] at fin
    have hpl := pos_le (M.S.map fun s : Sn => s.name) f.name
    rw [List.length_map] at hpl
    (repeat first | refine gS ?_ | refine gA fun _ => ?_ | refine gX fun _ _ => ?_ | refine gT ?_ | refine gF ?_ | refine gI ?_)
    refine shotD hd hw ?_
    (repeat first | refine gS ?_ | refine gA fun _ => ?_ | refine gX fun _ _ => ?_ | refine gT ?_ | refine gF ?_ | refine gI ?_)
    generalize hpos : posL (M.S.map fun s : Sn => s.name) f.name = i at hpl ⊢
    refine E_bsl0 u_shotL elt_shot fun b0 => ?_
    refine E_slsC (enc := shC) [] 0 rfl rfl ?_
    (repeat first | refine gS ?_ | refine gA fun _ => ?_ | refine gX fun _ _ => ?_ | refine gT ?_ | refine gF ?_ | refine gI ?_)
    refine E_slcS2 (v := sv.1) (l := LS) (i := 0) (j := i) (by simp [S.bound]) rfl (by omega) (by omega) fun v1 _ _ => ?_
    refine fd (a := sls shC 90 3 (.slice (some ⟨b0, 0, none⟩) 0 0) []) ?_
    refine E_sapps (enc := shC) (l := []) (m := (LS.drop 0).take (i - 0)) u_shotL elt_shot (by simp; omega) (by simp; omega) fun v2 _ => ?_
    (repeat first | refine gS ?_ | refine gA fun _ => ?_ | refine gX fun _ _ => ?_ | refine gT ?_ | refine gF ?_ | refine gI ?_)
    refine E_bsl0 u_helds elt_held fun b1 => ?_
    refine E_slsC (enc := hC) [] 0 rfl rfl ?_
    (repeat (refine E_rck1 (by first | exact E_ld (E_fact rfl) | exact E_ld' (by assumption) (E_fact rfl) | exact E_b2sR (E_fact rfl) | exact E_gdnF (by assumption) (E_ld (E_fact rfl)) | exact E_gdT (by assumption) (E_ld (E_fact rfl)) | exact E_gtf (E_ld (E_fact rfl)) | exact E_gft (E_ld (E_fact rfl)) | exact E_ldNA (E_fact rfl) | exact E_ptld (E_fact rfl) | exact E_gtf (E_ldNA (E_fact rfl))) ?_)); (first | (refine E_rck0 ?_) | skip)
    refine E_sapps (enc := hC) (l := []) (m := f.held) u_helds elt_held (by simp; omega) (by simp; omega) fun vh hvh => ?_
    rw [List.nil_append]
    (repeat (refine E_rck1 (by first | exact E_ld (E_fact rfl) | exact E_ld' (by assumption) (E_fact rfl) | exact E_b2sR (E_fact rfl) | exact E_gdnF (by assumption) (E_ld (E_fact rfl)) | exact E_gdT (by assumption) (E_ld (E_fact rfl)) | exact E_gtf (E_ld (E_fact rfl)) | exact E_gft (E_ld (E_fact rfl)) | exact E_ldNA (E_fact rfl) | exact E_ptld (E_fact rfl) | exact E_gtf (E_ldNA (E_fact rfl))) ?_)); (first | (refine E_rck0 ?_) | skip)
    refine E_build (l := [str f.name, I f.time, vh]) str_shot ?_
    refine fd (a := sls shC 90 3 v2 ([] ++ (LS.drop 0).take (i - 0))) ?_
    refine E_sapp1 (enc := shC) ((⟨f.name, f.time, f.held⟩, ⟨vh, hvh.pf⟩) : SC) u_shotL elt_shot rfl (by decide) (by simp; omega) (by simp; omega) fun v3 _ => ?_
    (repeat first | refine gS ?_ | refine gA fun _ => ?_ | refine gX fun _ _ => ?_ | refine gT ?_ | refine gF ?_ | refine gI ?_)
    refine E_slcS2 (v := sv.1) (l := LS) (i := i) (j := LS.length) rfl (by simp [S.bound]) (by omega) (Nat.le_refl _) fun v4 _ _ => ?_
    refine fd (a := sls shC 90 3 v3 ([] ++ (LS.drop 0).take (i - 0) ++ [((⟨f.name, f.time, f.held⟩, ⟨vh, hvh.pf⟩) : SC)])) ?_
    refine E_sapps (enc := shC) (m := (LS.drop i).take (LS.length - i)) u_shotL elt_shot (by simp; omega) (by simp; omega) fun v5 hv5 => ?_
    have e : [] ++ (LS.drop 0).take (i - 0) ++ [((⟨f.name, f.time, f.held⟩, ⟨vh, hvh.pf⟩) : SC)] ++ (LS.drop i).take (LS.length - i) = LS.take i ++ [((⟨f.name, f.time, f.held⟩, ⟨vh, hvh.pf⟩) : SC)] ++ LS.drop i := by
      rw [List.nil_append, List.drop_zero, Nat.sub_zero, List.take_of_length_le (l := LS.drop i) (by simp)]
    rw [e]
    (repeat first | refine gS ?_ | refine gA fun _ => ?_ | refine gX fun _ _ => ?_ | refine gT ?_ | refine gF ?_ | refine gI ?_)
    refine fd (a := spool shC Ps) ?_
    refine fd (a := sls shC 90 3 v5 (LS.take i ++ [((⟨f.name, f.time, f.held⟩, ⟨vh, hvh.pf⟩) : SC)] ++ LS.drop i)) ?_
    refine E_give ?_
    refine fd (a := spool hC Lh) ?_
    refine fd (a := sls hC 53 2 vh f.held) ?_
    refine E_give ?_
    refine sm (G := cel true a 88 [fv.1, v5, I M.now] :: spool fC Pf :: spool vC Lv :: spool rfC Lr :: spool shC ((v5, LS.take i ++ [((⟨f.name, f.time, f.held⟩, ⟨vh, hvh.pf⟩) : SC)] ++ LS.drop i) :: Ps) :: spool hC ((vh, f.held) :: Lh) :: cel true b3 60 (faL f rv hv mv) :: H) ?_
    refine E_dbkS (M := { M with S := insS M.S ⟨f.name, f.time, f.held⟩ }) (sv := ⟨v5, hv5.pf⟩) (LS := LS.take i ++ [((⟨f.name, f.time, f.held⟩, ⟨vh, hvh.pf⟩) : SC)] ++ LS.drop i) ⟨hd.f, hd.fs, by simp, ?_, fun p hp => ?_⟩ rfl (fin _ rfl)
    · show _ = insS M.S ⟨f.name, f.time, f.held⟩
      rw [insS_pos, List.map_append, List.map_append, List.map_take, List.map_drop, hd.sh.1]
      show _ = M.S.take (posL (M.S.map fun s : Sn => s.name) f.name) ++ _ ++ M.S.drop (posL (M.S.map fun s : Sn => s.name) f.name)
      rw [hpos]; rfl
    · rw [List.append_assoc] at hp
      rcases List.mem_append.1 hp with hp | hp
      · exact List.mem_cons_of_mem _ (hd.sh.2 p (List.mem_of_mem_take hp))
      · rcases List.mem_append.1 hp with hp | hp
        · simp only [List.mem_singleton] at hp
          subst hp; exact List.mem_cons_self
        · exact List.mem_cons_of_mem _ (hd.sh.2 p (List.mem_of_mem_drop hp))
  rw [if_neg h5] at fin
  by_cases h6 : f.k = 6
  · rw [if_pos h6] at fin
    have hsn : f.name ∈ M.S.map fun s : Sn => s.name := by
      have := ok.k6 h6
      rw [sof_isSome hw] at this
      exact of_decide_eq_true this
    have hdel := delS_pos hw.ss hsn
    have hpl := (List.getElem?_eq_some_iff.1 (pos_mem hss hsn)).1
    rw [List.length_map] at hpl
    (repeat first | refine gS ?_ | refine gA fun _ => ?_ | refine gX fun _ _ => ?_ | refine gT ?_ | refine gF ?_ | refine gI ?_)
    refine shotD hd hw ?_
    (repeat first | refine gS ?_ | refine gA fun _ => ?_ | refine gX fun _ _ => ?_ | refine gT ?_ | refine gF ?_ | refine gI ?_)
    generalize hpos : posL (M.S.map fun s : Sn => s.name) f.name = i at hpl hdel ⊢
    refine E_slcS2 (v := sv.1) (l := LS) (i := 0) (j := i) (by simp [S.bound]) rfl (by omega) (by omega) fun v1 _ _ => ?_
    (repeat first | refine gS ?_ | refine gA fun _ => ?_ | refine gX fun _ _ => ?_ | refine gT ?_ | refine gF ?_ | refine gI ?_)
    rw [show (i : Int) + 1 = ((i + 1 : Nat) : Int) by omega]
    refine E_slcS2 (v := sv.1) (l := LS) (i := i + 1) (j := LS.length) rfl (bound_nat (i + 1) 0) (by omega) (Nat.le_refl _) fun v4 _ _ => ?_
    refine E_bsl0 u_shotL elt_shot fun b0 => ?_
    refine E_slsC (enc := shC) [] 0 rfl rfl ?_
    (repeat (refine E_rck1 (by first | exact E_ld (E_fact rfl) | exact E_ld' (by assumption) (E_fact rfl) | exact E_b2sR (E_fact rfl) | exact E_gdnF (by assumption) (E_ld (E_fact rfl)) | exact E_gdT (by assumption) (E_ld (E_fact rfl)) | exact E_gtf (E_ld (E_fact rfl)) | exact E_gft (E_ld (E_fact rfl)) | exact E_ldNA (E_fact rfl) | exact E_ptld (E_fact rfl) | exact E_gtf (E_ldNA (E_fact rfl))) ?_)); (first | (refine E_rck0 ?_) | skip)
    refine E_sapps (enc := shC) (l := []) (m := (LS.drop 0).take (i - 0)) u_shotL elt_shot (by simp; omega) (by simp; omega) fun v2 _ => ?_
    (repeat (refine E_rck1 (by first | exact E_ld (E_fact rfl) | exact E_ld' (by assumption) (E_fact rfl) | exact E_b2sR (E_fact rfl) | exact E_gdnF (by assumption) (E_ld (E_fact rfl)) | exact E_gdT (by assumption) (E_ld (E_fact rfl)) | exact E_gtf (E_ld (E_fact rfl)) | exact E_gft (E_ld (E_fact rfl)) | exact E_ldNA (E_fact rfl) | exact E_ptld (E_fact rfl) | exact E_gtf (E_ldNA (E_fact rfl))) ?_)); (first | (refine E_rck0 ?_) | skip)
    refine E_sapps (enc := shC) (m := (LS.drop (i + 1)).take (LS.length - (i + 1))) u_shotL elt_shot (by simp; omega) (by simp; omega) fun v5 hv5 => ?_
    have e : [] ++ (LS.drop 0).take (i - 0) ++ (LS.drop (i + 1)).take (LS.length - (i + 1)) = LS.take i ++ LS.drop (i + 1) := by
      rw [List.nil_append, List.drop_zero, Nat.sub_zero, List.take_of_length_le (l := LS.drop (i + 1)) (by simp)]
    rw [e]
    (repeat first | refine gS ?_ | refine gA fun _ => ?_ | refine gX fun _ _ => ?_ | refine gT ?_ | refine gF ?_ | refine gI ?_)
    refine fd (a := spool shC Ps) ?_
    refine fd (a := sls shC 90 3 v5 (LS.take i ++ LS.drop (i + 1))) ?_
    refine E_give ?_
    refine sm (G := cel true a 88 [fv.1, v5, I M.now] :: spool fC Pf :: spool vC Lv :: spool rfC Lr :: spool shC ((v5, LS.take i ++ LS.drop (i + 1)) :: Ps) :: spool hC Lh :: cel true b3 60 (faL f rv hv mv) :: H) ?_
    have hd' : DOk ⟨fv, ⟨v5, hv5.pf⟩, L, LS.take i ++ LS.drop (i + 1), Pf, Lv, Lr, (v5, LS.take i ++ LS.drop (i + 1)) :: Ps, Lh⟩ { M with S := M.S.filter fun s => decide (s.name ≠ f.name) } := ⟨hd.f, hd.fs, by simp, by
        show _ = M.S.filter fun s => decide (s.name ≠ f.name)
        rw [hdel, List.map_append, List.map_take, List.map_drop, hd.sh.1], fun p hp => by
        rcases List.mem_append.1 hp with hp | hp
        · exact hd.sh.2 p (List.mem_of_mem_take hp)
        · exact hd.sh.2 p (List.mem_of_mem_drop hp)⟩
    refine sweepD (M := { M with S := M.S.filter fun s => decide (s.name ≠ f.name) }) (sv := ⟨v5, hv5.pf⟩) hd' hw.v.n (by simp only; omega) (fun k => by have := hfl k; simp only; omega) (by simp only; exact Nat.le_trans (List.length_filter_le _ _) (by omega)) (fun s hs => Nat.le_trans (hw.hh s (List.mem_filter.1 hs).1) (by decide)) fun fv' L' Pf' Lv' hd'' => ?_
    exact E_dbkS (fv := fv') (sv := ⟨v5, hv5.pf⟩) hd'' rfl (fin _ rfl)
  rw [if_neg h6] at fin
  by_cases h9' : f.k = 9
  · rw [if_neg (by omega), if_pos h9'] at fin
    have hru := h9 h9'
    simp only [ruleB, Bool.and_eq_true, decide_eq_true_eq, numB_iff] at hru
    have hkeep : keepOk f = true := decide_eq_true (by omega)
    (repeat first | refine gS ?_ | refine gA fun _ => ?_ | refine gX fun _ _ => ?_ | refine gT ?_ | refine gF ?_ | refine gI ?_)
    refine gY ?_
    refine expireD (f := f) hd hw (by omega) fun v _ => ?_
    rw [if_pos hkeep, if_pos hkeep]
    (repeat first | refine gS ?_ | refine gA fun _ => ?_)
    have hxn : ∀ x ∈ expireL M f, x.1.length ≤ 1000 := fun x hx => by
      obtain ⟨k, hk, hxk⟩ := List.mem_flatMap.1 hx
      obtain ⟨j, _, hj⟩ := List.mem_filterMap.1 hxk
      obtain ⟨w, hw1, hw2⟩ := nms_mem.1 hk
      have hok := hw.nm w hw1
      have : x.1 = k := by
        split at hj
        · cases hj
        · split at hj
          · cases hj
          · cases hj; rfl
      rw [this, ← hw2]
      simp only [nameOk, decide_eq_true_eq] at hok
      omega
    have hrec' := hrec h9'
    have hLl := expireL_len hw f
    generalize hL : expireL M f = L0 at fin hxn hLl ⊢
    refine sm (G := cel true a 88 [fv.1, sv.1, I M.now] :: spool fC Pf :: spool vC Lv :: spool rfC Lr :: spool shC Ps :: spool hC Lh :: sls hC 53 2 v L0 :: cel true b3 60 (faL f rv hv mv) :: H) ?_
    refine E_dbkS hd rfl ?_
    refine E_loop (n := 3) (σ := Nat) (fun i => i ≤ L0.length) (fun i => [ptr a, v, I i])
      (fun i => dbk a ((L0.take i).foldl stepD M) :: sls hC 53 2 v L0 :: cel true b3 60 (faL f rv hv mv) :: H) (fun i => L0.length - i) 0 (fun _ => rfl) rfl (Nat.zero_le _) (fun W hW => by
        rw [List.take_zero, List.foldl_nil] at hW
        exact sm hW) ?_
    rintro i K0 hi hk0
    refine E_fa fun _ => ?_
    refine E_rslen (v := v) (l := L0) ?_
    refine E_lss ?_
    refine E_if (fun hc1 => ?_) (fun hc1 => ?_)
    · have hx : L0[i]? = some L0[i] := List.getElem?_eq_getElem (by omega)
      have hxm := List.mem_of_getElem? hx
      generalize L0[i] = x at hx hxm
      (repeat first | refine gS ?_ | refine gA fun _ => ?_ | refine gX fun _ _ => ?_ | refine gT ?_ | refine gF ?_ | refine gI ?_)
      refine E_build (l := faL (dropF x) nil nil nil) str_fact ?_
      refine hrec' _ x _ _ (hw.fold _) (hxn x hxm) fun e => ?_
      refine E_addI (by omega) (by omega) ?_
      have hk1 := hk0 (i + 1) (by omega) (by omega)
      rw [List.take_add_one, hx, List.foldl_append, Option.toList_some, List.foldl_cons, List.foldl_nil] at hk1
      exact sm hk1
    · have hie : i = L0.length := by omega
      subst hie
      rw [List.take_length]
      exact sm (fin _ rfl)
  by_cases h7 : f.k = 7
  · rw [if_pos h7] at fin
    have hm4 : ∀ G, Rs B (G ++ (cel true b3 60 (faL f rv hv mv) :: H)) mv mvC f.moves := fun G => rs_midA G [cel true b3 60 (faL f rv hv mv)] hr3
    (repeat first | refine gS ?_ | refine gA fun _ => ?_ | refine gX fun _ _ => ?_ | refine gT ?_ | refine gF ?_ | refine gI ?_)
    refine E_dbkS hd rfl ?_
    clear hd rf rs hlen hL hlS
    refine E_loop (n := 3) (σ := Nat) (fun i => i ≤ (nms M.V).length) (fun i => [ptr a, ptr b3, I i])
      (fun i => dbk a { M with V := mvS f.moves ((nms M.V).take i) M.V } :: cel true b3 60 (faL f rv hv mv) :: H) (fun i => (nms M.V).length - i) 0 (fun _ => rfl) rfl (Nat.zero_le _) (fun W hW => by
        simp only [List.take_zero, mvS_nil] at hW
        exact sm hW) ?_
    rintro i K0 hi hk0
    refine E_fa fun _ => ?_
    refine E_dbk fun fv sv L LS Pf Lv Lr Ps Lh hd => ?_
    have hnmi : ∀ ns, nms (mvS f.moves ns M.V) = nms M.V := fun ns => nms_map fun v => by split <;> rfl
    have hlen : L.length = (nms M.V).length := by rw [hd.len]; show (nms (mvS f.moves ((nms M.V).take i) M.V)).length = _; rw [hnmi]
    have rf : ∀ H, Rs B (spool fC Pf :: H) fv.1 fC L := rs_pool hd.f
    (repeat first | refine gS ?_ | refine gA fun _ => ?_ | refine gX fun _ _ => ?_ | refine gT ?_ | refine gF ?_ | refine gI ?_)
    refine E_if (fun hc1 => ?_) (fun hc1 => ?_)
    · have hx : (nms M.V)[i]? = some (nms M.V)[i] := List.getElem?_eq_getElem (by omega)
      have hnk : (nms M.V)[i] ∉ (nms M.V).take i := fun hmem => by
        obtain ⟨j, hj, e⟩ := List.mem_take_iff_getElem.1 hmem
        have := List.pairwise_iff_getElem.1 hns j i (by omega) (by omega) (by omega)
        exact slt_ne this e
      generalize (nms M.V)[i] = k at hx hnk
      have hpi := posL_at hns hx
      have hkm := List.mem_of_getElem? hx
      obtain ⟨c, l, hx', hl⟩ := hd.get (k := k) (i := i) (by show (nms (mvS f.moves ((nms M.V).take i) M.V))[i]? = _; rw [hnmi]; exact hx)
      have hfk : fof (mvS f.moves ((nms M.V).take i) M.V) k = fof M.V k := by rw [fof_mvS, if_neg hnk]
      have hle := hl.e
      simp only [hfk] at hle
      have rl := rs_pool (B := B) (enc := vC) hl.m
      have hll : l.length = (fof M.V k).length := by rw [← hle, List.length_map]
      have hlf := hfl k
      have hlr := hl.r
      refine E_bsl0 u_vers elt_ver fun b0 => ?_
      refine E_slsC (enc := vC) [] 0 rfl rfl ?_
      refine E_loop (n := 5) (σ := Nat × Cv × List VR × List (Value × List Rf)) (fun s => s.1 ≤ l.length ∧ s.2.2.1.map (·.1) = (l.take s.1).map (fun p => moveV f.moves p.1) ∧ (∀ p ∈ s.2.2.1, (p.2.1, p.1.refs) ∈ s.2.2.2) ∧ (∀ p ∈ Lr, p ∈ s.2.2.2))
        (fun s => [ptr a, ptr b3, I i, s.2.1.1, I s.1]) (fun s => cel true a 88 [fv.1, sv.1, I M.now] :: spool fC Pf :: spool vC Lv :: spool rfC s.2.2.2 :: spool shC Ps :: spool hC Lh :: sls vC 31 4 s.2.1.1 s.2.2.1 :: cel true b3 60 (faL f rv hv mv) :: H) (fun s => l.length - s.1) (0, ⟨.slice (some ⟨b0, 0, none⟩) 0 0, rfl⟩, [], Lr) (fun _ => rfl) rfl ⟨Nat.zero_le _, rfl, by simp, fun p hp => hp⟩ (fun W hW => sm hW) ?_
      rintro ⟨j, cv, cl, Qr⟩ K1 ⟨hj, hcl, hcr, hQ⟩ hk1
      simp only at hj hcl hcr hQ hk1 ⊢
      have hcll : cl.length = j := by have := congrArg List.length hcl; simp at this; omega
      refine E_fa fun _ => ?_
      (repeat first | refine gS ?_ | refine gA fun _ => ?_ | refine gX fun _ _ => ?_ | refine gT ?_ | refine gF ?_ | refine gI ?_)
      refine E_if (fun hc2 => ?_) (fun hc2 => ?_)
      · have hy : l[j]? = some l[j] := List.getElem?_eq_getElem (by omega)
        have hym := hlr _ (List.mem_of_getElem? hy)
        have hyV : (l[j]).1 ∈ M.V := (fof_mem.1 (hle ▸ List.mem_map_of_mem (List.getElem_mem _))).1
        generalize l[j] = x at hy hym hyV
        have hrx := hw.r _ hyV
        have rp := rs_pool (B := B) (enc := rfC) (hQ _ hym)
        (repeat first | refine gS ?_ | refine gA fun _ => ?_ | refine gX fun _ _ => ?_ | refine gT ?_ | refine gF ?_ | refine gI ?_)
        rename_i b23
        refine E_stW (vs := [I x.1.gen, I x.1.time, x.2.1, .bool x.1.gone]) rfl rfl ?_
        (repeat first | refine gS ?_ | refine gA fun _ => ?_ | refine gX fun _ _ => ?_ | refine gT ?_ | refine gF ?_ | refine gI ?_)
        refine moveRD (l := x.1.refs) (ms := f.moves) (fun G => rs_app G inferInstance) (fun G => ?_) (by omega) (by omega) fun v' n hv' => ?_
        · exact rs_midA G [_, _, _, _, _, _, _, _] hm4
        (repeat first | refine gS ?_ | refine gA fun _ => ?_ | refine gX fun _ _ => ?_ | refine gT ?_ | refine gF ?_ | refine gI ?_)
        refine fd (a := sls vC 31 4 cv.1 cl) ?_
        refine E_sapp1 (enc := vC) ((moveV f.moves x.1, ⟨v', hv'.pf⟩) : VR) u_vers elt_ver rfl (by decide) (by omega) (by omega) fun v3 hv3 => ?_
        refine fd (a := spool rfC Qr) ?_
        refine fd (a := sls rfC 38 35 v' (x.1.refs.map (moveR f.moves))) ?_
        refine E_give ?_
        refine E_addI (by omega) (by omega) ?_
        refine sm (hk1 (j + 1, ⟨v3, hv3.pf⟩, cl ++ [((moveV f.moves x.1, ⟨v', hv'.pf⟩) : VR)], (v', x.1.refs.map (moveR f.moves)) :: Qr) ⟨by simp only; omega, ?_, fun p hp => ?_, fun p hp => List.mem_cons_of_mem _ (hQ p hp)⟩ (by simp only; omega))
        · simp only
          rw [List.map_append, hcl, List.take_add_one, hy, List.map_append]; rfl
        · rcases List.mem_append.1 hp with hp | hp
          · exact List.mem_cons_of_mem _ (hcr p hp)
          · simp only [List.mem_singleton] at hp
            subst hp; exact List.mem_cons_self
      · have hje : j = l.length := by omega
        rw [hje, List.take_length] at hcl
        refine E_addI (by omega) (by omega) ?_
        (repeat first | refine gS ?_ | refine gA fun _ => ?_ | refine gX fun _ _ => ?_ | refine gT ?_ | refine gF ?_ | refine gI ?_)
        refine E_build (l := [str k, cv.1]) str_file ?_
        refine E_bsl [(0, 2)] u_fileL elt_file (by simp) (by decide) (l0 := [.string ⟨#[]⟩, nil]) rfl fun bx => ?_
        refine E_slsC (enc := fC) [((k, cv) : FC)] 1 rfl rfl ?_
        rw [show (i : Int) + 1 = ((i + 1 : Nat) : Int) by omega]
        refine sm (G := cel true a 88 [fv.1, sv.1, I M.now] :: spool fC Pf :: spool vC Lv :: spool rfC Qr :: spool shC Ps :: spool hC Lh :: sls fC 86 2 (.slice (some ⟨bx, 0, none⟩) 1 1) [((k, cv) : FC)] :: sls vC 31 4 cv.1 cl :: cel true b3 60 (faL f rv hv mv) :: H) ?_
        refine withD (L := L) (ms := [((k, cv) : FC)]) hd.f (by omega) (by omega) (by omega) (by simp) (fun G => rs_app G inferInstance) fun v' hv' => ?_
        refine E_addI (by omega) (by omega) ?_
        refine fd (a := spool vC Lv) ?_
        refine fd (a := sls vC 31 4 cv.1 cl) ?_
        refine E_give ?_
        have htk : (nms M.V).take (i + 1) = (nms M.V).take i ++ [k] := by rw [List.take_add_one, hx]; rfl
        have hv'' : cl.map (·.1) = fof (mvS f.moves ((nms M.V).take (i + 1)) M.V) k := by
          rw [fof_mvS, if_pos (by rw [htk]; simp), ← hle, hcl, List.map_map]; rfl
        have hfs := hd.fs.put (k := k) (V' := mvS f.moves ((nms M.V).take (i + 1)) M.V) (Lv' := (cv.1, cl) :: Lv) (Lr' := Qr) (c := cv) (by
          show SrtN (mvS f.moves ((nms M.V).take i) M.V)
          exact (srtG_map hw.v fun v => by split <;> exact ⟨rfl, rfl⟩).n) (by show k ∈ nms (mvS f.moves ((nms M.V).take i) M.V); rw [hnmi]; exact hkm) (by rw [hnmi]; exact (hnmi _).symm) (fun k' hk' => by
          show _ = fof (mvS f.moves ((nms M.V).take i) M.V) k'
          rw [fof_mvS, fof_mvS, htk]; simp [hk']) ⟨by simp, hv'', hcr⟩ (fun _ h => List.mem_cons_of_mem _ h) hQ
        have hpi' : posL (nms (mvS f.moves ((nms M.V).take i) M.V)) k = i := by rw [hnmi]; exact hpi
        simp only [hpi'] at hfs
        refine sm (G := cel true a 88 [v', sv.1, I M.now] :: spool fC ((v', L.take i ++ [((k, cv) : FC)] ++ L.drop (i + 1)) :: Pf) :: spool vC ((cv.1, cl) :: Lv) :: spool rfC Qr :: spool shC Ps :: spool hC Lh :: cel true b3 60 (faL f rv hv mv) :: H) ?_
        refine E_dbkS (M := { M with V := mvS f.moves ((nms M.V).take (i + 1)) M.V }) (fv := ⟨v', hv'.pf⟩) (L := L.take i ++ [((k, cv) : FC)] ++ L.drop (i + 1)) ⟨by simp, hfs, hd.s, hd.sh⟩ rfl ?_
        exact hk0 (i + 1) (by omega) (by omega)
    · have hie : i = (nms M.V).length := by omega
      subst hie
      refine E_dbkS hd rfl ?_
      rw [List.take_length, mvS_all _ _ hw.v.n]
      exact fin _ rfl
  rw [if_neg h7, if_neg h9'] at fin
  (repeat first | refine gS ?_ | refine gA fun _ => ?_ | refine gX fun _ _ => ?_ | refine gT ?_ | refine gF ?_ | refine gI ?_)
  exact E_dbkS hd rfl (sm (fin _ rfl))
theorem applyD [CellI rv] [CellI hv] [CellI mv] [hr1 : Rs B H rv rfC f.refs] [hr2 : Rs B H hv hC f.held] [hr3 : ∀ G, Rs B (G ++ H) mv mvC f.moves] (ho : FaOk f) (hw : Inv M)
    (h : E B (dbk a (stepM M f) :: H) (K (I (checkB M f)))) : E B (dbk a M :: H) (CF Tryz.prog 34 [ptr a, .agg (faL f rv hv mv).toArray] K) := by
  have rn : ∀ {α : Type} {enc : α → List Value} (H' : List Asrt), Rs B H' nil enc [] := fun H' => ⟨fun _ => .inl ⟨rfl, rfl, rfl⟩⟩
  refine applyD0 ho hw (fun _ M' x H' K' hw' hx hk => ?_) h
  have i1 : Rs B H' nil rfC (dropF x).refs := rn (enc := rfC) H'
  have i2 : Rs B H' nil hC (dropF x).held := rn (enc := hC) H'
  have i3 : ∀ G, Rs B (G ++ H') nil mvC (dropF x).moves := fun G => rn (enc := mvC) _
  refine applyD0 (f := dropF x) (hr1 := i1) (hr2 := i2) (hr3 := i3) ⟨by show x.1.length ≤ _; omega, Nat.zero_le _, Nat.zero_le _, Nat.zero_le _, fun h hh => by cases hh⟩ hw' (fun e => by cases e) ?_
  rw [stepD_eq]
  exact hk _
end Go.Proofs.YtjafpncngmbcdaaGreat.Nam
