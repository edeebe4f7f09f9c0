/-
  The document's Copies; what must be whatever is asked.
-/
import Derived.Test.YtfholicobkpilaaCleanJ
set_option linter.unusedSimpArgs false
set_option linter.unusedVariables false
set_option linter.unusedSectionVars false
namespace Go.Proofs.Ytfholicobkpilaa.Clean
open Go Go.SL Go.Proofs Go.Proofs.Ytfholicobkpilaa Go.Proofs.Ytfholicobkpilaa.Sh Go.Proofs.Ytfholicobkpilaa.HeapM Go.RowKit Go.Proofs.Ytfholicobkpilaa.Copy
open Go.Proofs.Ytfholicobkpilaa.Disk (u_ints u_int elt_int sortOk)
variable {B : World} {H : List Asrt} {K : Value → WT} {W : WT}
theorem ins_strict {r : List Int} {x : Int} {k : Nat} (hk : k ≤ r.length) (hs : r.Pairwise (· < ·)) (h1 : ∀ y ∈ r.take k, y < x) (h2 : k = r.length ∨ x < r.getD k 0) :
    (r.take k ++ [x] ++ r.drop k).Pairwise (· < ·) ∧ ∀ y, y ∈ r.take k ++ [x] ++ r.drop k ↔ y ∈ r ∨ y = x := by
  have hsp : (r.take k ++ r.drop k).Pairwise (· < ·) := by rw [List.take_append_drop]; exact hs
  obtain ⟨s1, s2, s3⟩ := List.pairwise_append.1 hsp
  have hx : ∀ z ∈ r.drop k, x < z := fun z hz => by
    rcases h2 with rfl | hlt
    · simp at hz
    · by_cases hkl : k < r.length
      · rw [List.drop_eq_getElem_cons hkl] at hz s2
        rw [List.getD_eq_getElem?_getD, List.getElem?_eq_getElem hkl] at hlt
        have hlt : x < r[k] := hlt
        rcases List.mem_cons.1 hz with rfl | hz
        · exact hlt
        · have := (List.pairwise_cons.1 s2).1 z hz; omega
      · rw [List.drop_of_length_le (by omega)] at hz; cases hz
  refine ⟨List.pairwise_append.2 ⟨List.pairwise_append.2 ⟨s1, List.pairwise_singleton .., fun a ha b hb => by simp at hb; subst hb; exact h1 a ha⟩, s2, fun a ha b hb => ?_⟩, fun y => ?_⟩
  · rcases List.mem_append.1 ha with ha | ha
    · exact s3 a ha b hb
    · simp at ha; subst ha; exact hx b hb
  · have e : y ∈ r ↔ y ∈ r.take k ∨ y ∈ r.drop k := by
      conv => lhs; rw [← List.take_append_drop k r]
      exact List.mem_append
    rw [e]
    simp only [List.mem_append, List.mem_singleton]
    constructor
    · rintro ((h | h) | h)
      · exact .inl (.inl h)
      · exact .inr h
      · exact .inl (.inr h)
    · rintro ((h | h) | h)
      · exact .inl (.inl h)
      · exact .inr h
      · exact .inl (.inr h)
theorem getD_some {l : List Int} {i : Nat} (h : i < l.length) : l[i]? = some (l.getD i 0) := by rw [List.getD_eq_getElem?_getD, List.getElem?_eq_getElem h]; rfl
attribute [local irreducible] S.pick S.ld S.ldN S.st S.box S.nc S.fad S.ixS S.ixA S.chr S.prt S.ext S.bin S.sh S.sbin S.beq S.neg1 S.com1 S.not1 S.cvt S.str1 S.lenS S.len S.cap S.lenM S.mx S.mn S.mkM S.cond S.gd S.fa S.dr S.rck S.join S.loop S.cvv S.eqv S.slc S.slcS S.b2s S.lk V U CF Gives E cel mpb osl ros dct dit itr lpo dfo
attribute [local irreducible] sls row
set_option maxRecDepth 4000
theorem rcopies {sv : Value} {sp : List (Int × Int)} {bin : Int} [Rs B H sv spc sp] (hl2 : sp.length * 16 ≤ 140737488351232)
    (h : ∀ v l [CellI v], CopiesOf sp bin l → l.length ≤ sp.length → E B (sls cI 3 1 v l :: H) (K v)) : E B H (CF Try.prog 37 [I bin, sv] K) := by
  refine E_mono (W := s37 _ _ K) ?_ fun _ => c37
  unfold s37
  refine E_sbsl0 (sz := 1) cI u_ints elt_int fun ov0 _ => ?_
  refine E_loop (σ := (Nat × List Int) × Value) (fun s => s.1.1 ≤ sp.length ∧ CopiesOf (sp.take s.1.1) bin s.1.2 ∧ s.1.2.length ≤ s.1.1 ∧ isCell s.2 = true) (fun s => [I bin, sv, s.2, I s.1.1]) (fun s => sls cI 3 1 s.2 s.1.2 :: H) (fun s => sp.length - s.1.1) ((0, []), ov0) (fun _ => rfl) rfl
    ⟨Nat.zero_le _, ⟨List.Pairwise.nil, by simp⟩, Nat.zero_le _, CellI.pf⟩ (fun W hW => hW) ?_
  rintro ⟨⟨i, r⟩, ov⟩ K0 ⟨hi, hr, hrl, hov⟩ hk
  simp only at hi hr hrl hov hk ⊢
  have iov : CellI ov := ⟨hov⟩
  refine E_fa fun _ => ?_
  refine E_rslen (v := sv) ?_
  (repeat (first | (refine E_ld ?_) | (refine E_fad0 ?_) | (refine E_fad ?_) | (refine E_nc ?_) | (refine E_tt ?_) | (refine E_ff ?_) | (refine E_st ?_) | (refine E_len ?_) | (refine E_lenS ?_) | (refine E_box fun _ => ?_) | (refine E_eql ?_) | (refine E_neq ?_) | (refine E_lss ?_) | (refine E_leq ?_) | (refine E_gtr ?_) | (refine E_geq ?_) | (refine E_ext ?_) | (refine E_prt ?_) | (refine E_mx ?_) | (refine E_mn ?_) | (refine E_cap ?_) | (refine E_gdu ?_) | (refine E_fa fun _ => ?_) | (refine E_dr ?_) | (refine E_nc_f ?_) | (refine E_nc_i ?_) | (refine E_not ?_) | (refine E_str1 ?_) | (refine E_rck0 ?_) | (refine E_gff ?_) | (refine E_gtt ?_) | (refine E_gft ?_) | (refine E_gtf ?_) | (refine E_pff ?_) | (refine E_ptt ?_) | (refine E_streqS ?_) | (refine E_strneS ?_) | (refine E_streq ?_) | (refine E_strne ?_) | (refine E_stA ?_) | (refine E_ldNA ?_) | (refine E_ptfad0 fun _ _ => ?_) | (refine E_ptfad fun _ _ => ?_) | (refine E_ptld ?_) | (refine E_ptldA ?_) | (refine E_rsix (by assumption) fun _ _ => ?_) | (refine E_rslen ?_) | (refine E_ifT (by assumption) ?_) | (refine E_ifF (by assumption) ?_) | (refine E_gdT (by assumption) ?_) | (refine E_gdF (by assumption) ?_) | (refine E_gdnT (by assumption) ?_) | (refine E_gdnF (by assumption) ?_) | (refine E_pickT (by assumption) ?_) | (refine E_pickF (by assumption) ?_) | (refine E_ifT (by decide) ?_) | (refine E_ifF (by decide) ?_) | (refine E_gdT (by decide) ?_) | (refine E_gdF (by decide) ?_) | (refine E_gdnT (by decide) ?_) | (refine E_gdnF (by decide) ?_) | (refine E_pickT (by decide) ?_) | (refine E_pickF (by decide) ?_) | (refine E_ixN (by omega) ?_) | (refine E_ld' (by assumption) ?_) | (refine E_addI (by omega) (by omega) ?_) | (refine E_subI (by omega) (by omega) ?_) | (refine E_mulI (by omega) (by omega) ?_)))
  refine E_if (fun hc => ?_) (fun hc => ?_)
  · have hs : sp[i]? = some sp[i] := List.getElem?_eq_getElem (by omega)
    generalize sp[i] = x at hs
    have e : sp.take (i + 1) = sp.take i ++ [x] := by rw [List.take_add_one, hs]; rfl
    refine E_joinC (σ := List Int × Value) (fun s => CopiesOf (sp.take (i + 1)) bin s.1 ∧ s.1.length ≤ i + 1 ∧ isCell s.2 = true) (fun s => [I bin, sv, s.2, I i]) (fun s => sls cI 3 1 s.2 s.1 :: H) (fun k hk2 => ?_) (fun s hs' => ?_)
    · refine E_rsix (v := sv) hs fun _ _ => ?_
      (repeat (first | (refine E_ld ?_) | (refine E_fad0 ?_) | (refine E_fad ?_) | (refine E_nc ?_) | (refine E_tt ?_) | (refine E_ff ?_) | (refine E_st ?_) | (refine E_len ?_) | (refine E_lenS ?_) | (refine E_box fun _ => ?_) | (refine E_eql ?_) | (refine E_neq ?_) | (refine E_lss ?_) | (refine E_leq ?_) | (refine E_gtr ?_) | (refine E_geq ?_) | (refine E_ext ?_) | (refine E_prt ?_) | (refine E_mx ?_) | (refine E_mn ?_) | (refine E_cap ?_) | (refine E_gdu ?_) | (refine E_fa fun _ => ?_) | (refine E_dr ?_) | (refine E_nc_f ?_) | (refine E_nc_i ?_) | (refine E_not ?_) | (refine E_str1 ?_) | (refine E_rck0 ?_) | (refine E_gff ?_) | (refine E_gtt ?_) | (refine E_gft ?_) | (refine E_gtf ?_) | (refine E_pff ?_) | (refine E_ptt ?_) | (refine E_streqS ?_) | (refine E_strneS ?_) | (refine E_streq ?_) | (refine E_strne ?_) | (refine E_stA ?_) | (refine E_ldNA ?_) | (refine E_ptfad0 fun _ _ => ?_) | (refine E_ptfad fun _ _ => ?_) | (refine E_ptld ?_) | (refine E_ptldA ?_) | (refine E_rsix (by assumption) fun _ _ => ?_) | (refine E_rslen ?_) | (refine E_ifT (by assumption) ?_) | (refine E_ifF (by assumption) ?_) | (refine E_gdT (by assumption) ?_) | (refine E_gdF (by assumption) ?_) | (refine E_gdnT (by assumption) ?_) | (refine E_gdnF (by assumption) ?_) | (refine E_pickT (by assumption) ?_) | (refine E_pickF (by assumption) ?_) | (refine E_ifT (by decide) ?_) | (refine E_ifF (by decide) ?_) | (refine E_gdT (by decide) ?_) | (refine E_gdF (by decide) ?_) | (refine E_gdnT (by decide) ?_) | (refine E_gdnF (by decide) ?_) | (refine E_pickT (by decide) ?_) | (refine E_pickF (by decide) ?_) | (refine E_ixN (by omega) ?_) | (refine E_ld' (by assumption) ?_) | (refine E_addI (by omega) (by omega) ?_) | (refine E_subI (by omega) (by omega) ?_) | (refine E_mulI (by omega) (by omega) ?_)))
      refine E_if (fun hx => ?_) (fun hx => ?_)
      · refine hk2 (r, ov) ⟨⟨hr.lt, fun s => ?_⟩, by simp only; omega, hov⟩
        rw [hr.mem, e, List.mem_append, List.mem_singleton]
        constructor
        · exact .inl
        · rintro (h | h)
          · exact h
          · exact absurd (by rw [← h]) hx
      have hx' : x.1 = bin := by simpa using hx
      refine E_loop (σ := Nat) (fun k => k ≤ r.length ∧ ∀ y ∈ r.take k, y < x.2) (fun k => [I bin, sv, ov, I i, I k]) (fun _ => sls cI 3 1 ov r :: H) (fun k => r.length - k) 0 (fun _ => rfl) rfl ⟨Nat.zero_le _, by simp⟩ (fun W hW => hW) ?_
      intro j K5 ⟨hj, hjs⟩ hk5
      refine E_fa fun _ => ?_
      refine E_join1 [I bin, sv, ov, I i, I j, .bool (decide (j < r.length ∧ r.getD j 0 < x.2))] (sls cI 3 1 ov r :: H) (fun k6 hk6 => ?_) ?_
      · have fin : ∀ q : Bool, decide (j < r.length ∧ r.getD j 0 < x.2) = q → E B (sls cI 3 1 ov r :: H) (app 6 k6 [I bin, sv, ov, I i, I j, .bool q]) := fun q hq => hq ▸ hk6
        refine E_dr ?_
        refine E_rslen (v := ov) ?_
        (repeat (first | (refine E_ld ?_) | (refine E_fad0 ?_) | (refine E_fad ?_) | (refine E_nc ?_) | (refine E_tt ?_) | (refine E_ff ?_) | (refine E_st ?_) | (refine E_len ?_) | (refine E_lenS ?_) | (refine E_box fun _ => ?_) | (refine E_eql ?_) | (refine E_neq ?_) | (refine E_lss ?_) | (refine E_leq ?_) | (refine E_gtr ?_) | (refine E_geq ?_) | (refine E_ext ?_) | (refine E_prt ?_) | (refine E_mx ?_) | (refine E_mn ?_) | (refine E_cap ?_) | (refine E_gdu ?_) | (refine E_fa fun _ => ?_) | (refine E_dr ?_) | (refine E_nc_f ?_) | (refine E_nc_i ?_) | (refine E_not ?_) | (refine E_str1 ?_) | (refine E_rck0 ?_) | (refine E_gff ?_) | (refine E_gtt ?_) | (refine E_gft ?_) | (refine E_gtf ?_) | (refine E_pff ?_) | (refine E_ptt ?_) | (refine E_streqS ?_) | (refine E_strneS ?_) | (refine E_streq ?_) | (refine E_strne ?_) | (refine E_stA ?_) | (refine E_ldNA ?_) | (refine E_ptfad0 fun _ _ => ?_) | (refine E_ptfad fun _ _ => ?_) | (refine E_ptld ?_) | (refine E_ptldA ?_) | (refine E_rsix (by assumption) fun _ _ => ?_) | (refine E_rslen ?_) | (refine E_ifT (by assumption) ?_) | (refine E_ifF (by assumption) ?_) | (refine E_gdT (by assumption) ?_) | (refine E_gdF (by assumption) ?_) | (refine E_gdnT (by assumption) ?_) | (refine E_gdnF (by assumption) ?_) | (refine E_pickT (by assumption) ?_) | (refine E_pickF (by assumption) ?_) | (refine E_ifT (by decide) ?_) | (refine E_ifF (by decide) ?_) | (refine E_gdT (by decide) ?_) | (refine E_gdF (by decide) ?_) | (refine E_gdnT (by decide) ?_) | (refine E_gdnF (by decide) ?_) | (refine E_pickT (by decide) ?_) | (refine E_pickF (by decide) ?_) | (refine E_ixN (by omega) ?_) | (refine E_ld' (by assumption) ?_) | (refine E_addI (by omega) (by omega) ?_) | (refine E_subI (by omega) (by omega) ?_) | (refine E_mulI (by omega) (by omega) ?_)))
        by_cases d1 : (j : Int) < (r.length : Int)
        · have hsj := getD_some (l := r) (i := j) (by omega)
          refine E_gdT d1 ?_
          refine E_gdT d1 ?_
          refine E_gdT d1 ?_
          refine E_rsix (v := ov) hsj fun _ _ => ?_
          (repeat (first | (refine E_ld ?_) | (refine E_fad0 ?_) | (refine E_fad ?_) | (refine E_nc ?_) | (refine E_tt ?_) | (refine E_ff ?_) | (refine E_st ?_) | (refine E_len ?_) | (refine E_lenS ?_) | (refine E_box fun _ => ?_) | (refine E_eql ?_) | (refine E_neq ?_) | (refine E_lss ?_) | (refine E_leq ?_) | (refine E_gtr ?_) | (refine E_geq ?_) | (refine E_ext ?_) | (refine E_prt ?_) | (refine E_mx ?_) | (refine E_mn ?_) | (refine E_cap ?_) | (refine E_gdu ?_) | (refine E_fa fun _ => ?_) | (refine E_dr ?_) | (refine E_nc_f ?_) | (refine E_nc_i ?_) | (refine E_not ?_) | (refine E_str1 ?_) | (refine E_rck0 ?_) | (refine E_gff ?_) | (refine E_gtt ?_) | (refine E_gft ?_) | (refine E_gtf ?_) | (refine E_pff ?_) | (refine E_ptt ?_) | (refine E_streqS ?_) | (refine E_strneS ?_) | (refine E_streq ?_) | (refine E_strne ?_) | (refine E_stA ?_) | (refine E_ldNA ?_) | (refine E_ptfad0 fun _ _ => ?_) | (refine E_ptfad fun _ _ => ?_) | (refine E_ptld ?_) | (refine E_ptldA ?_) | (refine E_rsix (by assumption) fun _ _ => ?_) | (refine E_rslen ?_) | (refine E_ifT (by assumption) ?_) | (refine E_ifF (by assumption) ?_) | (refine E_gdT (by assumption) ?_) | (refine E_gdF (by assumption) ?_) | (refine E_gdnT (by assumption) ?_) | (refine E_gdnF (by assumption) ?_) | (refine E_pickT (by assumption) ?_) | (refine E_pickF (by assumption) ?_) | (refine E_ifT (by decide) ?_) | (refine E_ifF (by decide) ?_) | (refine E_gdT (by decide) ?_) | (refine E_gdF (by decide) ?_) | (refine E_gdnT (by decide) ?_) | (refine E_gdnF (by decide) ?_) | (refine E_pickT (by decide) ?_) | (refine E_pickF (by decide) ?_) | (refine E_ixN (by omega) ?_) | (refine E_ld' (by assumption) ?_) | (refine E_addI (by omega) (by omega) ?_) | (refine E_subI (by omega) (by omega) ?_) | (refine E_mulI (by omega) (by omega) ?_)))
          exact fin _ (by rw [decide_eq_decide]; constructor
                          · exact fun h => h.2
                          · exact fun h => ⟨by omega, h⟩)
        · (repeat (first | (refine E_ld ?_) | (refine E_fad0 ?_) | (refine E_fad ?_) | (refine E_nc ?_) | (refine E_tt ?_) | (refine E_ff ?_) | (refine E_st ?_) | (refine E_len ?_) | (refine E_lenS ?_) | (refine E_box fun _ => ?_) | (refine E_eql ?_) | (refine E_neq ?_) | (refine E_lss ?_) | (refine E_leq ?_) | (refine E_gtr ?_) | (refine E_geq ?_) | (refine E_ext ?_) | (refine E_prt ?_) | (refine E_mx ?_) | (refine E_mn ?_) | (refine E_cap ?_) | (refine E_gdu ?_) | (refine E_fa fun _ => ?_) | (refine E_dr ?_) | (refine E_nc_f ?_) | (refine E_nc_i ?_) | (refine E_not ?_) | (refine E_str1 ?_) | (refine E_rck0 ?_) | (refine E_gff ?_) | (refine E_gtt ?_) | (refine E_gft ?_) | (refine E_gtf ?_) | (refine E_pff ?_) | (refine E_ptt ?_) | (refine E_streqS ?_) | (refine E_strneS ?_) | (refine E_streq ?_) | (refine E_strne ?_) | (refine E_stA ?_) | (refine E_ldNA ?_) | (refine E_ptfad0 fun _ _ => ?_) | (refine E_ptfad fun _ _ => ?_) | (refine E_ptld ?_) | (refine E_ptldA ?_) | (refine E_rsix (by assumption) fun _ _ => ?_) | (refine E_rslen ?_) | (refine E_ifT (by assumption) ?_) | (refine E_ifF (by assumption) ?_) | (refine E_gdT (by assumption) ?_) | (refine E_gdF (by assumption) ?_) | (refine E_gdnT (by assumption) ?_) | (refine E_gdnF (by assumption) ?_) | (refine E_pickT (by assumption) ?_) | (refine E_pickF (by assumption) ?_) | (refine E_ifT (by decide) ?_) | (refine E_ifF (by decide) ?_) | (refine E_gdT (by decide) ?_) | (refine E_gdF (by decide) ?_) | (refine E_gdnT (by decide) ?_) | (refine E_gdnF (by decide) ?_) | (refine E_pickT (by decide) ?_) | (refine E_pickF (by decide) ?_) | (refine E_ixN (by omega) ?_) | (refine E_ld' (by assumption) ?_) | (refine E_addI (by omega) (by omega) ?_) | (refine E_subI (by omega) (by omega) ?_) | (refine E_mulI (by omega) (by omega) ?_)))
          exact fin _ (by exact decide_eq_false (by omega))
      refine E_fa fun _ => ?_
      refine E_if (fun hc => ?_) (fun hc => ?_)
      · (repeat (first | (refine E_ld ?_) | (refine E_fad0 ?_) | (refine E_fad ?_) | (refine E_nc ?_) | (refine E_tt ?_) | (refine E_ff ?_) | (refine E_st ?_) | (refine E_len ?_) | (refine E_lenS ?_) | (refine E_box fun _ => ?_) | (refine E_eql ?_) | (refine E_neq ?_) | (refine E_lss ?_) | (refine E_leq ?_) | (refine E_gtr ?_) | (refine E_geq ?_) | (refine E_ext ?_) | (refine E_prt ?_) | (refine E_mx ?_) | (refine E_mn ?_) | (refine E_cap ?_) | (refine E_gdu ?_) | (refine E_fa fun _ => ?_) | (refine E_dr ?_) | (refine E_nc_f ?_) | (refine E_nc_i ?_) | (refine E_not ?_) | (refine E_str1 ?_) | (refine E_rck0 ?_) | (refine E_gff ?_) | (refine E_gtt ?_) | (refine E_gft ?_) | (refine E_gtf ?_) | (refine E_pff ?_) | (refine E_ptt ?_) | (refine E_streqS ?_) | (refine E_strneS ?_) | (refine E_streq ?_) | (refine E_strne ?_) | (refine E_stA ?_) | (refine E_ldNA ?_) | (refine E_ptfad0 fun _ _ => ?_) | (refine E_ptfad fun _ _ => ?_) | (refine E_ptld ?_) | (refine E_ptldA ?_) | (refine E_rsix (by assumption) fun _ _ => ?_) | (refine E_rslen ?_) | (refine E_ifT (by assumption) ?_) | (refine E_ifF (by assumption) ?_) | (refine E_gdT (by assumption) ?_) | (refine E_gdF (by assumption) ?_) | (refine E_gdnT (by assumption) ?_) | (refine E_gdnF (by assumption) ?_) | (refine E_pickT (by assumption) ?_) | (refine E_pickF (by assumption) ?_) | (refine E_ifT (by decide) ?_) | (refine E_ifF (by decide) ?_) | (refine E_gdT (by decide) ?_) | (refine E_gdF (by decide) ?_) | (refine E_gdnT (by decide) ?_) | (refine E_gdnF (by decide) ?_) | (refine E_pickT (by decide) ?_) | (refine E_pickF (by decide) ?_) | (refine E_ixN (by omega) ?_) | (refine E_ld' (by assumption) ?_) | (refine E_addI (by omega) (by omega) ?_) | (refine E_subI (by omega) (by omega) ?_) | (refine E_mulI (by omega) (by omega) ?_)))
        refine hk5 (j + 1) ⟨by omega, fun y hy => ?_⟩ (by omega)
        rw [take_last hc.1] at hy
        rcases List.mem_append.1 hy with hy | hy
        · exact hjs y hy
        · rw [List.mem_singleton] at hy; subst hy; exact hc.2
      · refine E_join1 [I bin, sv, ov, I i, I j, .bool (decide (j < r.length ∧ r.getD j 0 = x.2))] (sls cI 3 1 ov r :: H) (fun k6 hk6 => ?_) ?_
        · have fin : ∀ q : Bool, decide (j < r.length ∧ r.getD j 0 = x.2) = q → E B (sls cI 3 1 ov r :: H) (app 6 k6 [I bin, sv, ov, I i, I j, .bool q]) := fun q hq => hq ▸ hk6
          refine E_dr ?_
          refine E_rslen (v := ov) ?_
          (repeat (first | (refine E_ld ?_) | (refine E_fad0 ?_) | (refine E_fad ?_) | (refine E_nc ?_) | (refine E_tt ?_) | (refine E_ff ?_) | (refine E_st ?_) | (refine E_len ?_) | (refine E_lenS ?_) | (refine E_box fun _ => ?_) | (refine E_eql ?_) | (refine E_neq ?_) | (refine E_lss ?_) | (refine E_leq ?_) | (refine E_gtr ?_) | (refine E_geq ?_) | (refine E_ext ?_) | (refine E_prt ?_) | (refine E_mx ?_) | (refine E_mn ?_) | (refine E_cap ?_) | (refine E_gdu ?_) | (refine E_fa fun _ => ?_) | (refine E_dr ?_) | (refine E_nc_f ?_) | (refine E_nc_i ?_) | (refine E_not ?_) | (refine E_str1 ?_) | (refine E_rck0 ?_) | (refine E_gff ?_) | (refine E_gtt ?_) | (refine E_gft ?_) | (refine E_gtf ?_) | (refine E_pff ?_) | (refine E_ptt ?_) | (refine E_streqS ?_) | (refine E_strneS ?_) | (refine E_streq ?_) | (refine E_strne ?_) | (refine E_stA ?_) | (refine E_ldNA ?_) | (refine E_ptfad0 fun _ _ => ?_) | (refine E_ptfad fun _ _ => ?_) | (refine E_ptld ?_) | (refine E_ptldA ?_) | (refine E_rsix (by assumption) fun _ _ => ?_) | (refine E_rslen ?_) | (refine E_ifT (by assumption) ?_) | (refine E_ifF (by assumption) ?_) | (refine E_gdT (by assumption) ?_) | (refine E_gdF (by assumption) ?_) | (refine E_gdnT (by assumption) ?_) | (refine E_gdnF (by assumption) ?_) | (refine E_pickT (by assumption) ?_) | (refine E_pickF (by assumption) ?_) | (refine E_ifT (by decide) ?_) | (refine E_ifF (by decide) ?_) | (refine E_gdT (by decide) ?_) | (refine E_gdF (by decide) ?_) | (refine E_gdnT (by decide) ?_) | (refine E_gdnF (by decide) ?_) | (refine E_pickT (by decide) ?_) | (refine E_pickF (by decide) ?_) | (refine E_ixN (by omega) ?_) | (refine E_ld' (by assumption) ?_) | (refine E_addI (by omega) (by omega) ?_) | (refine E_subI (by omega) (by omega) ?_) | (refine E_mulI (by omega) (by omega) ?_)))
          by_cases d1 : (j : Int) < (r.length : Int)
          · have hsj := getD_some (l := r) (i := j) (by omega)
            refine E_gdT d1 ?_
            refine E_gdT d1 ?_
            refine E_gdT d1 ?_
            refine E_rsix (v := ov) hsj fun _ _ => ?_
            (repeat (first | (refine E_ld ?_) | (refine E_fad0 ?_) | (refine E_fad ?_) | (refine E_nc ?_) | (refine E_tt ?_) | (refine E_ff ?_) | (refine E_st ?_) | (refine E_len ?_) | (refine E_lenS ?_) | (refine E_box fun _ => ?_) | (refine E_eql ?_) | (refine E_neq ?_) | (refine E_lss ?_) | (refine E_leq ?_) | (refine E_gtr ?_) | (refine E_geq ?_) | (refine E_ext ?_) | (refine E_prt ?_) | (refine E_mx ?_) | (refine E_mn ?_) | (refine E_cap ?_) | (refine E_gdu ?_) | (refine E_fa fun _ => ?_) | (refine E_dr ?_) | (refine E_nc_f ?_) | (refine E_nc_i ?_) | (refine E_not ?_) | (refine E_str1 ?_) | (refine E_rck0 ?_) | (refine E_gff ?_) | (refine E_gtt ?_) | (refine E_gft ?_) | (refine E_gtf ?_) | (refine E_pff ?_) | (refine E_ptt ?_) | (refine E_streqS ?_) | (refine E_strneS ?_) | (refine E_streq ?_) | (refine E_strne ?_) | (refine E_stA ?_) | (refine E_ldNA ?_) | (refine E_ptfad0 fun _ _ => ?_) | (refine E_ptfad fun _ _ => ?_) | (refine E_ptld ?_) | (refine E_ptldA ?_) | (refine E_rsix (by assumption) fun _ _ => ?_) | (refine E_rslen ?_) | (refine E_ifT (by assumption) ?_) | (refine E_ifF (by assumption) ?_) | (refine E_gdT (by assumption) ?_) | (refine E_gdF (by assumption) ?_) | (refine E_gdnT (by assumption) ?_) | (refine E_gdnF (by assumption) ?_) | (refine E_pickT (by assumption) ?_) | (refine E_pickF (by assumption) ?_) | (refine E_ifT (by decide) ?_) | (refine E_ifF (by decide) ?_) | (refine E_gdT (by decide) ?_) | (refine E_gdF (by decide) ?_) | (refine E_gdnT (by decide) ?_) | (refine E_gdnF (by decide) ?_) | (refine E_pickT (by decide) ?_) | (refine E_pickF (by decide) ?_) | (refine E_ixN (by omega) ?_) | (refine E_ld' (by assumption) ?_) | (refine E_addI (by omega) (by omega) ?_) | (refine E_subI (by omega) (by omega) ?_) | (refine E_mulI (by omega) (by omega) ?_)))
            exact fin _ (by rw [decide_eq_decide]; constructor
                            · exact fun h => h.2
                            · exact fun h => ⟨by omega, h⟩)
          · (repeat (first | (refine E_ld ?_) | (refine E_fad0 ?_) | (refine E_fad ?_) | (refine E_nc ?_) | (refine E_tt ?_) | (refine E_ff ?_) | (refine E_st ?_) | (refine E_len ?_) | (refine E_lenS ?_) | (refine E_box fun _ => ?_) | (refine E_eql ?_) | (refine E_neq ?_) | (refine E_lss ?_) | (refine E_leq ?_) | (refine E_gtr ?_) | (refine E_geq ?_) | (refine E_ext ?_) | (refine E_prt ?_) | (refine E_mx ?_) | (refine E_mn ?_) | (refine E_cap ?_) | (refine E_gdu ?_) | (refine E_fa fun _ => ?_) | (refine E_dr ?_) | (refine E_nc_f ?_) | (refine E_nc_i ?_) | (refine E_not ?_) | (refine E_str1 ?_) | (refine E_rck0 ?_) | (refine E_gff ?_) | (refine E_gtt ?_) | (refine E_gft ?_) | (refine E_gtf ?_) | (refine E_pff ?_) | (refine E_ptt ?_) | (refine E_streqS ?_) | (refine E_strneS ?_) | (refine E_streq ?_) | (refine E_strne ?_) | (refine E_stA ?_) | (refine E_ldNA ?_) | (refine E_ptfad0 fun _ _ => ?_) | (refine E_ptfad fun _ _ => ?_) | (refine E_ptld ?_) | (refine E_ptldA ?_) | (refine E_rsix (by assumption) fun _ _ => ?_) | (refine E_rslen ?_) | (refine E_ifT (by assumption) ?_) | (refine E_ifF (by assumption) ?_) | (refine E_gdT (by assumption) ?_) | (refine E_gdF (by assumption) ?_) | (refine E_gdnT (by assumption) ?_) | (refine E_gdnF (by assumption) ?_) | (refine E_pickT (by assumption) ?_) | (refine E_pickF (by assumption) ?_) | (refine E_ifT (by decide) ?_) | (refine E_ifF (by decide) ?_) | (refine E_gdT (by decide) ?_) | (refine E_gdF (by decide) ?_) | (refine E_gdnT (by decide) ?_) | (refine E_gdnF (by decide) ?_) | (refine E_pickT (by decide) ?_) | (refine E_pickF (by decide) ?_) | (refine E_ixN (by omega) ?_) | (refine E_ld' (by assumption) ?_) | (refine E_addI (by omega) (by omega) ?_) | (refine E_subI (by omega) (by omega) ?_) | (refine E_mulI (by omega) (by omega) ?_)))
            exact fin _ (by exact decide_eq_false (by omega))
        refine E_fa fun _ => ?_
        refine E_if (fun he => ?_) (fun he => ?_)
        · refine hk2 (r, ov) ⟨⟨hr.lt, fun s => ?_⟩, by simp only; omega, hov⟩
          rw [hr.mem, e, List.mem_append, List.mem_singleton]
          constructor
          · exact .inl
          · rintro (h | h)
            · exact h
            · have : s = r.getD j 0 := by rw [he.2, ← h]
              rw [← hr.mem, this]
              exact getD_mem he.1
        · have hd : j = r.length ∨ x.2 < r.getD j 0 := by
            by_cases hjr : j < r.length
            · right
              have h1 : ¬ r.getD j 0 < x.2 := fun h => hc ⟨hjr, h⟩
              have h2 : ¬ r.getD j 0 = x.2 := fun h => he ⟨hjr, h⟩
              omega
            · left; omega
          obtain ⟨i1, i2⟩ := ins_strict hj hr.lt hjs hd
          refine E_sbsl0 (sz := 1) cI u_ints elt_int fun n0 _ => ?_
          refine E_slcS2 (v := ov) (i := 0) (j := j) (by simp [S.bound]) rfl (by omega) hj fun w1 _ _ => ?_
          refine E_use (sls cI 3 1 n0) (E_sapps (u := w1) u_ints elt_int (by simp; omega) (by simp; omega) fun n1 _ => ?_)
          refine E_rsix (v := sv) hs fun _ _ => ?_
          (repeat (first | (refine E_ld ?_) | (refine E_fad0 ?_) | (refine E_fad ?_) | (refine E_nc ?_) | (refine E_tt ?_) | (refine E_ff ?_) | (refine E_st ?_) | (refine E_len ?_) | (refine E_lenS ?_) | (refine E_box fun _ => ?_) | (refine E_eql ?_) | (refine E_neq ?_) | (refine E_lss ?_) | (refine E_leq ?_) | (refine E_gtr ?_) | (refine E_geq ?_) | (refine E_ext ?_) | (refine E_prt ?_) | (refine E_mx ?_) | (refine E_mn ?_) | (refine E_cap ?_) | (refine E_gdu ?_) | (refine E_fa fun _ => ?_) | (refine E_dr ?_) | (refine E_nc_f ?_) | (refine E_nc_i ?_) | (refine E_not ?_) | (refine E_str1 ?_) | (refine E_rck0 ?_) | (refine E_gff ?_) | (refine E_gtt ?_) | (refine E_gft ?_) | (refine E_gtf ?_) | (refine E_pff ?_) | (refine E_ptt ?_) | (refine E_streqS ?_) | (refine E_strneS ?_) | (refine E_streq ?_) | (refine E_strne ?_) | (refine E_stA ?_) | (refine E_ldNA ?_) | (refine E_ptfad0 fun _ _ => ?_) | (refine E_ptfad fun _ _ => ?_) | (refine E_ptld ?_) | (refine E_ptldA ?_) | (refine E_rsix (by assumption) fun _ _ => ?_) | (refine E_rslen ?_) | (refine E_ifT (by assumption) ?_) | (refine E_ifF (by assumption) ?_) | (refine E_gdT (by assumption) ?_) | (refine E_gdF (by assumption) ?_) | (refine E_gdnT (by assumption) ?_) | (refine E_gdnF (by assumption) ?_) | (refine E_pickT (by assumption) ?_) | (refine E_pickF (by assumption) ?_) | (refine E_ifT (by decide) ?_) | (refine E_ifF (by decide) ?_) | (refine E_gdT (by decide) ?_) | (refine E_gdF (by decide) ?_) | (refine E_gdnT (by decide) ?_) | (refine E_gdnF (by decide) ?_) | (refine E_pickT (by decide) ?_) | (refine E_pickF (by decide) ?_) | (refine E_ixN (by omega) ?_) | (refine E_ld' (by assumption) ?_) | (refine E_addI (by omega) (by omega) ?_) | (refine E_subI (by omega) (by omega) ?_) | (refine E_mulI (by omega) (by omega) ?_)))
          refine E_use (sls cI 3 1 n1) (E_sapp1 x.2 u_ints elt_int rfl (by decide) (by simp; omega) (by simp; omega) fun n2 _ => ?_)
          refine E_slcS2 (v := ov) (i := j) (j := r.length) rfl (by simp [S.bound]) hj (Nat.le_refl _) fun w2 _ _ => ?_
          refine E_use (sls cI 3 1 n2) (E_sapps (u := w2) u_ints elt_int (by simp; omega) (by simp; omega) fun n3 _ => ?_)
          have e3 : [] ++ (r.drop 0).take (j - 0) ++ [x.2] ++ (r.drop j).take (r.length - j) = r.take j ++ [x.2] ++ r.drop j := by
            rw [List.drop_zero, Nat.sub_zero, List.nil_append]
            congr 1
            exact List.take_of_length_le (by simp)
          rw [e3]
          have hk' := hk2 (r.take j ++ [x.2] ++ r.drop j, n3) ⟨⟨i1, fun s => by
            rw [i2, hr.mem, e, List.mem_append, List.mem_singleton]
            constructor
            · rintro (h | h)
              · exact .inl h
              · exact .inr (by rw [h, ← hx'])
            · rintro (h | h)
              · exact .inl h
              · exact .inr (by rw [← h])⟩, by simp; omega, CellI.pf⟩
          exact E_same (by repeat (first | exact Same.refl | (refine Same.cons (by repeat (first | exact Find.here | apply Find.there)) ?_) | (refine Same.drop ?_))) hk'
    · refine E_fa fun _ => ?_
      (repeat (first | (refine E_ld ?_) | (refine E_fad0 ?_) | (refine E_fad ?_) | (refine E_nc ?_) | (refine E_tt ?_) | (refine E_ff ?_) | (refine E_st ?_) | (refine E_len ?_) | (refine E_lenS ?_) | (refine E_box fun _ => ?_) | (refine E_eql ?_) | (refine E_neq ?_) | (refine E_lss ?_) | (refine E_leq ?_) | (refine E_gtr ?_) | (refine E_geq ?_) | (refine E_ext ?_) | (refine E_prt ?_) | (refine E_mx ?_) | (refine E_mn ?_) | (refine E_cap ?_) | (refine E_gdu ?_) | (refine E_fa fun _ => ?_) | (refine E_dr ?_) | (refine E_nc_f ?_) | (refine E_nc_i ?_) | (refine E_not ?_) | (refine E_str1 ?_) | (refine E_rck0 ?_) | (refine E_gff ?_) | (refine E_gtt ?_) | (refine E_gft ?_) | (refine E_gtf ?_) | (refine E_pff ?_) | (refine E_ptt ?_) | (refine E_streqS ?_) | (refine E_strneS ?_) | (refine E_streq ?_) | (refine E_strne ?_) | (refine E_stA ?_) | (refine E_ldNA ?_) | (refine E_ptfad0 fun _ _ => ?_) | (refine E_ptfad fun _ _ => ?_) | (refine E_ptld ?_) | (refine E_ptldA ?_) | (refine E_rsix (by assumption) fun _ _ => ?_) | (refine E_rslen ?_) | (refine E_ifT (by assumption) ?_) | (refine E_ifF (by assumption) ?_) | (refine E_gdT (by assumption) ?_) | (refine E_gdF (by assumption) ?_) | (refine E_gdnT (by assumption) ?_) | (refine E_gdnF (by assumption) ?_) | (refine E_pickT (by assumption) ?_) | (refine E_pickF (by assumption) ?_) | (refine E_ifT (by decide) ?_) | (refine E_ifF (by decide) ?_) | (refine E_gdT (by decide) ?_) | (refine E_gdF (by decide) ?_) | (refine E_gdnT (by decide) ?_) | (refine E_gdnF (by decide) ?_) | (refine E_pickT (by decide) ?_) | (refine E_pickF (by decide) ?_) | (refine E_ixN (by omega) ?_) | (refine E_ld' (by assumption) ?_) | (refine E_addI (by omega) (by omega) ?_) | (refine E_subI (by omega) (by omega) ?_) | (refine E_mulI (by omega) (by omega) ?_)))
      exact hk ((i + 1, s.1), s.2) ⟨by simp only; omega, hs'⟩ (by simp only; omega)
  · have : i = sp.length := by omega
    subst this
    rw [List.take_length] at hr
    exact h ov r hr hrl
end Go.Proofs.Ytfholicobkpilaa.Clean
