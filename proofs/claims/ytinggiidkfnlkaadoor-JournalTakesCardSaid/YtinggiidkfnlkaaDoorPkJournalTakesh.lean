/-
  Part 8: JnS, JnT.
-/
import Derived.Test.YtinggiidkfnlkaaDoorPkJournalTakesg
set_option linter.unusedSimpArgs false
set_option linter.unusedVariables false
set_option linter.unusedSectionVars false
section
namespace Go.Proofs.YtinggiidkfnlkaaDoor.Jn
open Go Go.SL Go.Proofs Go.Proofs.YtinggiidkfnlkaaDoor.Sh Go.Proofs.YtinggiidkfnlkaaDoor.Oct Go.Proofs.YtinggiidkfnlkaaDoor.Disk Go.Proofs.YtinggiidkfnlkaaDoor.Slot
variable {B : World} {H : List Asrt} {K : Value → WT} {W : WT}
def Jl.of (n a e : Nat) (all : List (List UInt8)) (life : Int) : Jl := ⟨n, a, e, tot all, all, true, life⟩
theorem recs_len {all : List (List UInt8)} (h : ∀ r ∈ all, Rec r) : all.length ≤ tot all := by
  induction all with
  | nil => exact Nat.zero_le _
  | cons r l ih =>
    have h1 := (h r (List.mem_cons_self ..)).1
    have h2 := ih fun x hx => h x (List.mem_cons_of_mem _ hx)
    unfold tot at h2 ⊢
    rw [allL_cons, List.length_append, leaves_len, List.length_cons]
    have : 1 ≤ takes r.length := by unfold takes; omega
    omega
theorem Up.jok {n N m a e sure : Nat} {D : Dk} {all : List (List UInt8)} {life : Int} (h : Up nL n D N m a e all sure) (hn : n ≤ 2000) : JOk (Jl.of n a e all life) := by
  have hb := h.bse
  have h1 := recs_len h.ok
  have h2 := h.le
  exact ⟨hb.a1, hn, h.le, by show e ≤ lastE; have := hb.eN; have := hb.N1; unfold lastE; omega, fun r hr => (h.ok r hr).2, by show all.length ≤ 2000; unfold tot at h1; omega⟩
theorem off_up {D : Dk} (h : D.down = false) : offE D D.life = 0 := by unfold offE; simp [h]
theorem app_up {n N m a e sure : Nat} {D : Dk} {all : List (List UInt8)} {r : List UInt8} (h : Up nL n D N m a e all sure) :
    (wr1 r ≠ 0 ∧ appR D (Jl.of n a e all D.life) r = (D, Jl.of n a e all D.life, wr1 r)) ∨ (wr1 r = 0 ∧ n < tot all + takes r.length ∧ appR D (Jl.of n a e all D.life) r = (D, Jl.of n a e all D.life, 8)) ∨
    (wr1 r = 0 ∧ tot all + takes r.length ≤ n ∧ ((∃ D', appR D (Jl.of n a e all D.life) r = (D', Jl.of n a e (all ++ [r]) D.life, 0) ∧ D'.life = D.life ∧ Up nL n D' N m a e (all ++ [r]) sure) ∨
      (D.trip ≠ 0 ∧ ∃ D', appR D (Jl.of n a e all D.life) r = (D', Jl.of n a e all D.life, 7) ∧ D'.life = D.life ∧ D'.down = true ∧ Dead nL n D' N m (Begin all sure)))) := by
  have ho := off_up h.dn
  have e0 : appR D (Jl.of n a e all D.life) r = if wr1 r ≠ 0 then (D, Jl.of n a e all D.life, wr1 r) else if n - tot all < takes r.length then (D, Jl.of n a e all D.life, 8) else
      if (wrL e (ar n a) D (tot all) (leavesOf r)).2 ≠ 0 then ((wrL e (ar n a) D (tot all) (leavesOf r)).1, Jl.of n a e all D.life, (wrL e (ar n a) D (tot all) (leavesOf r)).2) else
      ((wrL e (ar n a) D (tot all) (leavesOf r)).1, { Jl.of n a e all D.life with fin := tot all + takes r.length, recs := all ++ [r] }, 0) := by
    unfold appR
    rw [show (Jl.of n a e all D.life).life = D.life from rfl, if_neg (by rw [ho]; simp), if_neg (by show ¬ true = false; decide)]
    rfl
  rw [e0]
  by_cases h1 : wr1 r ≠ 0
  · exact .inl ⟨h1, by rw [if_pos h1]⟩
  rw [if_neg h1]
  have h1' : wr1 r = 0 := by simpa using h1
  have hle : tot all ≤ n := h.le
  by_cases h2 : n - tot all < takes r.length
  · exact .inr (.inl ⟨h1', by omega, by rw [if_pos h2]⟩)
  rw [if_neg h2]
  refine .inr (.inr ⟨h1', by omega, ?_⟩)
  have hrec := wr1_ok h1'
  obtain ⟨a1, a2⟩ := ar_le (n := n) h.bse.a1
  have hlen := h.bse.len
  have hll := leaves_len r
  have hu := h.append hrec (show (allL all).length + takes r.length ≤ n by unfold tot at h2 hle; omega)
  have hw := (wrL_out (e := e) (A := ar n a) (l := leavesOf r) (n := (allL all).length) h.dn h.tr (by unfold tot at h2 hle; omega) (fun x hx => (leaves_ok hx).2.2.2)).zero
  rw [show (allL all).length = tot all from rfl] at hu hw
  obtain ⟨hl, hu⟩ := hu
  rcases hu with ⟨u1, u2⟩ | ⟨u1, u2, u3⟩
  · refine .inl ⟨_, ?_, hl, u2⟩
    rw [if_neg (by rw [u1]; simp)]
    have ht : tot (all ++ [r]) = tot all + takes r.length := by unfold tot; rw [allL_app, List.length_append]; simp [allL, leaves_len]
    unfold Jl.of
    rw [ht]
  · refine .inr ⟨fun hz => by have := (hw hz).1; omega, _, ?_, hl, u2, u3⟩
    rw [if_pos (by rw [u1]; decide), u1]
def takesI (n : Int) : Int := if n ≤ 0 then 0 else (takes n.toNat : Nat)
theorem takesI_step {n : Int} (h : 0 < n) : takesI n = 1 + takesI (n - 108) := by
  unfold takesI takes
  rw [if_neg (by omega)]
  split <;> omega
attribute [local irreducible] S.pick S.ld S.ldN S.st S.box S.nc S.fad S.ixS S.ixA S.chr S.prt S.ext S.bin S.sh S.sbin S.beq S.neg1 S.com1 S.not1 S.cvt S.str1 S.lenS S.len S.cap S.lenM S.mx S.mn S.mkM S.cond S.gd S.fa S.dr S.rck S.join S.loop S.cvv S.eqv S.slc S.slcS S.b2s S.lk V U CF Gives E cel mpb osl ros dct dit itr lpo dfo
attribute [local irreducible] sls disk rows jr
set_option maxRecDepth 100000
theorem takesQ {n : Int} (h1 : -1000 ≤ n) (hn : n ≤ 9223372036854775807) (h : E B H (K (I (takesI n)))) : E B H (CF Tryd.prog 7 [I n] K) := by
  by_cases h0 : n ≤ 0
  · refine E_mono (W := s7 _ K) ?_ fun _ => c7
    unfold s7
    unfold takesI at h
    rw [if_pos h0] at h
    refine E_lss ?_
    refine E_ifT (by omega) ?_
    exact h
  · obtain ⟨m, rfl⟩ : ∃ m : Nat, n = (m : Int) := ⟨n.toNat, by omega⟩
    unfold takesI at h
    rw [if_neg h0, Int.toNat_natCast] at h
    exact takesP (by omega) h
theorem takesD {n : Int} (h1 : -1000 ≤ n) (hn : n ≤ 9223372036854775807) (h : E B H (K (I (takesI n)))) : E B H (CF Tryd.prog 10 [I n] K) := by
  refine E_mono (W := s10 _ K) ?_ fun _ => c10
  unfold s10
  refine E_loop (n := 2) (σ := Int × Int) (fun s => -1000 ≤ s.1 ∧ s.1 ≤ n ∧ 0 ≤ s.2 ∧ s.2 + takesI s.1 = takesI n ∧ s.2 ≤ n - s.1) (fun s => [I s.1, I s.2]) (fun _ => H) (fun s => (s.1 + 1000).toNat) (n, 0) (fun _ => rfl) rfl ⟨h1, Int.le_refl _, Int.le_refl 0, by simp, by omega⟩ (fun W hW => hW) ?_
  rintro ⟨x, o⟩ K0 ⟨g1, g2, g3, g4, g5⟩ hk
  simp only at g1 g2 g3 g4 g5 hk ⊢
  refine E_fa fun _ => ?_
  refine E_gtr ?_
  refine E_if (fun hc => ?_) (fun hc => ?_)
  · have hs := takesI_step (n := x) (by omega)
    refine E_addI (by omega) (by omega) ?_
    refine E_subI (by omega) (by omega) ?_
    exact hk (x - 108, o + 1) ⟨by simp only; omega, by simp only; omega, by simp only; omega, by simp only; omega, by simp only; omega⟩ (by simp only; omega)
  · have e0 : takesI x = 0 := by unfold takesI; rw [if_pos (by omega)]
    rw [e0] at g4
    rw [show o = takesI n by omega]
    exact h
theorem live (h : E B H (K (.bool true))) : E B H (CF Tryd.prog 9 [] K) := by
  refine E_mono (W := s9 K) ?_ fun _ => c9
  unfold s9
  refine Disk.new (fun hb => by omega) (fun _ _ dp => ?_)
  rw [show (20 : Int).toNat = 2 + 2 * 9 from rfl]
  refine E_ext ?_
  refine E_ext ?_
  refine E_join1 [ptr dp, .bool false] (disk dp (Dk.new (2 + 2 * 9)) :: H) (fun q hq => ?_) ?_
  · refine E_neq ?_
    rw [decide_eq_false (by decide)]
    refine E_gft ?_
    refine E_gft ?_
    refine E_peq u_pDisk ?_
    refine E_pff ?_
    exact hq
  refine E_fa fun _ => ?_
  refine E_ff ?_
  refine E_build (l := [I 2, I 9]) str_run ?_
  refine E_build (l := [I 11, I 9]) str_run ?_
  refine openNew (n := 9) (by decide) (by decide) fun lp => ?_
  refine E_ext ?_
  refine E_ext ?_
  have hu := up1 (n := 9) (by decide)
  have happ := app_up (r := [97]) hu
  rw [show (D1 9).life = 0 from rfl] at happ
  have hJ : (⟨9, 0, 1, 0, [], true, 0⟩ : Jl) = Jl.of 9 0 1 [] 0 := rfl
  rcases happ with ⟨h1, _⟩ | ⟨_, h2, _⟩ | ⟨_, _, h3⟩
  · exact absurd (by decide) h1
  · have : tot [] + takes [(97 : UInt8)].length = 1 := by decide
    omega
  rcases h3 with ⟨D', e1, _, u1⟩ | ⟨ht, _⟩
  rotate_left
  · exact absurd rfl ht
  refine E_join1 [ptr lp, .bool false] (jr B lp dp (Jl.of 9 0 1 [[97]] 0) :: disk dp D' :: H) (fun q hq => ?_) ?_
  · refine E_neq ?_
    rw [decide_eq_false (by decide)]
    refine E_gft ?_
    refine E_gft ?_
    refine E_peq u_pLog ?_
    refine E_pff ?_
    refine E_gft ?_
    refine E_gft ?_
    refine settled ?_
    refine E_gft ?_
    refine E_notT ?_
    refine E_pff ?_
    refine E_gft ?_
    refine E_gft ?_
    refine left (by decide) (by decide) (by decide) ?_
    refine E_gft ?_
    refine E_neq ?_
    refine E_pff ?_
    rw [decide_eq_false (by decide)]
    refine E_gft ?_
    refine E_gft ?_
    refine E_bsl (l0 := [.int .u8 0]) [(0, 1)] u_bytes elt_byte (by simp) (by decide) rfl fun b1 => ?_
    refine E_gft ?_
    refine E_cvslice u_bytes u_byte ?_
    refine E_slsC (enc := cB) [97] 1 rfl rfl ?_
    refine E_gft ?_
    refine E_same (G := jr B lp dp (Jl.of 9 0 1 [] 0) :: disk dp (D1 9) :: sls cB 5 1 (.slice (some ⟨b1, 0, none⟩) 1 1) [97] :: H) (by repeat (first | exact Same.refl | (refine Same.cons (by repeat (first | exact Find.here | apply Find.there)) ?_) | (refine Same.drop ?_))) ?_
    have hb : ∀ Q, Rb B (Q ++ (sls cB 5 1 (.slice (some ⟨b1, 0, none⟩) 1 1) [97] :: H)) (.slice (some ⟨b1, 0, none⟩) 1 1) [97] := fun Q => rb_rs (rs_app Q rs_sls)
    refine append (r := [97]) (hu.jok (by decide)) (by decide) ?_
    rw [e1]
    simp only [List.nil_append]
    refine E_gft ?_
    refine E_neq ?_
    refine E_pff ?_
    rw [decide_eq_false (by decide)]
    exact sm (G := jr B lp dp (Jl.of 9 0 1 [[97]] 0) :: disk dp D' :: H) hq
  refine E_fa fun _ => ?_
  refine E_ff ?_
  refine records (u1.jok (by decide)) fun v47 _ => ?_
  refine E_rows fun bs L hr => ?_
  have hre : bs.map (·.bs) = [[97]] := hr.e
  have hbl : bs.length = 1 := by have := congrArg List.length hre; simpa using this
  obtain ⟨p, rfl⟩ : ∃ p, bs = [p] := by
    match bs, hbl with
    | [p], _ => exact ⟨p, rfl⟩
  have hp : p.bs = [97] := by simpa using hre
  have hpr := hr.r p (List.mem_singleton.2 rfl) (jr B lp dp (Jl.of 9 0 1 [[97]] 0) :: disk dp D' :: H)
  rw [hp] at hpr
  have hpr2 : Rb B (sls cV 22 1 v47 [p] :: spool cB L :: jr B lp dp (Jl.of 9 0 1 [[97]] 0) :: disk dp D' :: H) p.v [97] := rb_there
  refine E_rslen (v := v47) (l := [p]) ?_
  refine E_eql ?_
  rw [show decide ((([p] : List Bv).length : Int) = 1) = true from rfl]
  refine E_gtf ?_
  refine E_gtf ?_
  refine E_rsix (v := v47) (l := [p]) (i := 0) (x := p) rfl fun _ _ => ?_
  refine E_gtf ?_
  refine E_ptld ?_
  refine E_gtf ?_
  refine E_b2sR (v := p.v) (bs := [97]) ?_
  refine E_gtf ?_
  refine E_streqS ?_
  refine E_ptt ?_
  refine E_gtf ?_
  refine E_gtf ?_
  refine fd (a := jr B lp dp (Jl.of 9 0 1 [[97]] 0)) ?_
  refine left (by decide) (by decide) (by decide) ?_
  refine E_gtf ?_
  refine E_eql ?_
  refine E_ptt ?_
  rw [decide_eq_true (by decide)]
  refine E_gtf ?_
  refine takesP (n := 108) (by decide) ?_
  refine E_gtf ?_
  refine E_eql ?_
  refine E_ptt ?_
  rw [decide_eq_true (by decide)]
  refine E_gtf ?_
  refine takesP (n := 109) (by decide) ?_
  refine E_gtf ?_
  refine E_eql ?_
  refine E_ptt ?_
  rw [decide_eq_true (by decide)]
  exact sm (G := H) h
abbrev rnC (dp lp : Nat) (all half : Value) (sure : Int) (br : Bool) : List Value := [ptr dp, ptr lp, all, I sure, half, .bool br, I 2, I 40, I 42, I 40, .bool false]
theorem str_rn : Str Tryd.prog 35 [(0, 1), (1, 1), (2, 1), (3, 1), (4, 1), (5, 1), (6, 4), (10, 1)] [.pointer none, .pointer none, nil, I 0, nil, .bool false, I 0, I 0, I 0, I 0, .bool false] := str_of (zv := .agg #[.pointer none, .pointer none, nil, I 0, nil, .bool false, I 0, I 0, I 0, I 0, .bool false]) (by kernel_rfl) (by kernel_rfl) rfl
theorem start (h : ∀ rp dp lp, E B (cel true rp 35 (rnC dp lp nil nil 0 false) :: jr B lp dp (Jl.of 40 0 1 [] 0) :: disk dp (D1 40) :: H) (K (.tuple #[ptr rp, .bool true]))) : E B H (CF Tryd.prog 6 [] K) := by
  refine E_mono (W := s6 K) ?_ fun _ => c6
  unfold s6
  refine Disk.new (fun hb => by omega) (fun _ _ dp => ?_)
  rw [show (82 : Int).toNat = 2 + 2 * 40 from rfl]
  refine E_ext ?_
  refine E_ext ?_
  refine E_join1 [ptr dp, .bool false] (disk dp (Dk.new (2 + 2 * 40)) :: H) (fun q hq => ?_) ?_
  · refine E_neq ?_
    rw [decide_eq_false (by decide)]
    refine E_gft ?_
    refine E_gft ?_
    refine E_peq u_pDisk ?_
    refine E_pff ?_
    exact hq
  refine E_fa fun _ => ?_
  refine E_ff ?_
  refine E_build (l := [I 2, I 40]) str_run ?_
  refine E_build (l := [I 42, I 40]) str_run ?_
  refine E_vk (bld33 _ _ _ _) ?_
  refine E_build (l := [ptr dp, .pointer none, nil, I 0, nil, .bool false, I 2, I 40, I 42, I 40, .bool false]) str_rn ?_
  refine E_box (vs := [ptr dp, .pointer none, nil, I 0, nil, .bool false, I 2, I 40, I 42, I 40, .bool false]) fun rp => ?_
  refine E_dr ?_
  refine E_nc ?_
  refine E_fad ?_
  refine E_ixAo (by decide) (by decide) ?_
  refine E_ldN (cs := [I 2, I 40]) rfl rfl ?_
  refine E_nc ?_
  refine E_fad ?_
  refine E_ixAo (by decide) (by decide) ?_
  refine E_ldN (cs := [I 42, I 40]) rfl rfl ?_
  refine E_perm (.swap ..) ?_
  refine openNew (n := 40) (by decide) (by decide) fun lp => ?_
  refine E_ext ?_
  refine E_ext ?_
  refine E_nc ?_
  refine E_fad ?_
  refine E_st' (by simp) ?_
  refine E_eql ?_
  rw [decide_eq_true rfl]
  refine E_gtf ?_
  refine E_gtf ?_
  refine E_pne u_pLog ?_
  refine E_ptt ?_
  exact h rp dp lp
end Go.Proofs.YtinggiidkfnlkaaDoor.Jn
end
section
namespace Go.Proofs.YtinggiidkfnlkaaDoor.Jn
open Go Go.SL Go.Proofs Go.Proofs.YtinggiidkfnlkaaDoor.Sh Go.Proofs.YtinggiidkfnlkaaDoor.Oct Go.Proofs.YtinggiidkfnlkaaDoor.Disk Go.Proofs.YtinggiidkfnlkaaDoor.Slot
variable {B : World} {H : List Asrt} {K : Value → WT} {W : WT}
theorem takesI_nat (n : Nat) : takesI (n : Int) = (takes n : Nat) := by
  unfold takesI
  split
  · have : n = 0 := by omega
    subst this; rfl
  · rw [Int.toNat_natCast]
attribute [local irreducible] S.pick S.ld S.ldN S.st S.box S.nc S.fad S.ixS S.ixA S.chr S.prt S.ext S.bin S.sh S.sbin S.beq S.neg1 S.com1 S.not1 S.cvt S.str1 S.lenS S.len S.cap S.lenM S.mx S.mn S.mkM S.cond S.gd S.fa S.dr S.rck S.join S.loop S.cvv S.eqv S.slc S.slcS S.b2s S.lk V U CF Gives E cel mpb osl ros dct dit itr lpo dfo
attribute [local irreducible] sls disk rows jr
set_option maxRecDepth 100000
theorem journalTakes {v : Value} {r : List UInt8} {n : Int} [hb : BaseR B v r] (hr : r.length ≤ 9223372036854775807) (h : E B H (K (.bool true))) : E B H (CF Tryd.prog 3 [v, I n] K) := by
  refine E_mono (W := s3 _ _ K) ?_ fun _ => c3
  unfold s3
  refine start fun rp dp lp => ?_
  refine E_ext ?_
  refine E_ext ?_
  refine E_notT ?_
  refine E_ff ?_
  refine E_rslen (v := v) (l := r) ?_
  refine takesP (by omega) ?_
  refine E_nc ?_
  refine E_fad ?_
  refine E_ld ?_
  have hu := up1 (n := 40) (by decide)
  refine E_same (G := jr B lp dp (Jl.of 40 0 1 [] 0) :: disk dp (D1 40) :: cel true rp 35 (rnC dp lp nil nil 0 false) :: H) (by repeat (first | exact Same.refl | (refine Same.cons (by repeat (first | exact Find.here | apply Find.there)) ?_) | (refine Same.drop ?_))) ?_
  have happ := app_up (r := r) hu
  rw [show (D1 40).life = 0 from rfl] at happ
  have hbq : ∀ Q, Rb B (Q ++ (cel true rp 35 (rnC dp lp nil nil 0 false) :: H)) v r := fun Q => inferInstance
  have hfin : ∀ (e : Int) (J : Jl) (D' : Dk), JOk J → (e = 0 ↔ 1 ≤ takes r.length ∧ takes r.length ≤ 40) → (e = 0 → J.n - J.fin = 40 - takes r.length) → E B (jr B lp dp J :: disk dp D' :: cel true rp 35 (rnC dp lp nil nil 0 false) :: H) (
 S.mn (I n) (I 100000) fun v26 =>
 S.mx v26 (I (-5)) fun v27 =>
 CF Tryd.prog 9 [] fun v28 =>
 S.gd v28 true (fun k => k (I (takes r.length : Nat))) fun v30 =>
 S.gd v28 true (fun k => k v) fun v31 =>
 S.gd v28 true (S.len v31) fun v32 =>
 S.gd v28 true (CF Tryd.prog 10 [v32]) fun v33 =>
 S.gd v28 true (S.bin .eql v30 v33) fun v34 =>
 S.pick v28 v34 (.bool false) fun v35 =>
 S.gd v35 true (fun k => k v27) fun v37 =>
 S.gd v35 true (CF Tryd.prog 7 [v37]) fun v38 =>
 S.gd v35 true (fun k => k v27) fun v39 =>
 S.gd v35 true (CF Tryd.prog 10 [v39]) fun v40 =>
 S.gd v35 true (S.bin .eql v38 v40) fun v41 =>
 S.pick v35 v41 (.bool false) fun v42 =>
 S.gd v42 true (fun k => k (I e)) fun v44 =>
 S.gd v42 true (S.bin .eql v44 (I 0)) fun v45 =>
 S.gd v42 true (fun k => k (I (takes r.length : Nat))) fun v46 =>
 S.gd v42 true (S.bin .geq v46 (I 1)) fun v47 =>
 S.gd v42 true (fun k => k v47) fun v48 =>
 S.gd v48 true (fun k => k (I (takes r.length : Nat))) fun v49 =>
 S.gd v48 true (S.bin .leq v49 (I 40)) fun v50 =>
 S.gd v42 true (S.pick v48 v50 (.bool false)) fun v51 =>
 S.gd v42 true (S.beq .eql v45 v51) fun v52 =>
 S.pick v42 v52 (.bool false) fun v53 =>
 S.gd v53 true (fun k => k (I e)) fun v55 =>
 S.gd v53 true (S.bin .neq v55 (I 0)) fun v56 =>
 S.gd v53 true (fun k => k v56) fun v57 =>
 S.gd v57 false (fun k => k (ptr rp)) fun v58 =>
 S.gd v57 false (S.nc v58) fun v59 =>
 S.gd v57 false (S.fad v59 1) fun v60 =>
 S.gd v57 false (S.ld v60) fun v61 =>
 S.gd v57 false (CF Tryd.prog 11 [v61]) fun v62 =>
 S.gd v57 false (fun k => k (I (takes r.length : Nat))) fun v63 =>
 S.gd v57 false (S.bin .sub (I 40) v63) fun v64 =>
 S.gd v57 false (S.bin .eql v62 v64) fun v65 =>
 S.gd v53 true (S.pick v57 (.bool true) v65) fun v66 =>
 S.pick v53 v66 (.bool false) fun v67 =>
 K v67) := fun e J D' hJ he hleft => by
    refine E_mn ?_
    refine E_mx ?_
    refine live ?_
    refine E_gtf ?_
    refine E_gtf ?_
    refine E_gtf ?_
    refine E_rslen (v := v) (l := r) ?_
    refine E_gtf ?_
    refine takesD (by omega) (by omega) ?_
    rw [takesI_nat]
    refine E_gtf ?_
    refine E_eql ?_
    refine E_ptt ?_
    rw [decide_eq_true rfl]
    refine E_gtf ?_
    refine E_gtf ?_
    refine takesQ (by omega) (by omega) ?_
    refine E_gtf ?_
    refine E_gtf ?_
    refine takesD (by omega) (by omega) ?_
    refine E_gtf ?_
    refine E_eql ?_
    refine E_ptt ?_
    rw [decide_eq_true rfl]
    refine E_gtf ?_
    refine E_gtf ?_
    refine E_eql ?_
    refine E_gtf ?_
    refine E_gtf ?_
    refine E_geq ?_
    refine E_gtf ?_
    by_cases h0 : e = 0
    · obtain ⟨g1, g2⟩ := he.1 h0
      have g3 := hleft h0
      rw [decide_eq_true h0, decide_eq_true (show (1 : Int) ≤ ((takes r.length : Nat) : Int) by omega)]
      refine E_gtf ?_
      refine E_gtf ?_
      refine E_leq ?_
      rw [decide_eq_true (show ((takes r.length : Nat) : Int) ≤ 40 by omega)]
      refine E_gtf ?_
      refine E_ptt ?_
      refine E_gtf ?_
      refine E_beqI ?_
      refine E_ptt ?_
      show E B _ (S.gd (.bool true) true _ _)
      refine E_gtf ?_
      refine E_gtf ?_
      refine E_neq ?_
      rw [decide_eq_false (by omega)]
      refine E_gtf ?_
      refine E_gft ?_
      refine E_gft ?_
      refine E_nc ?_
      refine E_gft ?_
      refine E_fad ?_
      refine E_gft ?_
      refine E_ld ?_
      refine E_gft ?_
      refine left hJ.a1 (by have := hJ.n1; omega) hJ.f1 ?_
      rw [g3]
      refine E_gft ?_
      refine E_gft ?_
      refine E_subI (by omega) (by omega) ?_
      refine E_gft ?_
      refine E_eql ?_
      rw [decide_eq_true (by omega)]
      refine E_gtf ?_
      refine E_pff ?_
      refine E_ptt ?_
      exact sm (G := H) h
    · have hno : ¬ (1 ≤ takes r.length ∧ takes r.length ≤ 40) := fun hh => h0 (he.2 hh)
      rw [decide_eq_false h0]
      have tail : ∀ q : Bool, q = false → E B (jr B lp dp J :: disk dp D' :: cel true rp 35 (rnC dp lp nil nil 0 false) :: H) (
 S.gd (.bool true) true (S.beq .eql (.bool false) (.bool q)) fun v52 =>
 S.pick (.bool true) v52 (.bool false) fun v53 =>
 S.gd v53 true (fun k => k (I e)) fun v55 =>
 S.gd v53 true (S.bin .neq v55 (I 0)) fun v56 =>
 S.gd v53 true (fun k => k v56) fun v57 =>
 S.gd v57 false (fun k => k (ptr rp)) fun v58 =>
 S.gd v57 false (S.nc v58) fun v59 =>
 S.gd v57 false (S.fad v59 1) fun v60 =>
 S.gd v57 false (S.ld v60) fun v61 =>
 S.gd v57 false (CF Tryd.prog 11 [v61]) fun v62 =>
 S.gd v57 false (fun k => k (I (takes r.length : Nat))) fun v63 =>
 S.gd v57 false (S.bin .sub (I 40) v63) fun v64 =>
 S.gd v57 false (S.bin .eql v62 v64) fun v65 =>
 S.gd v53 true (S.pick v57 (.bool true) v65) fun v66 =>
 S.pick v53 v66 (.bool false) fun v67 =>
 K v67) := fun q hq => by
        subst hq
        refine E_gtf ?_
        refine E_beqI ?_
        refine E_ptt ?_
        show E B _ (S.gd (.bool true) true _ _)
        refine E_gtf ?_
        refine E_gtf ?_
        refine E_neq ?_
        rw [decide_eq_true (by omega)]
        refine E_gtf ?_
        repeat (refine E_gtt ?_)
        refine E_gtf ?_
        refine E_ptt ?_
        refine E_ptt ?_
        exact sm (G := H) h
      by_cases h1 : (1 : Int) ≤ ((takes r.length : Nat) : Int)
      · rw [decide_eq_true h1]
        refine E_gtf ?_
        refine E_gtf ?_
        refine E_leq ?_
        refine E_gtf ?_
        refine E_ptt ?_
        exact tail _ (decide_eq_false (by omega))
      · rw [decide_eq_false h1]
        refine E_gff ?_
        refine E_gff ?_
        refine E_gtf ?_
        refine E_pff ?_
        exact tail false rfl
  have hk : takes r.length = (r.length + 107) / 108 := rfl
  rcases happ with ⟨h1, e1⟩ | ⟨h1, h2, e1⟩ | ⟨h1, h2, h3⟩
  · refine append (r := r) (hu.jok (by decide)) hr ?_
    rw [e1]
    refine hfin (wr1 r) _ _ (hu.jok (by decide)) ⟨fun h0 => absurd h0 h1, fun hh => ?_⟩ fun h0 => absurd h0 h1
    exact wr1_of ⟨by omega, by omega⟩
  · refine append (r := r) (hu.jok (by decide)) hr ?_
    rw [e1]
    have ht : tot [] = 0 := rfl
    refine hfin 8 _ _ (hu.jok (by decide)) ⟨fun h0 => absurd h0 (by decide), fun hh => by omega⟩ fun h0 => absurd h0 (by decide)
  · rcases h3 with ⟨D', e1, _, u1⟩ | ⟨ht, _⟩
    · refine append (r := r) (hu.jok (by decide)) hr ?_
      rw [e1]
      have ht : tot ([] ++ [r]) = takes r.length := by unfold tot; simp [allL, leaves_len]
      have ht0 : tot [] = 0 := rfl
      have hrec := wr1_ok h1
      refine hfin 0 _ _ (u1.jok (by decide)) ⟨fun _ => ⟨by have := hrec.1; omega, by omega⟩, fun _ => rfl⟩ fun _ => ?_
      show 40 - tot ([] ++ [r]) = _
      rw [ht]
    · exact absurd rfl ht
theorem append_nil {v : Value} (h : E B H (K (I 1))) : E B H (CF Tryd.prog 8 [.pointer none, v] K) := by
  refine E_mono (W := s8 _ _ K) ?_ fun _ => c8
  unfold s8
  refine off_nil ?_
  refine E_neq ?_
  refine E_ifT (by decide) ?_
  exact h
end Go.Proofs.YtinggiidkfnlkaaDoor.Jn
end
