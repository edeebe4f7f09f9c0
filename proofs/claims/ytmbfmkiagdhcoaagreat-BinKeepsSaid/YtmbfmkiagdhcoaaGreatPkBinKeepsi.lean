/-
  Part 9: BpG, BpH, RDisk, BpI, BpL, BpM, BpN, BpQ, BpR.
-/
import Derived.Test.YtmbfmkiagdhcoaaGreatPkBinKeepsf
import Derived.Test.YtmbfmkiagdhcoaaGreatPkBinKeepsh
set_option linter.unusedSimpArgs false
set_option linter.unusedVariables false
set_option linter.unusedSectionVars false
section
namespace Go.Proofs.YtmbfmkiagdhcoaaGreat.Bn
open Go Go.SL Go.Proofs Go.Proofs.YtmbfmkiagdhcoaaGreat.Sh Go.Proofs.YtmbfmkiagdhcoaaGreat.Oct Go.Proofs.YtmbfmkiagdhcoaaGreat.Disk Go.Proofs.YtmbfmkiagdhcoaaGreat.Slot Go.Proofs.YtmbfmkiagdhcoaaGreat.Pk Go.Proofs.YtmbfmkiagdhcoaaGreat.Ext
variable {B : World} {H : List Asrt} {K : Value → WT} {W : WT}
abbrev cPl (p : Pc) : List Value := [I p.bin, I p.pos, I p.n]
instance encPl : Enc cPl 3 := ⟨fun _ => rfl, fun p y hy => by
  simp only [List.mem_cons, List.not_mem_nil, or_false] at hy
  rcases hy with rfl | rfl | rfl <;> rfl⟩
theorem u_places : Tryz.prog.underlying 67 = some (.slice 34) := by kernel_rfl
theorem elt_place : Elt Tryz.prog 34 3 24 [I 0, I 0, I 0] := elt_of (zv := .agg #[I 0, I 0, I 0]) (by kernel_rfl) rfl rfl
theorem buildPl (b x n : Int) (w : World) : (Instr.build 34 #[(0, I b), (1, .agg #[I x, I n])]).run Tryz.prog w = .ok (.agg #[I b, I x, I n]) w := by kernel_rfl
theorem buildPl0 (w : World) : (Instr.build 34 #[]).run Tryz.prog w = .ok (.agg #[I 0, I 0, I 0]) w := by kernel_rfl
theorem srt_len {N : Nat} : ∀ {P : List Pc} (lo : Nat), Srt P → (∀ p ∈ P, lo ≤ p.bin ∧ p.bin < N) → P.length ≤ N - lo
  | [], _, _, _ => Nat.zero_le _
  | q :: P, lo, hs, h => by
    have h2 := List.pairwise_cons.1 hs
    have h1 := h q (List.mem_cons_self ..)
    have := srt_len (P := P) (q.bin + 1) h2.2 fun p hp => ⟨h2.1 p hp, (h p (List.mem_cons_of_mem _ hp)).2⟩
    simp only [List.length_cons]
    omega
theorem Inv.plen {Z : Shf} (h : Inv Z) : Z.P.length ≤ 4096 := srt_len 0 h.sort fun p hp => ⟨Nat.zero_le _, (h.pc p hp).1⟩
theorem sort_bins {Z : Shf} (h : Srt Z.P) {zs : List Int} (hz : zs.Perm (Z.P.map fun p : Pc => (p.bin : Int))) : sortI zs = Z.P.map fun p : Pc => (p.bin : Int) := by
  refine List.Perm.eq_of_pairwise (le := fun x y : Int => x ≤ y) (fun a b _ _ h1 h2 => by omega) ?_ ?_ ((List.mergeSort_perm ..).trans hz)
  · have := List.pairwise_mergeSort (le := fun x y : Int => decide (x ≤ y)) (by intro a b c; simp; omega) (by intro a b; simp; omega) zs
    exact this.imp fun h => by simpa using h
  · rw [List.pairwise_map]
    exact h.imp fun h => by omega
theorem known_at {P : List Pc} (h : Srt P) {i : Nat} {p : Pc} (hp : P[i]? = some p) : known P p.bin = some p := by
  induction P generalizing i with
  | nil => simp at hp
  | cons q P ih =>
    have h2 := List.pairwise_cons.1 h
    unfold known
    cases i with
    | zero =>
      simp only [List.getElem?_cons_zero, Option.some.injEq] at hp
      subst hp
      rw [List.find?_cons_of_pos (by simp)]
    | succ i =>
      simp only [List.getElem?_cons_succ] at hp
      have := h2.1 p (List.mem_of_getElem? hp)
      rw [List.find?_cons_of_neg (by simp; omega)]
      exact ih h2.2 hp
attribute [local irreducible] S.pick S.ld S.ldN S.st S.box S.nc S.fad S.ixS S.ixA S.chr S.prt S.ext S.bin S.sh S.sbin S.beq S.neg1 S.com1 S.not1 S.cvt S.str1 S.lenS S.len S.cap S.lenM S.mx S.mn S.mkM S.cond S.gd S.fa S.dr S.rck S.join S.loop S.cvv S.eqv S.slc S.slcS S.b2s S.lk V U CF Gives E cel mpb osl ros dct dit itr lpo dfo
theorem places {a d m : Nat} {Z : Shf} (hi : Inv Z) (h : ∀ v [CellI v], E B (sls cPl 34 3 v Z.P :: shf a d m Z :: H) (K v)) : E B (shf a d m Z :: H) (CF Tryz.prog 18 [ptr a] K) := by
  refine E_mono (W := s18 _ K) ?_ fun _ => c18
  unfold s18
  have hpl := hi.plen
  refine E_joinC (σ := Pk.Cv) (fun _ => True) (fun v => [v.1]) (fun v => sls cPl 34 3 v.1 Z.P :: shf a d m Z :: H) (fun kk hkk => ?_) (fun s _ => ?_)
  · refine E_pne u_pSh ?_
    refine E_tt ?_
    refine E_shf fun r kv hk => ?_
    refine E_nc ?_
    refine E_fad0 ?_
    refine E_ld ?_
    have hkl := hk.len
    refine Shf.sortedKeys (by omega) fun sv zs hz => ?_
    have hs := sort_bins hi.sort (hz.trans hk.keys)
    rw [hs]
    have hbl : (Z.P.map fun p : Pc => (p.bin : Int)).length = kv.length := by rw [List.length_map, hkl]
    rw [← hbl]
    refine E_rslen (v := sv) (l := Z.P.map fun p : Pc => (p.bin : Int)) ?_
    refine sls_nil cPl 3 (T := 34) ?_
    rw [List.length_map]
    refine E_loop (n := 5) (σ := Nat × Pk.Cv) (fun s => s.1 ≤ Z.P.length) (fun s => [ptr a, s.2.1, sv, I Z.P.length, I s.1])
      (fun s => sls cPl 34 3 s.2.1 (Z.P.take s.1) :: osl 3 1 sv (Z.P.map fun p : Pc => (p.bin : Int)).length (ints (Z.P.map fun p : Pc => (p.bin : Int))) :: cel true a 97 [ptr d, ptr m, .map (some r)] :: disk d Z.D :: xmap m Z.f (Z.f + Z.T.length) Z.R :: dct kI true r kv :: H) (fun s => Z.P.length - s.1) (0, ⟨nl, rfl⟩) (fun _ => rfl) rfl (Nat.zero_le _) (fun W hW => ?_) ?_
    · simp only [List.length_map] at hW
      exact sm (G := sls cPl 34 3 nl [] :: osl 3 1 sv Z.P.length (ints (Z.P.map fun p : Pc => (p.bin : Int))) :: cel true a 97 [ptr d, ptr m, .map (some r)] :: disk d Z.D :: xmap m Z.f (Z.f + Z.T.length) Z.R :: dct kI true r kv :: H) hW
    rintro ⟨i, o, hco⟩ K0 hil hk0
    simp only at hil hk0 ⊢
    have io : CellI o := ⟨hco⟩
    refine E_fa fun _ => ?_
    refine E_lss ?_
    refine E_if (fun hc => ?_) (fun hc => ?_)
    · have hx : Z.P[i]? = some (Z.P[i]'(by omega)) := List.getElem?_eq_getElem (by omega)
      generalize (Z.P[i]'(by omega)) = p at hx
      have hx2 : (Z.P.map fun p : Pc => (p.bin : Int))[i]? = some (p.bin : Int) := by rw [List.getElem?_map, hx]; rfl
      have hl := hk.look p.bin
      rw [known_at hi.sort hx] at hl
      have hk1 := fun x : Pk.Cv => hk0 (i + 1, x) (by simp only; omega) (by simp only; omega)
      have ht : Z.P.take (i + 1) = Z.P.take i ++ [p] := by rw [List.take_add_one, hx]; rfl
      simp only [ht] at hk1
      have htl : (Z.P.take i).length ≤ 4096 := by rw [List.length_take]; omega
      refine E_rsix (v := sv) (l := Z.P.map fun p : Pc => (p.bin : Int)) hx2 fun _ _ => ?_
      refine E_ptld ?_
      refine E_nc ?_
      refine E_fad0 ?_
      refine E_ld ?_
      refine E_dlk1 (κ := Int) (enc := kI) (k := (p.bin : Int)) hl ?_
      refine Dig.E_Vr (buildPl _ _ _) ?_
      refine fd (a := sls cPl 34 3 o (Z.P.take i)) ?_
      refine E_sapp1 (enc := cPl) (xv := plV p.bin p.pos p.n) p u_places elt_place rfl (by omega) (by omega) (by omega) fun w iw => ?_
      refine E_addI (by omega) (by omega) ?_
      exact sm (hk1 ⟨w, iw.pf⟩)
    · have hie : i = Z.P.length := by omega
      subst hie
      rw [List.take_length]
      have := hkk ⟨o, hco⟩ trivial
      refine sm (G := cel true a 97 [ptr d, ptr m, .map (some r)] :: disk d Z.D :: xmap m Z.f (Z.f + Z.T.length) Z.R :: dct kI true r kv :: sls cPl 34 3 o Z.P :: H) ?_
      refine E_shfS hk rfl rfl rfl rfl ?_
      exact sm this
  · have is : CellI s.1 := ⟨s.2⟩
    refine E_fa fun _ => ?_
    exact h s.1
theorem used_suc {P : List Pc} {i : Nat} {p : Pc} (h : P[i]? = some p) : usedN (P.take (i + 1)) = usedN (P.take i) + p.n := by
  unfold usedN
  rw [List.take_add_one, h, List.foldl_append]; rfl
theorem used_le {P : List Pc} (h : ∀ p ∈ P, p.n ≤ 64) : usedN P ≤ 64 * P.length := by
  have key : ∀ (P : List Pc) (q : Nat), (∀ p ∈ P, p.n ≤ 64) → P.foldl (fun a p => a + p.n) q ≤ q + 64 * P.length := by
    intro P
    induction P with
    | nil => intro q _; simp
    | cons p P ih =>
      intro q h
      have h1 := h p (List.mem_cons_self ..)
      have := ih (q + p.n) fun x hx => h x (List.mem_cons_of_mem _ hx)
      simp only [List.foldl_cons, List.length_cons]; omega
  have := key P 0 h
  unfold usedN; omega
theorem used {a d m : Nat} {Z : Shf} (hi : Inv Z) (h : E B (shf a d m Z :: H) (K (I (usedN Z.P)))) : E B (shf a d m Z :: H) (CF Tryz.prog 17 [ptr a] K) := by
  refine E_mono (W := s17 _ K) ?_ fun _ => c17
  unfold s17
  have hpl := hi.plen
  refine places hi fun v _ => ?_
  refine E_rslen (v := v) (l := Z.P) ?_
  refine E_loop (n := 4) (σ := Nat) (fun i => i ≤ Z.P.length) (fun i => [I (usedN (Z.P.take i)), v, I Z.P.length, I i]) (fun _ => sls cPl 34 3 v Z.P :: shf a d m Z :: H) (fun i => Z.P.length - i) 0 (fun _ => rfl) rfl (Nat.zero_le _) (fun W hW => hW) ?_
  intro i K0 hil hk
  refine E_fa fun _ => ?_
  refine E_lss ?_
  refine E_if (fun hc => ?_) (fun hc => ?_)
  · have hx : Z.P[i]? = some (Z.P[i]'(by omega)) := List.getElem?_eq_getElem (by omega)
    have hpn := (hi.pc _ (List.getElem_mem (show i < Z.P.length by omega))).2.2.1
    generalize (Z.P[i]'(by omega)) = p at hx hpn
    have hul := used_le (P := Z.P.take i) fun p hp => (hi.pc p (List.mem_of_mem_take hp)).2.2.1
    have htl : (Z.P.take i).length ≤ 4096 := by rw [List.length_take]; omega
    have hk1 := hk (i + 1) (by omega) (by omega)
    rw [used_suc hx] at hk1
    refine E_rsix (v := v) (l := Z.P) hx fun _ _ => ?_
    refine E_ptldA ?_
    refine E_box (v := plV 0 0 0) (vs := [I 0, I 0, I 0]) fun v5 => ?_
    refine E_stW (vs := [I p.bin, I p.pos, I p.n]) rfl rfl ?_
    refine E_fad0 ?_
    refine E_fad ?_
    refine E_ld ?_
    refine E_addI (by omega) (by omega) ?_
    refine E_addI (by omega) (by omega) ?_
    rw [show (usedN (Z.P.take i) : Int) + (p.n : Int) = ((usedN (Z.P.take i) + p.n : Nat) : Int) by omega]
    exact sm hk1
  · have hie : i = Z.P.length := by omega
    subst hie
    rw [List.take_length]
    exact sm h
end Go.Proofs.YtmbfmkiagdhcoaaGreat.Bn
end
section
namespace Go.Proofs.YtmbfmkiagdhcoaaGreat.Bn
open Go Go.SL Go.Proofs Go.Proofs.YtmbfmkiagdhcoaaGreat.Sh Go.Proofs.YtmbfmkiagdhcoaaGreat.Oct Go.Proofs.YtmbfmkiagdhcoaaGreat.Disk Go.Proofs.YtmbfmkiagdhcoaaGreat.Slot Go.Proofs.YtmbfmkiagdhcoaaGreat.Pk Go.Proofs.YtmbfmkiagdhcoaaGreat.Ext
variable {B : World} {H : List Asrt} {K : Value → WT} {W : WT}
theorem buildRn (x n : Int) (w : World) : (Instr.build 32 #[(0, I x), (1, I n)]).run Tryz.prog w = .ok (.agg #[I x, I n]) w := by kernel_rfl
abbrev triV (x : Tri) : Value := plV x.1 x.2.1 x.2.2
attribute [local irreducible] S.pick S.ld S.ldN S.st S.box S.nc S.fad S.ixS S.ixA S.chr S.prt S.ext S.bin S.sh S.sbin S.beq S.neg1 S.com1 S.not1 S.cvt S.str1 S.lenS S.len S.cap S.lenM S.mx S.mn S.mkM S.cond S.gd S.fa S.dr S.rck S.join S.loop S.cvv S.eqv S.slc S.slcS S.b2s S.lk V U CF Gives E cel mpb osl ros dct dit itr lpo dfo
theorem E_noPl {v4 : Nat} {e : Int} {l : List Value} (hl : l.length = 3) (h : E B H (K (.tuple #[triV (0, 0, 0), I e]))) :
    E B (cel true v4 34 l :: H) (V Tryz.prog (Instr.build 34 #[]) fun v20 => S.st 3 (ptr v4) v20 fun _ => S.ldN 3 (ptr v4) fun v4' => K (.tuple #[v4', I e])) := by
  refine Dig.E_Vr buildPl0 ?_
  refine E_stW (vs := [I 0, I 0, I 0]) rfl hl ?_
  refine E_ldNA ?_
  exact E_drop h
theorem seal1 {a : Nat} (h : E B H (K (.tuple #[triV (0, 0, 0), I 1]))) : E B H (CF Tryz.prog 9 [ptr a, .pointer none] K) := by
  refine E_mono (W := s9 _ _ K) ?_ fun _ => c9
  unfold s9
  refine E_box (v := plV 0 0 0) (vs := [I 0, I 0, I 0]) fun v4 => ?_
  refine E_join1 (n := 4) [ptr a, .pointer none, ptr v4, .bool true] (cel true v4 34 [I 0, I 0, I 0] :: H) (fun q hq => ?_) ?_
  · refine E_peq u_pSh ?_
    refine E_gft ?_
    refine E_gft ?_
    refine E_peq0 u_pPk ?_
    refine E_pff ?_
    exact hq
  refine E_fa fun _ => ?_
  refine E_tt ?_
  exact E_noPl rfl h
theorem img_le {id wd : Nat} {L : Ch} (hp : POk id wd L) : (imgL id L).length ≤ 10000 := by
  obtain ⟨h1, h2, h3⟩ := img_len id L
  have := hp.fit
  have := hp.hi
  omega
theorem bseal {a d m pa id wd : Nat} {L : Ch} {Z : Shf} (hi : Inv Z) (hp : POk id wd L) (h : E B (pck pa id wd L :: shf a d m (sealV Z id L).2.2 :: H) (K (.tuple #[triV (sealV Z id L).1, I (sealV Z id L).2.1]))) :
    E B (pck pa id wd L :: shf a d m Z :: H) (CF Tryz.prog 9 [ptr a, ptr pa] K) := by
  refine E_mono (W := s9 _ _ K) ?_ fun _ => c9
  unfold s9
  unfold sealV at h
  refine E_box (v := plV 0 0 0) (vs := [I 0, I 0, I 0]) fun v4 => ?_
  refine E_join1 (n := 4) [ptr a, ptr pa, ptr v4, .bool false] (cel true v4 34 [I 0, I 0, I 0] :: pck pa id wd L :: shf a d m Z :: H) (fun q hq => ?_) ?_
  · refine E_peq u_pSh ?_
    refine E_gft ?_
    refine E_gft ?_
    refine E_peq u_pPk ?_
    refine E_pff ?_
    exact hq
  refine E_fa fun _ => ?_
  refine E_ff ?_
  refine fd (a := shf a d m Z) ?_
  refine E_shf fun r kv hk => ?_
  refine E_nc ?_
  refine E_fad0 ?_
  refine E_fad0 ?_
  refine E_ld ?_
  refine fd (a := disk d Z.D) ?_
  refine down ?_
  refine E_ifb (fun hd => ?_) (fun hd => ?_)
  · rw [if_pos hd] at h
    refine sm (G := cel true v4 34 [I 0, I 0, I 0] :: cel true a 97 [ptr d, ptr m, .map (some r)] :: disk d Z.D :: xmap m Z.f (Z.f + Z.T.length) Z.R :: dct kI true r kv :: pck pa id wd L :: H) ?_
    refine E_noPl rfl ?_
    refine E_shfS hk rfl rfl rfl rfl ?_
    exact sm h
  rw [if_neg (by rw [hd]; decide)] at h
  refine fd (a := pck pa id wd L) ?_
  refine pklen ?_
  refine E_eql ?_
  refine E_if (fun hL => ?_) (fun hL => ?_)
  · rw [if_pos (List.length_eq_zero_iff.1 (by omega))] at h
    refine sm (G := cel true v4 34 [I 0, I 0, I 0] :: cel true a 97 [ptr d, ptr m, .map (some r)] :: disk d Z.D :: xmap m Z.f (Z.f + Z.T.length) Z.R :: dct kI true r kv :: pck pa id wd L :: H) ?_
    refine E_noPl rfl ?_
    refine E_shfS hk rfl rfl rfl rfl ?_
    exact sm h
  have hL : L ≠ [] := fun e => by subst e; exact hL rfl
  rw [if_neg hL] at h
  have hil := img_le hp
  obtain ⟨n1, n2, n3⟩ := img_n hp hL
  have hle := hi.le
  refine pkbytes hp fun bv _ => ?_
  refine pkparse (v := bv) (b := imgL id L) (by omega) fun u iu => ?_
  unfold parA
  rw [parse_img hp]
  refine E_ext ?_
  refine E_ext ?_
  refine E_box (v := binV (0, 0, []) nl) (vs := [I 0, I 0, nl]) fun v7 => ?_
  dsimp only at h ⊢
  generalize (imgL id L).length / 128 = n at n1 n2 n3 h ⊢
  refine E_stW (v := binV (id, n, []) u) (vs := [I id, I n, u]) rfl rfl ?_
  refine E_fad0 ?_
  refine E_ld ?_
  refine sm (G := cel true a 97 [ptr d, ptr m, .map (some r)] :: disk d Z.D :: xmap m Z.f (Z.f + Z.T.length) Z.R :: dct kI true r kv :: cel true v7 58 [I id, I n, u] :: sls cB 5 1 bv (imgL id L) :: pck pa id wd L :: cel true v4 34 [I 0, I 0, I 0] :: H) ?_
  refine E_shfS hk rfl rfl rfl rfl ?_
  refine shknown ?_
  cases ho : known Z.P id with
  | some p =>
    rw [if_pos (by rw [ho]; rfl)] at h
    refine E_tt ?_
    refine fd (a := cel true v4 34 [I 0, I 0, I 0]) ?_
    refine E_noPl rfl ?_
    exact sm h
  | none =>
    rw [if_neg (by rw [ho]; decide)] at h
    refine E_ff ?_
    refine E_shf fun r kv hk => ?_
    refine E_dr ?_
    refine E_nc ?_
    refine E_fad0 ?_
    refine E_fad0 ?_
    refine E_ld ?_
    refine E_fad0 ?_
    refine E_ld ?_
    refine fd (a := xmap m Z.f (Z.f + Z.T.length) Z.R) ?_
    refine xtake hi.xok ?_
    refine E_ext ?_
    refine E_ext ?_
    refine E_neq ?_
    have hiT := hi.take n
    have hT := (rel_take hi.rel (n : Int)).2
    have hok := take_ok hi (n := n) (by omega)
    refine E_if (fun hc => ?_) (fun hc => ?_)
    · rw [if_pos hc] at h
      refine fd (a := cel true v4 34 [I 0, I 0, I 0]) ?_
      refine E_noPl rfl ?_
      refine sm (G := cel true a 97 [ptr d, ptr m, .map (some r)] :: disk d Z.D :: xmap m Z.f (Z.f + Z.T.length) (takeV Z.R n).2.2 :: dct kI true r kv :: pck pa id wd L :: H) ?_
      refine E_shfS (S := takeN Z n) hk rfl rfl (by simp only [takeN]; rw [hT]) rfl ?_
      exact sm h
    rw [if_neg hc] at h
    obtain ⟨x, x1, x2, x3, x4, x5⟩ := hok (by simpa using hc)
    rw [x1] at h ⊢
    refine E_fad0 ?_
    refine E_ld ?_
    refine Dig.E_Vr (buildRn _ _) ?_
    refine E_box (v := pI 0 0) (vs := [I 0, I 0]) fun v11 => ?_
    refine E_stW (v := pI x n) (vs := [I x, I n]) rfl rfl ?_
    refine E_dr ?_
    refine E_nc ?_
    refine E_fad0 ?_
    refine E_ldNA ?_
    refine sm (G := cel true a 97 [ptr d, ptr m, .map (some r)] :: disk d Z.D :: cel true v11 32 [I x, I n] :: xmap m Z.f (Z.f + Z.T.length) (takeV Z.R n).2.2 :: dct kI true r kv :: cel true v7 58 [I id, I n, u] :: sls cB 5 1 bv (imgL id L) :: pck pa id wd L :: cel true v4 34 [I 0, I 0, I 0] :: H) ?_
    refine gwrite (x := (x : Int)) (n := n) (v := bv) (b := imgL id L) (by omega) (by omega) (by omega) ?_
    generalize wrS Z.D (x : Int) (chunks (imgL id L) n) = w at h ⊢
    refine E_neq ?_
    refine E_if (fun hc1 => ?_) (fun hc1 => ?_)
    · rw [if_pos hc1] at h
      refine E_dr ?_
      refine E_nc ?_
      refine E_fad0 ?_
      refine E_fad0 ?_
      refine E_ld ?_
      refine E_ldNA ?_
      refine fd (a := xmap m Z.f (Z.f + Z.T.length) (takeV Z.R n).2.2) ?_
      have hx' : XOk Z.f (Z.f + Z.T.length) (takeV Z.R n).2.2 := by
        have := hiT.xok
        simp only [takeN] at this
        rw [hT] at this
        exact this
      refine xgive hx' ?_
      refine fd (a := cel true v4 34 [I 0, I 0, I 0]) ?_
      refine E_noPl rfl ?_
      obtain ⟨r1, r2, r3⟩ := rel_giveV hiT.rel (x : Int) (n : Int)
      have e1 : Z.f + (takeT Z.f Z.T Z.R n).length = Z.f + Z.T.length := by rw [hT]
      refine sm (G := cel true a 97 [ptr d, ptr m, .map (some r)] :: disk d w.1 :: xmap m Z.f (Z.f + Z.T.length) (giveV Z.f (Z.f + Z.T.length) (takeV Z.R n).2.2 x n).2 :: dct kI true r kv :: pck pa id wd L :: H) ?_
      refine E_shfS (S := { giveN (takeN Z n) x n with D := w.1 }) hk rfl rfl (by simp only [giveN]; rw [r2]; exact e1.symm) (by simp only [giveN, takeN]; rw [hT]) ?_
      exact sm h
    · rw [if_neg hc1] at h
      refine E_dr ?_
      refine E_nc ?_
      refine E_fad0 ?_
      refine E_ld ?_
      refine E_fad0 ?_
      refine E_ld ?_
      refine E_ldNA ?_
      refine E_dmu (κ := Int) (enc := kI) (k := (id : Int)) Shf.key_mapIR ?_
      refine E_fad0 ?_
      refine E_ld ?_
      refine E_ldNA ?_
      refine Dig.E_Vr (buildPl _ _ _) ?_
      refine E_stW (v := plV id x n) (vs := [I id, I x, I n]) rfl rfl ?_
      refine E_ldNA ?_
      have hput := hk.put (p := ⟨id, x, n⟩) ho
      simp only at hput
      refine sm (G := cel true a 97 [ptr d, ptr m, .map (some r)] :: disk d w.1 :: xmap m Z.f (Z.f + Z.T.length) (takeV Z.R n).2.2 :: dct kI true r (dput kv (id : Int) (pI x n)) :: pck pa id wd L :: H) ?_
      rw [Int.toNat_natCast] at h
      refine E_shfS (S := { takeN Z n with D := w.1, P := putP Z.P ⟨id, x, n⟩ }) hput rfl rfl (by simp only [takeN]; rw [hT]) rfl ?_
      exact sm h
end Go.Proofs.YtmbfmkiagdhcoaaGreat.Bn
end
section
namespace Go.Proofs.YtmbfmkiagdhcoaaGreat.Disk
open Go Go.SL Go.Proofs Go.Proofs.YtmbfmkiagdhcoaaGreat.Sh
abbrev str (bs : List UInt8) : Value := .string ⟨bs.toArray⟩
theorem str_app (a b : List UInt8) : (⟨a.toArray⟩ : ByteArray) ++ ⟨b.toArray⟩ = ⟨(a ++ b).toArray⟩ := by
  apply ByteArray.ext; simp [ByteArray.data_append]
def pcs (s : Sec) : List Value := [str s.sure, str (s.last.getD []), .bool s.last.isSome]
def parts (S : List Sec) : List Value := S.flatMap pcs
theorem parts_append (S S' : List Sec) : parts (S ++ S') = parts S ++ parts S' := by simp [parts]
def rdisk (a : Nat) (D : Dk) : Asrt := ex fun (x : Nat × Nat × List Value) => all [cel true a 130 [.slice (some ⟨x.1, 0, none⟩) D.S.length x.2.1, I D.trip, .bool D.down, I D.life],
  cel false x.1 133 (parts D.S ++ x.2.2), pur (D.Ok ∧ D.S.length ≤ x.2.1)]
variable {B : World} {H : List Asrt} {K : Value → WT} {W : WT}
theorem E_rdisks {a b cap n : Nat} {D : Dk} {sp : List Value} {tr li : Int} {dn : Bool} (ho : D.Ok) (hle : n ≤ cap) (hn : n = D.S.length) (h1 : tr = D.trip) (h2 : dn = D.down) (h3 : li = D.life)
    (h : E B (rdisk a D :: H) W) : E B (cel true a 130 [.slice (some ⟨b, 0, none⟩) n cap, I tr, .bool dn, I li] :: cel false b 133 (parts D.S ++ sp) :: H) W := by
  subst hn h1 h2 h3
  refine E_pur' (p := D.Ok ∧ D.S.length ≤ cap) ⟨ho, hle⟩ ?_
  have h' := E_all' (E_ex' (f := fun (x : Nat × Nat × List Value) => all [cel true a 130 [.slice (some ⟨x.1, 0, none⟩) D.S.length x.2.1, I D.trip, .bool D.down, I D.life],
  cel false x.1 133 (parts D.S ++ x.2.2), pur (D.Ok ∧ D.S.length ≤ x.2.1)]) (b, cap, sp) h)
  exact E_same (by repeat (first | exact Same.refl | (refine Same.cons (by repeat (first | exact Find.here | apply Find.there)) ?_) | (refine Same.drop ?_))) h'
theorem E_cshare {b : Nat} {T : TypeId} {l : List Value} (h : E B (cel false b T l :: H) W) : E B (cel true b T l :: H) W := by
  intro w ⟨hb, lc, ⟨l1, l2, e, ⟨fr, _, h1⟩, hs⟩, hc⟩
  have hsat : sat B (pt true b (.cells l.toArray T fr) :: H) w := ⟨hb, lc, ⟨l1, l2, e, h1, hs⟩, hc⟩
  refine E_share (fun w hw => ?_) w hsat
  obtain ⟨hb, lc, ⟨l1, l2, e, h1, hs⟩, hc⟩ := hw
  exact h w ⟨hb, lc, ⟨l1, l2, e, ⟨fr, (fun h => by cases h), h1⟩, hs⟩, hc⟩
end Go.Proofs.YtmbfmkiagdhcoaaGreat.Disk
namespace Go.Proofs.YtmbfmkiagdhcoaaGreat.Disk
open Go Go.SL Go.Proofs Go.Proofs.YtmbfmkiagdhcoaaGreat.Sh
attribute [local irreducible] S.pick S.ld S.ldN S.st S.box S.nc S.fad S.ixS S.ixA S.chr S.prt S.ext S.bin S.sh S.sbin S.beq S.neg1 S.com1 S.not1 S.cvt S.str1 S.lenS S.len S.cap S.lenM S.mx S.mn S.mkM S.cond S.gd S.fa S.dr S.rck S.join S.loop S.cvv S.eqv S.slc S.slcS S.b2s S.lk V U CF Gives E cel mpb osl ros dct dit itr lpo dfo
attribute [local irreducible] disk rdisk
variable {B : World} {H : List Asrt} {K : Value → WT}
theorem u_rParts : Tryz.prog.underlying 128 = some (.slice 133) := by kernel_rfl
theorem elt_rPart : Elt Tryz.prog 133 3 40 (pcs ⟨[], none⟩) := elt_of (zv := .agg #[str [], str [], .bool false]) (by kernel_rfl) rfl rfl
theorem str_rPart : Str Tryz.prog 133 [(0, 1), (1, 1), (2, 1)] [str [], str [], .bool false] := str_of (zv := .agg #[str [], str [], .bool false]) (by kernel_rfl) (by kernel_rfl) rfl
theorem str_rDisk : Str Tryz.prog 130 [(0, 1), (1, 1), (2, 1), (3, 1)] [.slice none 0 0, I 0, .bool false, I 0] := str_of (zv := .agg #[.slice none 0 0, I 0, .bool false, I 0]) (by kernel_rfl) (by kernel_rfl) rfl
theorem zeros {n : Int} (hn : n ≤ 4096) (h : E B H (K (str (List.replicate n.toNat 0)))) : E B H (CF Tryz.prog 58 [I n] K) := by
  refine E_mono (W := s58 _ K) ?_ fun _ => c58
  unfold s58
  refine E_loop (σ := Nat) (fun j => j ≤ n.toNat) (fun j => [I n, str (List.replicate j 0)]) (fun _ => H) (fun j => n.toNat - j) 0 (fun _ => rfl) rfl (Nat.zero_le _) (fun W hW => hW) ?_
  intro j K0 hj hk
  refine E_fa fun _ => ?_
  (repeat first | refine gS ?_ | refine gA fun _ => ?_ | refine gX fun _ _ => ?_ | refine gT ?_ | refine gF ?_ | refine gI ?_)
  have hs : (⟨(List.replicate j (0 : UInt8)).toArray⟩ : ByteArray).size = j := by simp [ByteArray.size]
  first | rw [hs] | rw [List.length_replicate]
  refine E_if (fun hc => ?_) (fun hc => ?_)
  · have e0 : (⟨#[0]⟩ : ByteArray) = ⟨[0].toArray⟩ := rfl
    rw [e0]
    refine E_sadd (by rw [hs]; simp [ByteArray.size]; omega) ?_
    rw [str_app]
    have e : List.replicate j (0 : UInt8) ++ [0] = List.replicate (j + 1) 0 := by rw [List.replicate_succ']
    rw [e]
    exact hk (j + 1) (by omega) (by omega)
  · have : j = n.toNat := by omega
    rw [this]; exact h
end Go.Proofs.YtmbfmkiagdhcoaaGreat.Disk
namespace Go.Proofs.YtmbfmkiagdhcoaaGreat.Disk
open Go Go.SL Go.Proofs Go.Proofs.YtmbfmkiagdhcoaaGreat.Sh
attribute [local irreducible] S.pick S.ld S.ldN S.st S.box S.nc S.fad S.ixS S.ixA S.chr S.prt S.ext S.bin S.sh S.sbin S.beq S.neg1 S.com1 S.not1 S.cvt S.str1 S.lenS S.len S.cap S.lenM S.mx S.mn S.mkM S.cond S.gd S.fa S.dr S.rck S.join S.loop S.cvv S.eqv S.slc S.slcS S.b2s S.lk V U CF Gives E cel mpb osl ros dct dit itr lpo dfo
attribute [local irreducible] disk rdisk
variable {B : World} {H : List Asrt} {K : Value → WT}
end Go.Proofs.YtmbfmkiagdhcoaaGreat.Disk
namespace Go.Proofs.YtmbfmkiagdhcoaaGreat.Disk
open Go Go.SL Go.Proofs Go.Proofs.YtmbfmkiagdhcoaaGreat.Sh
attribute [local irreducible] S.pick S.ld S.ldN S.st S.box S.nc S.fad S.ixS S.ixA S.chr S.prt S.ext S.bin S.sh S.sbin S.beq S.neg1 S.com1 S.not1 S.cvt S.str1 S.lenS S.len S.cap S.lenM S.mx S.mn S.mkM S.cond S.gd S.fa S.dr S.rck S.join S.loop S.cvv S.eqv S.slc S.slcS S.b2s S.lk V U CF Gives E cel mpb osl ros dct dit itr lpo dfo
attribute [local irreducible] disk rdisk
variable {B : World} {H : List Asrt} {K : Value → WT}
theorem rnew {n : Int} (h0 : n < 1 ∨ 4096 < n → E B H (K (.tuple #[.pointer none, I 2]))) (h1 : 1 ≤ n → n ≤ 4096 → ∀ a, E B (rdisk a (Dk.new n.toNat) :: H) (K (.tuple #[ptr a, I 0]))) : E B H (CF Tryz.prog 28 [I n] K) := by
  refine E_mono (W := s28 _ K) ?_ fun _ => c28
  unfold s28
  refine E_join0 ?_
  (repeat first | refine gS ?_ | refine gA fun _ => ?_ | refine gX fun _ _ => ?_ | refine gT ?_ | refine gF ?_ | refine gI ?_)
  by_cases hn1 : n < 1
  · (repeat first | refine gS ?_ | refine gA fun _ => ?_ | refine gX fun _ _ => ?_ | refine gT ?_ | refine gF ?_ | refine gI ?_)
    exact h0 (.inl hn1)
  (repeat first | refine gS ?_ | refine gA fun _ => ?_ | refine gX fun _ _ => ?_ | refine gT ?_ | refine gF ?_ | refine gI ?_)
  refine E_if (fun hc => ?_) (fun hc => ?_)
  · exact h0 (.inr (by omega))
  refine E_build (l := [.slice none 0 0, I 0, .bool false, I 0]) str_rDisk ?_
  (repeat first | refine gS ?_ | refine gA fun _ => ?_ | refine gX fun _ _ => ?_ | refine gT ?_ | refine gF ?_ | refine gI ?_)
  rename_i a
  refine zeros (by omega) ?_
  refine osl_nil (T := 133) (sz := 3) ?_
  refine E_loop (σ := Nat × Value) (fun s => s.1 ≤ n.toNat ∧ CellI s.2) (fun s => [I n, ptr a, str zero128, I s.1])
    (fun s => osl 133 3 s.2 s.1 (parts (List.replicate s.1 ⟨zero128, none⟩)) :: cel true a 130 [s.2, I 0, .bool false, I 0] :: H) (fun s => n.toNat - s.1)
    (0, .slice none 0 0) (fun _ => rfl) rfl ⟨Nat.zero_le _, ⟨rfl⟩⟩ (fun W hW => E_same (by repeat (first | exact Same.refl | (refine Same.cons (by repeat (first | exact Find.here | apply Find.there)) ?_) | (refine Same.drop ?_))) hW) ?_
  rintro ⟨j, v⟩ K0 ⟨hj, hcv⟩ hk
  simp only at hj hk hcv ⊢
  refine E_fa fun _ => ?_
  (repeat first | refine gS ?_ | refine gA fun _ => ?_ | refine gX fun _ _ => ?_ | refine gT ?_ | refine gF ?_ | refine gI ?_)
  refine E_if (fun hc => ?_) (fun hc => ?_)
  · (repeat first | refine gS ?_ | refine gA fun _ => ?_ | refine gX fun _ _ => ?_ | refine gT ?_ | refine gF ?_ | refine gI ?_)
    refine E_build (l := [str zero128, str [], .bool false]) str_rPart ?_
    refine E_bsl [(0, 3)] u_rParts elt_rPart (by simp) (by decide) (l0 := [str [], str [], .bool false]) rfl fun b1 => ?_
    refine fd (a := osl 133 3 v j (parts (List.replicate j ⟨zero128, none⟩))) ?_
    refine E_app (m := 1) (ys := [str zero128, str [], .bool false]) u_rParts elt_rPart (rd_slice (l := [str zero128, str [], .bool false]) (T := 133) (κ := true) u_rParts rfl rfl (by simp [isCell])) (by omega) (by omega) fun v' _ => ?_
    (repeat first | refine gS ?_ | refine gA fun _ => ?_ | refine gX fun _ _ => ?_ | refine gT ?_ | refine gF ?_ | refine gI ?_)
    have hk' := hk (j + 1, v') ⟨by simp only; omega, by assumption⟩ (by simp only; omega)
    have e : parts (List.replicate (j + 1) ⟨zero128, none⟩) = parts (List.replicate j ⟨zero128, none⟩) ++ [str zero128, str [], .bool false] := by
      rw [List.replicate_succ', parts_append]; rfl
    simp only [e] at hk'
    exact sm hk'
  · (repeat first | refine gS ?_ | refine gA fun _ => ?_ | refine gX fun _ _ => ?_ | refine gT ?_ | refine gF ?_ | refine gI ?_)
    have hj' : j = n.toNat := by omega
    subst hj'
    refine E_oslo (by omega) fun b cap sp hv hle hxl hsl => ?_
    subst hv
    refine E_cshare ?_
    have ho : (Dk.new n.toNat).Ok := ⟨by simp [Dk.new]; omega, by simp [Dk.new]; omega, by simp [Dk.new], by simp [Dk.new], fun s hs => by
      simp only [Dk.new, List.mem_replicate] at hs
      rw [hs.2]; exact ⟨List.length_replicate, fun b hb => by cases hb⟩⟩
    exact E_same (by repeat (first | exact Same.refl | (refine Same.cons (by repeat (first | exact Find.here | apply Find.there)) ?_) | (refine Same.drop ?_))) (E_rdisks (H := H) (D := Dk.new n.toNat) (n := n.toNat) ho hle (by simp [Dk.new]) rfl rfl rfl (b := b) (sp := sp) (h1 (by omega) (by omega) a))
end Go.Proofs.YtmbfmkiagdhcoaaGreat.Disk
namespace Go.Proofs.YtmbfmkiagdhcoaaGreat.Disk
open Go Go.SL Go.Proofs Go.Proofs.YtmbfmkiagdhcoaaGreat.Sh
attribute [local irreducible] S.pick S.ld S.ldN S.st S.box S.nc S.fad S.ixS S.ixA S.chr S.prt S.ext S.bin S.sh S.sbin S.beq S.neg1 S.com1 S.not1 S.cvt S.str1 S.lenS S.len S.cap S.lenM S.mx S.mn S.mkM S.cond S.gd S.fa S.dr S.rck S.join S.loop S.cvv S.eqv S.slc S.slcS S.b2s S.lk V U CF Gives E cel mpb osl ros dct dit itr lpo dfo
attribute [local irreducible] disk rdisk
variable {B : World} {H : List Asrt} {K : Value → WT}
end Go.Proofs.YtmbfmkiagdhcoaaGreat.Disk
namespace Go.Proofs.YtmbfmkiagdhcoaaGreat.Disk
open Go Go.SL Go.Proofs Go.Proofs.YtmbfmkiagdhcoaaGreat.Sh
attribute [local irreducible] S.pick S.ld S.ldN S.st S.box S.nc S.fad S.ixS S.ixA S.chr S.prt S.ext S.bin S.sh S.sbin S.beq S.neg1 S.com1 S.not1 S.cvt S.str1 S.lenS S.len S.cap S.lenM S.mx S.mn S.mkM S.cond S.gd S.fa S.dr S.rck S.join S.loop S.cvv S.eqv S.slc S.slcS S.b2s S.lk V U CF Gives E cel mpb osl ros dct dit itr lpo dfo
attribute [local irreducible] disk rdisk
variable {B : World} {H : List Asrt} {K : Value → WT}
end Go.Proofs.YtmbfmkiagdhcoaaGreat.Disk
end
section
namespace Go.Proofs.YtmbfmkiagdhcoaaGreat.Bn
open Go Go.SL Go.Proofs Go.Proofs.YtmbfmkiagdhcoaaGreat.Sh Go.Proofs.YtmbfmkiagdhcoaaGreat.Oct Go.Proofs.YtmbfmkiagdhcoaaGreat.Disk Go.Proofs.YtmbfmkiagdhcoaaGreat.Slot Go.Proofs.YtmbfmkiagdhcoaaGreat.Pk Go.Proofs.YtmbfmkiagdhcoaaGreat.Ext
variable {B : World} {H : List Asrt} {K : Value → WT} {W : WT}
def rsh (a x y : Nat) (Z : Shf) : Asrt := ex fun v : Pk.Cv => all [cel true a 86 [ptr x, ptr y, v.1], rdisk x Z.D, rmap y Z.f Z.T, sls cPl 34 3 v.1 Z.P]
theorem E_rshS {a x y : Nat} {Z : Shf} {v : Value} {D : Dk} {T : List Bool} {P : List Pc} {f : Nat} [hv : CellI v] (hD : D = Z.D) (hf : f = Z.f) (hT : T = Z.T) (hP : P = Z.P) (h : E B (rsh a x y Z :: H) W) :
    E B (cel true a 86 [ptr x, ptr y, v] :: rdisk x D :: rmap y f T :: sls cPl 34 3 v P :: H) W := by
  subst hD hf hT hP
  exact E_all' (G := [cel true a 86 [ptr x, ptr y, v], rdisk x Z.D, rmap y Z.f Z.T, sls cPl 34 3 v Z.P]) (E_ex' (f := fun v : Pk.Cv => all [cel true a 86 [ptr x, ptr y, v.1], rdisk x Z.D, rmap y Z.f Z.T, sls cPl 34 3 v.1 Z.P]) ⟨v, hv.pf⟩ h)
attribute [local irreducible] S.pick S.ld S.ldN S.st S.box S.nc S.fad S.ixS S.ixA S.chr S.prt S.ext S.bin S.sh S.sbin S.beq S.neg1 S.com1 S.not1 S.cvt S.str1 S.lenS S.len S.cap S.lenM S.mx S.mn S.mkM S.cond S.gd S.fa S.dr S.rck S.join S.loop S.cvv S.eqv S.slc S.slcS S.b2s S.lk V U CF Gives E cel mpb osl ros dct dit itr lpo dfo
end Go.Proofs.YtmbfmkiagdhcoaaGreat.Bn
end
section
namespace Go.Proofs.YtmbfmkiagdhcoaaGreat.Bn
open Go Go.SL Go.Proofs Go.Proofs.YtmbfmkiagdhcoaaGreat.Sh Go.Proofs.YtmbfmkiagdhcoaaGreat.Oct Go.Proofs.YtmbfmkiagdhcoaaGreat.Disk Go.Proofs.YtmbfmkiagdhcoaaGreat.Slot Go.Proofs.YtmbfmkiagdhcoaaGreat.Pk Go.Proofs.YtmbfmkiagdhcoaaGreat.Ext
variable {B : World} {H : List Asrt} {K : Value → WT} {W : WT}
structure Ad where
  a : Nat
  d : Nat
  m : Nat
  y : Nat
  x : Nat
  my : Nat
def par (b : Nat) (A : Ad) (Z : Shf) : Asrt := all [cel true b 42 [ptr A.d, ptr A.x, ptr A.a, ptr A.y], shf A.a A.d A.m Z, rsh A.y A.x A.my Z]
theorem E_par {b : Nat} {A : Ad} {Z : Shf} (h : E B (cel true b 42 [ptr A.d, ptr A.x, ptr A.a, ptr A.y] :: shf A.a A.d A.m Z :: rsh A.y A.x A.my Z :: H) W) : E B (par b A Z :: H) W := E_all h
theorem E_parS {b : Nat} {A : Ad} {Z : Shf} (h : E B (par b A Z :: H) W) : E B (cel true b 42 [ptr A.d, ptr A.x, ptr A.a, ptr A.y] :: shf A.a A.d A.m Z :: rsh A.y A.x A.my Z :: H) W := E_all' (G := [cel true b 42 [ptr A.d, ptr A.x, ptr A.a, ptr A.y], shf A.a A.d A.m Z, rsh A.y A.x A.my Z]) h
theorem rel_new {f n : Nat} (h : f ≤ n) : Rel f (List.replicate (n - f) false) (newL f n) := by
  unfold newL
  by_cases hf : f < n
  · rw [if_pos hf]
    refine ⟨⟨Nat.le_refl _, by simp only; omega, trivial⟩, fun x => ?_⟩
    simp only [In, List.mem_cons, List.not_mem_nil, or_false, exists_eq_left]
    constructor
    · rintro ⟨h1, h2⟩
      refine ⟨x - f, by omega, ?_⟩
      rw [List.getD_eq_getElem?_getD, List.getElem?_replicate, if_pos (by omega)]; rfl
    · rintro ⟨j, rfl, hj⟩
      have := getD_lt hj
      rw [List.length_replicate] at this
      omega
  · rw [if_neg hf, show n - f = 0 by omega]
    exact ⟨trivial, fun x => ⟨fun h => absurd h (in_nil x), fun ⟨j, _, hj⟩ => by simp at hj⟩⟩
def newZ (n f : Nat) : Shf := ⟨Dk.new n, f, List.replicate (n - f) false, newL f n, []⟩
theorem new_inv {n f : Nat} (h : f ≤ n) (hn : n ≤ 4096) : Inv (newZ n f) :=
  ⟨rel_new h, by simp [newZ]; omega, List.Pairwise.nil, fun _ hp => (by cases hp), fun _ hp => (by cases hp), fun _ hp => (by cases hp)⟩
theorem new_good {n f : Nat} (h : f ≤ n) (hn : n ≤ 4096) : Good (newZ n f) := ⟨new_inv h hn, ⟨rfl, rfl⟩, by simp [newZ, Dk.new]; omega⟩
theorem buildR12 (p q : Nat) (w : World) : (Instr.build 86 #[(0, ptr p), (1, ptr q)]).run Tryz.prog w = .ok (.agg #[ptr p, ptr q, nl]) w := by kernel_rfl
theorem buildPr (p q r s : Nat) (w : World) : (Instr.build 42 #[(0, ptr p), (1, ptr q), (2, ptr r), (3, ptr s)]).run Tryz.prog w = .ok (.agg #[ptr p, ptr q, ptr r, ptr s]) w := by kernel_rfl
attribute [local irreducible] S.pick S.ld S.ldN S.st S.box S.nc S.fad S.ixS S.ixA S.chr S.prt S.ext S.bin S.sh S.sbin S.beq S.neg1 S.com1 S.not1 S.cvt S.str1 S.lenS S.len S.cap S.lenM S.mx S.mn S.mkM S.cond S.gd S.fa S.dr S.rck S.join S.loop S.cvv S.eqv S.slc S.slcS S.b2s S.lk V U CF Gives E cel mpb osl ros dct dit itr lpo dfo
theorem begin12 {s f : UInt8} (h : ∀ b A, E B (par b A (newZ (8 + s.toNat % 73) (f.toNat % 5)) :: H) (K (.tuple #[ptr b, .bool true]))) : E B H (CF Tryz.prog 7 [.int .u8 s.toNat, .int .u8 f.toNat] K) := by
  refine E_mono (W := s7 _ _ K) ?_ fun _ => c7
  unfold s7
  have hs := s.toNat_lt
  have hf := f.toNat_lt
  refine E_cvtI (by omega) (by omega) ?_
  refine Dig.E_rem0 (b := 73) (by decide) ?_
  refine E_addI (by omega) (by omega) ?_
  refine E_cvtI (by omega) (by omega) ?_
  refine Dig.E_rem0 (b := 5) (by decide) ?_
  rw [show (8 : Int) + ((s.toNat % 73 : Nat) : Int) = ((8 + s.toNat % 73 : Nat) : Int) by omega]
  have hn : 8 + s.toNat % 73 ≤ 80 := by omega
  have hff : f.toNat % 5 ≤ 4 := by omega
  have hge : 8 ≤ 8 + s.toNat % 73 := by omega
  generalize 8 + s.toNat % 73 = n at h hn hge ⊢
  generalize f.toNat % 5 = g at h hff ⊢
  refine Disk.new (fun hx => by omega) fun _ _ d => ?_
  rw [Int.toNat_natCast]
  refine E_ext ?_
  refine E_ext ?_
  refine Disk.rnew (fun hx => by omega) fun _ _ x => ?_
  rw [Int.toNat_natCast]
  refine E_ext ?_
  refine E_ext ?_
  refine xnew (f := g) (t := n) (by omega) (by omega) fun m => ?_
  refine E_ext ?_
  refine E_ext ?_
  refine rmnew (f := g) (t := n) (by omega) (by omega) fun my => ?_
  refine E_ext ?_
  refine E_ext ?_
  have e : g + (List.replicate (n - g) false).length = n := by rw [List.length_replicate]; omega
  have e2 : xmap m g n (newL g n) = xmap m g (g + (List.replicate (n - g) false).length) (newL g n) := by rw [e]
  refine fd (a := xmap m g n (newL g n)) ?_
  rw [e2]
  refine fd (a := disk d (Dk.new n)) ?_
  refine bnew fun a => ?_
  rw [show (⟨Dk.new n, g, List.replicate (n - g) false, newL g n, []⟩ : Shf) = newZ n g from rfl]
  refine E_ext ?_
  refine E_ext ?_
  refine Dig.E_Vr (buildR12 x my) ?_
  refine E_box (v := .agg #[ptr x, ptr my, nl]) (vs := [ptr x, ptr my, nl]) fun y => ?_
  refine Dig.E_Vr (buildPr d x a y) ?_
  refine E_box (v := .agg #[ptr d, ptr x, ptr a, ptr y]) (vs := [ptr d, ptr x, ptr a, ptr y]) fun b => ?_
  refine sls_nil cPl 3 (T := 34) ?_
  refine sm (G := cel true y 86 [ptr x, ptr my, nl] :: rdisk x (Dk.new n) :: rmap my g (List.replicate (n - g) false) :: sls cPl 34 3 nl [] :: cel true b 42 [ptr d, ptr x, ptr a, ptr y] :: shf a d m (newZ n g) :: H) ?_
  refine E_rshS (Z := newZ n g) rfl rfl rfl rfl ?_
  have h' := h b ⟨a, d, m, y, x, my⟩
  refine sm (G := cel true b 42 [ptr d, ptr x, ptr a, ptr y] :: shf a d m (newZ n g) :: rsh y x my (newZ n g) :: H) ?_
  refine E_parS (A := ⟨a, d, m, y, x, my⟩) ?_
  (repeat (first | refine goS ?_ | refine E_box fun _ => ?_ | refine E_fa fun _ => ?_ | refine E_ptfad0 fun _ _ => ?_ | refine E_ptfad fun _ _ => ?_ | refine E_rsix (by assumption) fun _ _ => ?_ | refine goT (by first | assumption | decide) ?_ | refine goF (by first | assumption | decide) ?_ | refine E_ixN (by omega) ?_ | refine E_ld' (by assumption) ?_ | refine E_addI (by omega) (by omega) ?_ | refine E_subI (by omega) (by omega) ?_ | refine E_mulI (by omega) (by omega) ?_))
  refine E_pne u_pSh ?_
  (repeat (first | refine goS ?_ | refine E_box fun _ => ?_ | refine E_fa fun _ => ?_ | refine E_ptfad0 fun _ _ => ?_ | refine E_ptfad fun _ _ => ?_ | refine E_rsix (by assumption) fun _ _ => ?_ | refine goT (by first | assumption | decide) ?_ | refine goF (by first | assumption | decide) ?_ | refine E_ixN (by omega) ?_ | refine E_ld' (by assumption) ?_ | refine E_addI (by omega) (by omega) ?_ | refine E_subI (by omega) (by omega) ?_ | refine E_mulI (by omega) (by omega) ?_))
  exact h'
def packL (wd : Nat) (cs : List (List UInt8)) : Ch := (cs.take 20).foldl (addL wd) []
theorem foldl_ok {id wd : Nat} : ∀ (cs : List (List UInt8)) {L : Ch}, POk id wd L → POk id wd (cs.foldl (addL wd) L)
  | [], _, h => h
  | b :: cs, _, h => foldl_ok cs (addL_ok h b)
theorem pack_ok {id wd : Nat} (h : POk id wd []) (cs : List (List UInt8)) : POk id wd (packL wd cs) := foldl_ok _ h
theorem fold_suc {wd : Nat} {cs : List (List UInt8)} {i : Nat} {b : List UInt8} (h : cs[i]? = some b) : (cs.take (i + 1)).foldl (addL wd) [] = addL wd ((cs.take i).foldl (addL wd) []) b := by
  rw [List.take_add_one, h, List.foldl_append]; rfl
theorem u_pR11 : Tryz.prog.underlying 28 = some (.pointer 47) := by kernel_rfl
abbrev badP (i w : Int) : Prop := i < 0 ∨ 4096 ≤ i ∨ w < 4 ∨ 64 < w
theorem packersZ {l2 : Value} {i w : Int} (hb : badP i w) (h : E B H (K (.tuple #[.pointer none, .pointer none]))) : E B H (CF Tryz.prog 8 [I i, I w, l2] K) := by
  refine E_mono (W := s8 _ _ _ K) ?_ fun _ => c8
  unfold s8
  refine pknew (fun _ => ?_) fun a id wd h1 h2 _ => by unfold badP at hb; rename_i ok; have := ok.idl; have := ok.lo; have := ok.hi; omega
  refine E_ext ?_
  refine E_ext ?_
  refine rpnew (fun _ => ?_) fun a id wd h1 h2 _ => by unfold badP at hb; rename_i ok; have := ok.idl; have := ok.lo; have := ok.hi; omega
  refine E_ext ?_
  refine E_ext ?_
  refine E_loop (n := 4) (σ := Unit) (fun _ => True) (fun _ => [l2, .pointer none, .pointer none, I 0]) (fun _ => H) (fun _ => 0) () (fun _ => rfl) rfl trivial (fun W hW => hW) ?_
  intro _ K0 _ hk
  refine E_fa fun _ => ?_
  refine E_join1 (n := 5) [l2, .pointer none, .pointer none, I 0, .bool false] H (fun q hq => ?_) ?_
  · refine E_pne0 u_pR11 ?_
    (repeat (first | refine goS ?_ | refine E_box fun _ => ?_ | refine E_fa fun _ => ?_ | refine E_ptfad0 fun _ _ => ?_ | refine E_ptfad fun _ _ => ?_ | refine E_rsix (by assumption) fun _ _ => ?_ | refine goT (by first | assumption | decide) ?_ | refine goF (by first | assumption | decide) ?_ | refine E_ixN (by omega) ?_ | refine E_ld' (by assumption) ?_ | refine E_addI (by omega) (by omega) ?_ | refine E_subI (by omega) (by omega) ?_ | refine E_mulI (by omega) (by omega) ?_))
    exact hq
  refine E_fa fun _ => ?_
  refine E_ff ?_
  exact h
theorem packers {l2 : Value} {i w : Int} {l : List Bv} [hv : Rs B H l2 Pk.cV l] (hb : ∀ b ∈ l, (∀ Q, Rb B (Q ++ H) b.v b.bs) ∧ b.bs.length ≤ 140737488351232) (hn : ¬ badP i w)
    (h : ∀ a c id wd : Nat, i = (id : Int) → w = (wd : Int) → POk id wd [] → E B (pck a id wd (packL wd (l.map (·.bs))) :: rpk c id wd (packL wd (l.map (·.bs))) :: H) (K (.tuple #[ptr a, ptr c]))) : E B H (CF Tryz.prog 8 [I i, I w, l2] K) := by
  refine E_mono (W := s8 _ _ _ K) ?_ fun _ => c8
  unfold s8
  refine pknew (fun hx => absurd hx hn) fun a id wd h1 h2 hp0 => ?_
  refine E_ext ?_
  refine E_ext ?_
  refine rpnew (fun hx => absurd hx hn) fun c id' wd' h1' h2' _ => ?_
  have e1 : id' = id := by omega
  have e2 : wd' = wd := by omega
  subst e1 e2
  refine E_ext ?_
  refine E_ext ?_
  have hh := h a c id' wd' h1 h2 hp0
  have hmin : (l.map (·.bs)).take 20 = (l.map (·.bs)).take (min 20 l.length) := by
    rcases Nat.lt_or_ge l.length 20 with h' | h'
    · rw [show min 20 l.length = l.length by omega, List.take_of_length_le (by simp; omega), List.take_of_length_le (by simp)]
    · rw [show min 20 l.length = 20 by omega]
  refine E_loop (n := 4) (σ := Nat) (fun i => i ≤ min 20 l.length) (fun i => [l2, ptr a, ptr c, I i]) (fun i => pck a id' wd' (((l.map (·.bs)).take i).foldl (addL wd') []) :: rpk c id' wd' (((l.map (·.bs)).take i).foldl (addL wd') []) :: H) (fun i => min 20 l.length - i) 0 (fun _ => rfl) rfl (Nat.zero_le _) (fun W hW => by
    simp only [List.take_zero, List.foldl_nil] at hW
    exact sm hW) ?_
  intro i K0 hi hk
  have hok := foldl_ok ((l.map (·.bs)).take i) hp0
  refine E_fa fun _ => ?_
  refine E_join1 (n := 5) [l2, ptr a, ptr c, I i, .bool (decide (i < min 20 l.length))] (pck a id' wd' (((l.map (·.bs)).take i).foldl (addL wd') []) :: rpk c id' wd' (((l.map (·.bs)).take i).foldl (addL wd') []) :: H) (fun q hq => ?_) ?_
  · refine E_pne u_pR11 ?_
    refine E_gtf ?_
    refine E_gtf ?_
    refine E_gtf ?_
    refine E_rslen (v := l2) (l := l) ?_
    refine E_gtf ?_
    refine E_lss ?_
    refine E_ptt ?_
    by_cases h1 : i < l.length
    · have e : decide (i < min 20 l.length) = decide ((i : Int) < 20) := by rw [decide_eq_decide]; omega
      rw [e] at hq
      rw [decide_eq_true (show (i : Int) < (l.length : Int) by omega)]
      refine E_gtf ?_
      refine E_gtf ?_
      refine E_lss ?_
      refine E_ptt ?_
      exact hq
    · rw [decide_eq_false (by omega)] at hq
      rw [decide_eq_false (show ¬ (i : Int) < (l.length : Int) by omega)]
      refine E_gff ?_
      refine E_gff ?_
      refine E_pff ?_
      exact hq
  refine E_fa fun _ => ?_
  refine E_if (fun hc => ?_) (fun hc => ?_)
  · have hx : l[i]? = some (l[i]'(by omega)) := List.getElem?_eq_getElem (by omega)
    obtain ⟨hb1, hb2⟩ := hb _ (List.getElem_mem (show i < l.length by omega))
    generalize (l[i]'(by omega)) = b at hx hb1 hb2
    have hx2 : (l.map (·.bs))[i]? = some b.bs := by rw [List.getElem?_map, hx]; rfl
    have hk1 := hk (i + 1) (by omega) (by omega)
    rw [fold_suc hx2] at hk1
    refine E_rsix (v := l2) (l := l) hx fun _ _ => ?_
    refine E_ptld ?_
    have r1 := hb1 [rpk c id' wd' (((l.map (·.bs)).take i).foldl (addL wd') [])]
    refine pkadd (bv := b.v) (b := b.bs) (hb := r1) hok hb2 fun _ _ => ?_
    refine E_rsix (v := l2) (l := l) hx fun _ _ => ?_
    refine E_ptld ?_
    refine fd (a := rpk c id' wd' (((l.map (·.bs)).take i).foldl (addL wd') [])) ?_
    have r2 := hb1 [pck a id' wd' (addL wd' (((l.map (·.bs)).take i).foldl (addL wd') []) b.bs)]
    refine rpadd (bv := b.v) (b := b.bs) (hb := r2) hok hb2 fun _ _ => ?_
    refine E_addI (by omega) (by omega) ?_
    exact sm hk1
  · have hie : i = min 20 l.length := by omega
    subst hie
    rw [← hmin]
    exact hh
end Go.Proofs.YtmbfmkiagdhcoaaGreat.Bn
end
section
namespace Go.Proofs.YtmbfmkiagdhcoaaGreat.Bn
open Go Go.SL Go.Proofs Go.Proofs.YtmbfmkiagdhcoaaGreat.Sh Go.Proofs.YtmbfmkiagdhcoaaGreat.Oct Go.Proofs.YtmbfmkiagdhcoaaGreat.Disk Go.Proofs.YtmbfmkiagdhcoaaGreat.Slot Go.Proofs.YtmbfmkiagdhcoaaGreat.Pk Go.Proofs.YtmbfmkiagdhcoaaGreat.Ext
variable {B : World} {H : List Asrt} {K : Value → WT} {W : WT}
theorem eq_run (a b a' b' : Int) : EqG Tryz.prog 2 32 (.agg #[I a, I b]) (.agg #[I a', I b']) (decide (a = a' ∧ b = b')) := by
  have h := eqg_struct (P := Tryz.prog) (n := 1) (t := 32) (xs := [I a, I b]) (ys := [I a', I b']) (bs := [decide (a = a'), decide (b = b')]) [(3, 0), (3, 1)] (by kernel_rfl) (by kernel_rfl) (by kernel_rfl) rfl (fun i t o b'' h1 h2 => by
    match i, h1, h2 with
    | 0, h1, h2 => cases h1; cases h2; exact ⟨_, _, partG_cell (eqV_int (a := a) (b := a') Shf.u_int).1 rfl, partG_cell (eqV_int (a := a) (b := a') Shf.u_int).1 rfl, (eqV_int Shf.u_int).g⟩
    | 1, h1, h2 => cases h1; cases h2; exact ⟨_, _, partG_cell (eqV_int (a := a) (b := a') Shf.u_int).1 rfl, partG_cell (eqV_int (a := a) (b := a') Shf.u_int).1 rfl, (eqV_int Shf.u_int).g⟩
    | n + 2, h1, h2 => simp at h1)
  simpa [Bool.decide_and] using h
theorem eq_place (a b n a' b' n' : Int) : EqG Tryz.prog 3 34 (.agg #[I a, I b, I n]) (.agg #[I a', I b', I n']) (decide (a = a' ∧ b = b' ∧ n = n')) := by
  have h := eqg_struct (P := Tryz.prog) (n := 2) (t := 34) (xs := [I a, I b, I n]) (ys := [I a', I b', I n']) (bs := [decide (a = a'), decide (b = b' ∧ n = n')]) [(3, 0), (32, 1)] (by kernel_rfl) (by kernel_rfl) (by kernel_rfl) rfl (fun i t o b'' h1 h2 => by
    match i, h1, h2 with
    | 0, h1, h2 => cases h1; cases h2; exact ⟨_, _, partG_cell (eqV_int (a := a) (b := a') Shf.u_int).1 rfl, partG_cell (eqV_int (a := a) (b := a') Shf.u_int).1 rfl, (eqV_int Shf.u_int).g.up (by decide)⟩
    | 1, h1, h2 => cases h1; cases h2; exact ⟨_, _, partG_agg (ys := [I b, I n]) (n := 2) (by kernel_rfl) (by kernel_rfl) rfl, partG_agg (ys := [I b', I n']) (n := 2) (by kernel_rfl) (by kernel_rfl) rfl, eq_run b n b' n'⟩
    | n + 2, h1, h2 => simp at h1)
  simpa [Bool.decide_and] using h
set_option maxRecDepth 100000
theorem noGuardPl : Tryz.prog.eqGuardType Tryz.prog.depth 34 = false := by kernel_rfl
theorem E_placeEq {c : Bool} {a b n : Int} (h : E B H (K (.bool true))) : E B H (S.eqv Tryz.prog .eql 34 c (plV a b n) (plV a b n) K) :=
  E_aeq noGuardPl (fun w => by have := (eq_place a b n a b n).equal (by decide) w; simpa using this) h
structure Dd where
  dk : Int
  n : Int
  wd : Int
  pb : Int
  pa : Int
  pn : Int
  cv : Pk.Cv
  bv : Pk.Cv
  kv : Pk.Cv
  cs : List Bv
  bs : List UInt8
  c : Cr
abbrev cDd (d : Dd) : List Value := [I d.dk, I d.n, I d.wd, I d.pb, I d.pa, I d.pn, d.cv.1, d.bv.1, d.kv.1, I d.c.torn, I d.c.at_]
instance encDd : Enc cDd 11 := ⟨fun _ => rfl, fun d y hy => by
  simp only [List.mem_cons, List.not_mem_nil, or_false] at hy
  rcases hy with rfl | rfl | rfl | rfl | rfl | rfl | rfl | rfl | rfl | rfl | rfl <;> first | rfl | exact d.cv.2 | exact d.bv.2 | exact d.kv.2⟩
structure DdP (B : World) (d : Dd) : Prop where
  rc : rdX B d.cv.1 d.cs.length (d.cs.flatMap Pk.cV)
  rb : ∀ b ∈ d.cs, SL.rdB B b.v b.bs ∧ b.bs.length ≤ 140737488351232
  rs : SL.rdB B d.bv.1 d.bs
  rk : rdX B d.kv.1 d.c.keep.length (bools d.c.keep)
  ln : d.n ≤ 9223372036854775807
  la : d.pa ≤ 9223372036854775807
def packD (d : Dd) : Ch := packL d.wd.toNat (d.cs.map (·.bs))
def sealD (Z : Shf) (d : Dd) : Shf := if badP d.pb d.wd then Z else (sealV Z d.pb.toNat (packD d)).2.2
theorem pok0 {d : Dd} (h : ¬ badP d.pb d.wd) : POk d.pb.toNat d.wd.toNat [] := by
  unfold badP at h
  exact ⟨by omega, by omega, by omega, by simp, by simp; omega, by simp⟩
attribute [local irreducible] S.pick S.ld S.ldN S.st S.box S.nc S.fad S.ixS S.ixA S.chr S.prt S.ext S.bin S.sh S.sbin S.beq S.neg1 S.com1 S.not1 S.cvt S.str1 S.lenS S.len S.cap S.lenM S.mx S.mn S.mkM S.cond S.gd S.fa S.dr S.rck S.join S.loop S.cvv S.eqv S.slc S.slcS S.b2s S.lk V U CF Gives E cel mpb osl ros dct dit itr lpo dfo
end Go.Proofs.YtmbfmkiagdhcoaaGreat.Bn
end
section
namespace Go.Proofs.YtmbfmkiagdhcoaaGreat.Bn
open Go Go.SL Go.Proofs Go.Proofs.YtmbfmkiagdhcoaaGreat.Sh Go.Proofs.YtmbfmkiagdhcoaaGreat.Oct Go.Proofs.YtmbfmkiagdhcoaaGreat.Disk Go.Proofs.YtmbfmkiagdhcoaaGreat.Slot Go.Proofs.YtmbfmkiagdhcoaaGreat.Pk Go.Proofs.YtmbfmkiagdhcoaaGreat.Ext
variable {B : World} {H : List Asrt} {K : Value → WT} {W : WT}
def abcL : Ch := [[97, 98, 99]]
theorem abc_pack : packL 4 [[97, 98, 99]] = abcL := by decide
theorem abc_ok : POk 7 4 abcL := ⟨by decide, by decide, by decide, by decide, by decide, by decide⟩
theorem abc_n : (imgL 7 abcL).length / 128 = 2 := by
  obtain ⟨h1, h2, h3⟩ := img_len 7 abcL
  have e1 : abcL.flatten.length = 3 := rfl
  have e2 : abcL.length = 1 := rfl
  omega
theorem live_seal : (sealV (newZ 10 0) 7 abcL).1 = (7, 0, 2) ∧ (sealV (newZ 10 0) 7 abcL).2.1 = 0 ∧ (sealV (newZ 10 0) 7 abcL).2.2.P = [⟨7, 0, 2⟩] := by
  have hg := new_good (n := 10) (f := 0) (by decide) (by decide)
  have hlen : (imgL 7 abcL).length = 128 * 2 := by
    have := abc_n
    have := (img_len 7 abcL).1
    omega
  have ht : (takeV (newZ 10 0).R ((2 : Nat) : Int)).1 = ((0 : Nat) : Int) ∧ (takeV (newZ 10 0).R ((2 : Nat) : Int)).2.1 = 0 := by decide
  obtain ⟨w1, _⟩ := wrS_fit (chunks (imgL 7 abcL) 2) hg.fit (a := 0) (by rw [chunks_len]; decide) (chunks_128 hlen)
  unfold sealV
  rw [if_neg (by decide), if_neg (by decide), if_neg (by decide), abc_n]
  dsimp only
  rw [ht.1, if_neg (by rw [ht.2]; decide), if_neg (by rw [w1]; decide)]
  exact ⟨rfl, rfl, rfl⟩
theorem fill3 : Instr.fill (fun i => some (i * 1, 1)) (rep 3 [.int .u8 0]).toArray [(0, .int .u8 97), (1, .int .u8 98), (2, .int .u8 99)] = some #[.int .u8 97, .int .u8 98, .int .u8 99] := by kernel_rfl
theorem fill1s (b : Nat) : Instr.fill (fun i => some (i * 1, 1)) (rep 1 [nl]).toArray [(0, .slice (some ⟨b, 0, none⟩) 3 3)] = some #[.slice (some ⟨b, 0, none⟩) 3 3] := by kernel_rfl
set_option maxRecDepth 100000
attribute [local irreducible] S.pick S.ld S.ldN S.st S.box S.nc S.fad S.ixS S.ixA S.chr S.prt S.ext S.bin S.sh S.sbin S.beq S.neg1 S.com1 S.not1 S.cvt S.str1 S.lenS S.len S.cap S.lenM S.mx S.mn S.mkM S.cond S.gd S.fa S.dr S.rck S.join S.loop S.cvv S.eqv S.slc S.slcS S.b2s S.lk V U CF Gives E cel mpb osl ros dct dit itr lpo dfo
theorem live12 (h : E B H (K (.bool true))) : E B H (CF Tryz.prog 10 [] K) := by
  refine E_mono (W := s10 K) ?_ fun _ => c10
  unfold s10
  refine begin12 (s := 2) (f := 0) fun b A => ?_
  rw [show newZ (8 + (2 : UInt8).toNat % 73) ((0 : UInt8).toNat % 5) = newZ 10 0 from rfl]
  refine E_ext ?_
  refine E_ext ?_
  refine E_notb ?_
  refine E_ff ?_
  refine Dig.E_bslK Dig.u_bytesD Dig.elt_byteD (by omega) fill3 fun b16 => ?_
  refine E_cvslice Dig.u_bytesD u_byteP ?_
  refine E_slsC (enc := cB) (sz := 1) [97, 98, 99] 3 rfl rfl ?_
  refine Dig.E_bslK Pk.u_bytess elt_bytesP (by omega) (fill1s b16) fun b18 => ?_
  refine E_slsC (enc := Pk.cV) (sz := 1) [⟨.slice (some ⟨b16, 0, none⟩) 3 3, [97, 98, 99], rfl⟩] 1 rfl rfl ?_
  refine packers (l2 := .slice (some ⟨b18, 0, none⟩) 1 1) (l := [⟨.slice (some ⟨b16, 0, none⟩) 3 3, [97, 98, 99], rfl⟩]) (fun x hx => ?_) (by unfold badP; omega) fun a c id wd e1 e2 hp => ?_
  · simp only [List.mem_cons, List.not_mem_nil, or_false] at hx
    subst hx
    refine ⟨fun Q => ⟨fun {w} hw => ?_⟩, by simp⟩
    have : Rb B (sls Pk.cV 48 1 (.slice (some ⟨b18, 0, none⟩) 1 1) [⟨.slice (some ⟨b16, 0, none⟩) 3 3, [97, 98, 99], rfl⟩] :: sls cB 5 1 (.slice (some ⟨b16, 0, none⟩) 3 3) [97, 98, 99] :: par b A (newZ 10 0) :: H) (.slice (some ⟨b16, 0, none⟩) 3 3) [97, 98, 99] := inferInstance
    have key : ∀ (Q : List Asrt) {w : World}, sat B (Q ++ (sls Pk.cV 48 1 (.slice (some ⟨b18, 0, none⟩) 1 1) [⟨.slice (some ⟨b16, 0, none⟩) 3 3, [97, 98, 99], rfl⟩] :: sls cB 5 1 (.slice (some ⟨b16, 0, none⟩) 3 3) [97, 98, 99] :: par b A (newZ 10 0) :: H)) w → sat B (sls Pk.cV 48 1 (.slice (some ⟨b18, 0, none⟩) 1 1) [⟨.slice (some ⟨b16, 0, none⟩) 3 3, [97, 98, 99], rfl⟩] :: sls cB 5 1 (.slice (some ⟨b16, 0, none⟩) 3 3) [97, 98, 99] :: par b A (newZ 10 0) :: H) w := fun Q => by
      induction Q with
      | nil => exact fun h => h
      | cons q Q ih => exact fun h => ih h.tail
    exact this.pf (key Q hw)
  have hid : id = 7 := by omega
  have hwd : wd = 4 := by omega
  subst hid hwd
  simp only [List.map_cons, List.map_nil, abc_pack]
  refine E_ext ?_
  refine E_ext ?_
  refine fd (a := par b A (newZ 10 0)) ?_
  refine E_par ?_
  refine E_nc ?_
  refine E_fad0 ?_
  refine E_ld ?_
  have hg := new_good (n := 10) (f := 0) (by decide) (by decide)
  obtain ⟨s1, s2, s3⟩ := live_seal
  obtain ⟨g1, _, g3, _⟩ := good_seal hg abc_ok
  obtain ⟨gk, _⟩ := g3 s2
  have hch := keep_chunk g1.fit abc_ok gk (i := 0) (c := [97, 98, 99]) rfl
  refine fd (a := shf A.a A.d A.m (newZ 10 0)) ?_
  refine fd (a := pck a 7 4 abcL) ?_
  refine bseal hg.inv abc_ok ?_
  rw [s1, s2]
  generalize (sealV (newZ 10 0) 7 abcL).2.2 = Z at g1 hch s3 ⊢
  refine E_ext ?_
  refine E_ext ?_
  refine E_box (v := plV 0 0 0) (vs := [I 0, I 0, I 0]) fun v5 => ?_
  refine E_stW (v := plV 7 0 2) (vs := [I 7, I 0, I 2]) rfl rfl ?_
  refine E_nc ?_
  refine E_fad0 ?_
  refine E_ld ?_
  refine fd (a := shf A.a A.d A.m Z) ?_
  refine chunk (b := 7) (i := 0) g1.inv fun v _ => ?_
  rw [show chunkV Z 7 0 = (0, [97, 98, 99]) from hch]
  refine E_ext ?_
  refine E_ext ?_
  refine E_eql ?_
  refine E_gtf ?_
  refine E_ldNA ?_
  refine E_gtf ?_
  refine Dig.E_Vr (buildRn _ _) ?_
  refine E_gtf ?_
  refine Dig.E_Vr (buildPl _ _ _) ?_
  refine E_gtf ?_
  refine E_placeEq ?_
  refine E_ptt ?_
  refine E_gtf ?_
  refine E_gtf ?_
  refine E_eql ?_
  refine E_ptt ?_
  refine E_gtf ?_
  refine E_gtf ?_
  refine E_b2sR (v := v) (bs := [97, 98, 99]) ?_
  refine E_gtf ?_
  refine E_streqS ?_
  refine E_ptt ?_
  refine E_gtf ?_
  refine E_gtf ?_
  refine E_nc ?_
  refine E_gtf ?_
  refine E_fad0 ?_
  refine E_gtf ?_
  refine E_ld ?_
  refine E_gtf ?_
  refine fd (a := shf A.a A.d A.m Z) ?_
  refine used g1.inv ?_
  rw [s3]
  refine E_gtf ?_
  refine E_eql ?_
  refine E_ptt ?_
  refine E_gtf ?_
  refine E_gtf ?_
  refine E_nc ?_
  refine E_gtf ?_
  refine E_fad0 ?_
  refine E_gtf ?_
  refine E_ld ?_
  refine E_gtf ?_
  refine fresh ?_
  rw [s3]
  refine E_gtf ?_
  refine E_eql ?_
  refine E_ptt ?_
  rw [show decide (freshN [⟨7, 0, 2⟩] = 0) = true by decide]
  exact sm h
end Go.Proofs.YtmbfmkiagdhcoaaGreat.Bn
end
section
namespace Go.Proofs.YtmbfmkiagdhcoaaGreat.Bn
open Go Go.SL Go.Proofs Go.Proofs.YtmbfmkiagdhcoaaGreat.Sh Go.Proofs.YtmbfmkiagdhcoaaGreat.Oct Go.Proofs.YtmbfmkiagdhcoaaGreat.Disk Go.Proofs.YtmbfmkiagdhcoaaGreat.Slot Go.Proofs.YtmbfmkiagdhcoaaGreat.Pk Go.Proofs.YtmbfmkiagdhcoaaGreat.Ext
variable {B : World} {H : List Asrt} {K : Value → WT} {W : WT}
abbrev np : Value := .pointer none
attribute [local irreducible] S.pick S.ld S.ldN S.st S.box S.nc S.fad S.ixS S.ixA S.chr S.prt S.ext S.bin S.sh S.sbin S.beq S.neg1 S.com1 S.not1 S.cvt S.str1 S.lenS S.len S.cap S.lenM S.mx S.mn S.mkM S.cond S.gd S.fa S.dr S.rck S.join S.loop S.cvv S.eqv S.slc S.slcS S.b2s S.lk V U CF Gives E cel mpb osl ros dct dit itr lpo dfo
end Go.Proofs.YtmbfmkiagdhcoaaGreat.Bn
end
section
namespace Go.Proofs.YtmbfmkiagdhcoaaGreat.Bn
open Go Go.SL Go.Proofs Go.Proofs.YtmbfmkiagdhcoaaGreat.Sh Go.Proofs.YtmbfmkiagdhcoaaGreat.Oct Go.Proofs.YtmbfmkiagdhcoaaGreat.Disk Go.Proofs.YtmbfmkiagdhcoaaGreat.Slot Go.Proofs.YtmbfmkiagdhcoaaGreat.Pk Go.Proofs.YtmbfmkiagdhcoaaGreat.Ext
variable {B : World} {H : List Asrt} {K : Value → WT} {W : WT}
def keepStep (Z : Shf) (d : Dd) : Shf := if d.dk = 0 then sealD Z d else if d.dk = 1 then (claimS Z d.pb d.pa d.pn).2 else if d.dk = 2 ∧ d.n ≠ 9 then (freeS Z d.n).2 else Z
theorem keep_step {Z : Shf} (h : Good Z) {img : List UInt8} (hk : Keep Z 9 img) (d : Dd) : Good (keepStep Z d) ∧ Keep (keepStep Z d) 9 img := by
  unfold keepStep
  split
  · unfold sealD
    split
    · exact ⟨h, hk⟩
    · rename_i hb
      obtain ⟨g1, g2, _⟩ := good_seal h (pack_ok (pok0 hb) (d.cs.map (·.bs)))
      exact ⟨g1, g2 _ _ hk⟩
  split
  · obtain ⟨g1, g2⟩ := good_claim h d.pb d.pa d.pn
    exact ⟨g1, g2 _ _ hk⟩
  split
  · rename_i hn
    obtain ⟨g1, g2⟩ := good_free h d.n
    exact ⟨g1, g2 _ _ (Ne.symm hn.2) hk⟩
  · exact ⟨h, hk⟩
set_option maxRecDepth 100000
attribute [local irreducible] S.pick S.ld S.ldN S.st S.box S.nc S.fad S.ixS S.ixA S.chr S.prt S.ext S.bin S.sh S.sbin S.beq S.neg1 S.com1 S.not1 S.cvt S.str1 S.lenS S.len S.cap S.lenM S.mx S.mn S.mkM S.cond S.gd S.fa S.dr S.rck S.join S.loop S.cvv S.eqv S.slc S.slcS S.b2s S.lk V U CF Gives E cel mpb osl ros dct dit itr lpo dfo
theorem E_orSpace {c w : Nat} {L : Ch} {e : Int} {id : Nat} (hL : L = [] ∨ e = 8) (h : ∀ {H}, E B H (K (.bool true))) :
    E B (rpk c id w L :: H) (S.gd (.bool true) true (fun k => k (ptr c)) fun v49 =>
 S.gd (.bool true) true (S.nc v49) fun v50 =>
 S.gd (.bool true) true (S.fad v50 2) fun v51 =>
 S.gd (.bool true) true (S.ld v51) fun v52 =>
 S.gd (.bool true) true (S.len v52) fun v53 =>
 S.gd (.bool true) true (S.bin .eql v53 (I 0)) fun v54 =>
 S.gd (.bool true) true (fun k => k v54) fun v55 =>
 S.gd v55 false (fun k => k (I e)) fun v56 =>
 S.gd v55 false (S.bin .eql v56 (I 8)) fun v57 =>
 S.gd (.bool true) true (S.pick v55 (.bool true) v57) fun v58 =>
 S.pick (.bool true) v58 (.bool false) fun v59 =>
 K v59) := by
  refine E_rpk fun v _ => ?_
  refine E_gtf ?_
  refine E_gtf ?_
  refine E_nc ?_
  refine E_gtf ?_
  refine E_fad0 ?_
  refine E_gtf ?_
  refine E_ld ?_
  refine E_gtf ?_
  refine E_rslen (v := v) (l := L) ?_
  refine E_gtf ?_
  refine E_eql ?_
  refine E_gtf ?_
  by_cases h0 : (L.length : Int) = 0
  · rw [decide_eq_true h0]
    refine E_gtt ?_
    refine E_gtt ?_
    refine E_gtf ?_
    refine E_ptt ?_
    refine E_ptt ?_
    exact h
  · rw [decide_eq_false h0]
    have he : e = 8 := hL.resolve_left fun hh => h0 (by rw [hh]; rfl)
    subst he
    refine E_gft ?_
    refine E_gft ?_
    refine E_eql ?_
    refine E_gtf ?_
    refine E_pff ?_
    refine E_ptt ?_
    exact h
theorem keepsEnd {pb : Nat} {A : Ad} {Z Z0 : Shf} {c : Nat} {L : Ch} (hg : Good Z) (hok : POk 9 64 L) (hk : Keep Z 9 (imgL 9 L)) (h : ∀ {H}, E B H (K (.bool true))) :
    E B (cel true pb 42 [ptr A.d, ptr A.x, ptr A.a, ptr A.y] :: shf A.a A.d A.m Z :: rpk c 9 64 L :: rsh A.y A.x A.my Z0 :: H)
    (S.loop 3 (fun K5 => fun v9'5 v12'5 v20 => S.fa fun _ =>
 S.nc v12'5 fun v173 =>
 S.fad v173 2 fun v174 =>
 S.ld v174 fun v175 =>
 S.len v175 fun v176 =>
 S.bin .lss v20 v176 fun v177 =>
 S.cond v177 (
 S.nc v9'5 fun v182 =>
 S.fad v182 2 fun v183 =>
 S.ld v183 fun v184 =>
 CF Tryz.prog 14 [v184, (I 9), v20] fun v186 =>
 S.ext v186 0 fun v187 =>
 S.ext v186 1 fun v188 =>
 S.join 4 (fun K6 =>
 S.dr <|
 S.bin .neq v188 (I 0) fun v190 =>
 S.gd v190 false (fun k => k v187) fun v192 =>
 S.gd v190 false (S.b2s v192) fun v193 =>
 S.gd v190 false (fun k => k v12'5) fun v194 =>
 S.gd v190 false (S.nc v194) fun v195 =>
 S.gd v190 false (S.fad v195 2) fun v196 =>
 S.gd v190 false (S.ld v196) fun v197 =>
 S.gd v190 false (fun k => k v20) fun v198 =>
 S.gd v190 false (S.ixS 1 v197 v198) fun v199 =>
 S.gd v190 false (S.ld v199) fun v200 =>
 S.gd v190 false (S.sbin .neq v193 v200) fun v201 =>
 S.pick v190 (.bool true) v201 fun v202 =>
 K6 v9'5 v12'5 v20 v202)
 <| fun v9'6 v12'6 v20' v202' => S.fa fun _ =>
 S.cond v202' (
 K (.bool false)) (
 S.bin .add v20' (I 1) fun v179 =>
 K5 v9'6 v12'6 v179)) (
 CF Tryz.prog 10 [] fun v203 =>
 K v203))
 [ptr pb, ptr c, (I 0)]) := by
  have hLn := hok.num
  refine E_loop (n := 3) (σ := Nat) (fun i => i ≤ L.length) (fun i => [ptr pb, ptr c, I i]) (fun _ => cel true pb 42 [ptr A.d, ptr A.x, ptr A.a, ptr A.y] :: shf A.a A.d A.m Z :: rpk c 9 64 L :: rsh A.y A.x A.my Z0 :: H) (fun i => L.length - i) 0 (fun _ => rfl) rfl (Nat.zero_le _) (fun W hW => hW) ?_
  intro i K5 hi hk5
  refine E_fa fun _ => ?_
  refine fd (a := rpk c 9 64 L) ?_
  refine E_rpk fun v _ => ?_
  refine E_nc ?_
  refine E_fad0 ?_
  refine E_ld ?_
  refine E_rslen (v := v) (l := L) ?_
  refine E_rpkS ?_
  refine E_lss ?_
  refine E_if (fun hc => ?_) (fun hc => ?_)
  · have hx : L[i]? = some (L[i]'(by omega)) := List.getElem?_eq_getElem (by omega)
    generalize (L[i]'(by omega)) = b at hx
    refine E_nc ?_
    refine E_fad0 ?_
    refine E_ld ?_
    refine fd (a := shf A.a A.d A.m Z) ?_
    refine chunk (b := 9) (i := (i : Int)) hg.inv fun u _ => ?_
    rw [show chunkV Z 9 (i : Int) = (0, b) from keep_chunk hg.fit hok hk hx]
    refine E_ext ?_
    refine E_ext ?_
    refine E_join1 (n := 4) [ptr pb, ptr c, I i, .bool false] (cel true pb 42 [ptr A.d, ptr A.x, ptr A.a, ptr A.y] :: shf A.a A.d A.m Z :: rpk c 9 64 L :: rsh A.y A.x A.my Z0 :: H) (fun q hq => ?_) ?_
    · refine E_dr ?_
      refine E_neq ?_
      rw [decide_eq_false (by simp)]
      refine E_gft ?_
      refine E_gft ?_
      refine E_b2sR (v := u) (bs := b) ?_
      refine E_gft ?_
      refine E_gft ?_
      refine E_nc ?_
      refine E_gft ?_
      refine E_fad0 ?_
      refine E_gft ?_
      refine fd (a := rpk c 9 64 L) ?_
      refine E_rpk fun v _ => ?_
      refine E_ld ?_
      refine E_gft ?_
      refine E_gft ?_
      refine E_rsix (v := v) (l := L) hx fun _ _ => ?_
      refine E_gft ?_
      refine E_ptld ?_
      refine E_gft ?_
      refine E_strneS ?_
      refine E_pff ?_
      refine E_rpkS ?_
      exact sm hq
    · refine E_fa fun _ => ?_
      refine E_ff ?_
      refine E_addI (by omega) (by omega) ?_
      exact hk5 (i + 1) (by omega) (by omega)
  · refine live12 ?_
    exact h
theorem binKeeps {s f : UInt8} {l2 l3 : Value} {cs : List Bv} {l : List Dd} [hv : BaseS B l2 Pk.cV cs] (hb : ∀ b ∈ cs, BaseR B b.v b.bs ∧ b.bs.length ≤ 140737488351232) [hv3 : BaseS B l3 cDd l] (hd : ∀ d ∈ l, DdP B d)
    (h : ∀ {H}, E B H (K (.bool true))) : E B H (CF Tryz.prog 3 [.int .u8 s.toNat, .int .u8 f.toNat, l2, l3] K) := by
  refine E_mono (W := s3 _ _ _ _ K) ?_ fun _ => c3
  unfold s3
  refine begin12 fun pb A => ?_
  have hg0 := new_good (n := 8 + s.toNat % 73) (f := f.toNat % 5) (by omega) (by omega)
  have hP0 : (newZ (8 + s.toNat % 73) (f.toNat % 5)).P = [] := rfl
  generalize newZ (8 + s.toNat % 73) (f.toNat % 5) = Z0 at hg0 hP0 ⊢
  refine E_ext ?_
  refine E_ext ?_
  refine E_notb ?_
  refine E_ff ?_
  refine packers (l2 := l2) (l := cs) (fun b hm => ⟨fun Q => have := (hb b hm).1; inferInstance, (hb b hm).2⟩) (by unfold badP; omega) fun a c id wd e1 e2 hp => ?_
  have hid : id = 9 := by omega
  have hwd : wd = 64 := by omega
  subst hid hwd
  have hok := pack_ok hp (cs.map (·.bs))
  generalize packL 64 (cs.map (·.bs)) = L at hok ⊢
  refine E_ext ?_
  refine E_ext ?_
  refine fd (a := par pb A Z0) ?_
  refine E_par ?_
  refine E_nc ?_
  refine E_fad0 ?_
  refine E_ld ?_
  refine fd (a := shf A.a A.d A.m Z0) ?_
  refine fd (a := pck a 9 64 L) ?_
  refine bseal hg0.inv hok ?_
  obtain ⟨g1, _, g3, g4⟩ := good_seal hg0 hok
  refine E_ext ?_
  refine E_ext ?_
  generalize sealV Z0 9 L = w at g1 g3 g4 ⊢
  refine E_box (v := plV 0 0 0) (vs := [I 0, I 0, I 0]) fun v13 => ?_
  refine E_stW (v := triV w.1) (vs := [I w.1.1, I w.1.2.1, I w.1.2.2]) rfl rfl ?_
  refine E_neq ?_
  refine E_if (fun hc => ?_) (fun hc => ?_)
  · refine live12 ?_
    have hL : L = [] ∨ w.2.1 = 8 := by
      rcases g4 hc with h1 | h1 | h1
      · exact .inl h1
      · exact .inr h1
      · rw [hP0] at h1; cases h1
    refine fd (a := rpk c 9 64 L) ?_
    exact E_orSpace hL h
  obtain ⟨gk, _⟩ := g3 (by simpa using hc)
  refine sm (G := cel true pb 42 [ptr A.d, ptr A.x, ptr A.a, ptr A.y] :: shf A.a A.d A.m w.2.2 :: rpk c 9 64 L :: rsh A.y A.x A.my Z0 :: H) ?_
  have key : ∀ (l : List Dd) (Z : Shf), Good Z → Keep Z 9 (imgL 9 L) → Good (l.foldl keepStep Z) ∧ Keep (l.foldl keepStep Z) 9 (imgL 9 L) := fun l => by
    induction l with
    | nil => exact fun Z h1 h2 => ⟨h1, h2⟩
    | cons d l ih => exact fun Z h1 h2 => ih _ (keep_step h1 h2 d).1 (keep_step h1 h2 d).2
  generalize w.2.2 = Z1 at g1 gk ⊢
  refine E_loop (n := 4) (σ := Nat) (fun i => i ≤ min 60 l.length) (fun i => [l3, ptr pb, ptr c, I i]) (fun i => cel true pb 42 [ptr A.d, ptr A.x, ptr A.a, ptr A.y] :: shf A.a A.d A.m ((l.take i).foldl keepStep Z1) :: rpk c 9 64 L :: rsh A.y A.x A.my Z0 :: H) (fun i => min 60 l.length - i) 0 (fun _ => rfl) rfl (Nat.zero_le _) (fun W hW => hW) ?_
  intro i K0 hi hk
  obtain ⟨hgi, hki⟩ := key (l.take i) Z1 g1 gk
  refine E_fa fun _ => ?_
  refine E_join1 (n := 5) [l3, ptr pb, ptr c, I i, .bool (decide (i < min 60 l.length))] (cel true pb 42 [ptr A.d, ptr A.x, ptr A.a, ptr A.y] :: shf A.a A.d A.m ((l.take i).foldl keepStep Z1) :: rpk c 9 64 L :: rsh A.y A.x A.my Z0 :: H) (fun q hq => ?_) ?_
  · refine E_rslen (v := l3) (l := l) ?_
    refine E_lss ?_
    by_cases h1 : i < l.length
    · have e : decide (i < min 60 l.length) = decide ((i : Int) < 60) := by rw [decide_eq_decide]; omega
      rw [e] at hq
      rw [decide_eq_true (show (i : Int) < (l.length : Int) by omega)]
      refine E_gtf ?_
      refine E_gtf ?_
      refine E_lss ?_
      refine E_ptt ?_
      exact hq
    · rw [decide_eq_false (by omega)] at hq
      rw [decide_eq_false (show ¬ (i : Int) < (l.length : Int) by omega)]
      refine E_gff ?_
      refine E_gff ?_
      refine E_pff ?_
      exact hq
  refine E_fa fun _ => ?_
  refine E_if (fun hc1 => ?_) (fun hc1 => ?_)
  · have hx : l[i]? = some (l[i]'(by omega)) := List.getElem?_eq_getElem (by omega)
    have hdd := hd _ (List.getElem_mem (show i < l.length by omega))
    generalize (l[i]'(by omega)) = d at hx hdd
    have hk1 := hk (i + 1) (by omega) (by omega)
    have es : (l.take (i + 1)).foldl keepStep Z1 = keepStep ((l.take i).foldl keepStep Z1) d := by rw [List.take_add_one, hx, List.foldl_append]; rfl
    rw [es] at hk1
    generalize (l.take i).foldl keepStep Z1 = Z at hgi hki hk1 ⊢
    refine E_join1 (n := 4) [l3, ptr pb, ptr c, I i] (cel true pb 42 [ptr A.d, ptr A.x, ptr A.a, ptr A.y] :: shf A.a A.d A.m (keepStep Z d) :: rpk c 9 64 L :: rsh A.y A.x A.my Z0 :: H) (fun k2 hk2 => ?_) ?_
    · unfold keepStep at hk2
      refine E_rsix (v := l3) (l := l) hx fun _ _ => ?_
      refine E_ptfad0 fun _ _ => ?_
      refine E_ptld ?_
      refine E_eql ?_
      refine E_if (fun h0 => ?_) (fun h0 => ?_)
      · rw [if_pos h0] at hk2
        unfold sealD packD at hk2
        have jc : BaseS B d.cv.1 Pk.cV d.cs := ⟨hdd.rc⟩
        refine E_dr ?_
        refine E_rsix (v := l3) (l := l) hx fun _ _ => ?_
        refine E_ptfad0 fun _ _ => ?_
        refine E_ptfad fun _ _ => ?_
        refine E_ptld ?_
        refine E_rsix (v := l3) (l := l) hx fun _ _ => ?_
        refine E_ptfad0 fun _ _ => ?_
        refine E_ptld ?_
        refine E_rsix (v := l3) (l := l) hx fun _ _ => ?_
        refine E_ptfad0 fun _ _ => ?_
        refine E_ptld ?_
        by_cases hbd : badP d.pb d.wd
        · rw [if_pos hbd] at hk2
          refine packersZ hbd ?_
          refine E_ext ?_
          refine E_ext ?_
          refine E_nc ?_
          refine E_fad0 ?_
          refine E_ld ?_
          refine seal1 ?_
          exact hk2
        · rw [if_neg hbd] at hk2
          refine packers (l2 := d.cv.1) (l := d.cs) (fun b hb => ⟨fun Q => have : BaseR B b.v b.bs := ⟨(hdd.rb b hb).1⟩; inferInstance, (hdd.rb b hb).2⟩) hbd fun a' c' id' wd' e1 e2 hp' => ?_
          rw [e1, e2, Int.toNat_natCast, Int.toNat_natCast] at hk2
          have hpk := pack_ok hp' (d.cs.map (·.bs))
          generalize packL wd' (d.cs.map (·.bs)) = L' at hk2 hpk ⊢
          refine E_ext ?_
          refine E_ext ?_
          refine E_nc ?_
          refine E_fad0 ?_
          refine E_ld ?_
          refine fd (a := shf A.a A.d A.m Z) ?_
          refine fd (a := pck a' id' wd' L') ?_
          refine bseal hgi.inv hpk ?_
          exact sm hk2
      rw [if_neg h0] at hk2
      refine E_rsix (v := l3) (l := l) hx fun _ _ => ?_
      refine E_ptfad0 fun _ _ => ?_
      refine E_ptld ?_
      refine E_eql ?_
      refine E_if (fun h1 => ?_) (fun h1 => ?_)
      · rw [if_pos h1] at hk2
        refine E_dr ?_
        refine E_nc ?_
        refine E_fad0 ?_
        refine E_ld ?_
        refine E_rsix (v := l3) (l := l) hx fun _ _ => ?_
        refine E_ptfad0 fun q _ => ?_
        refine E_ptldN (p := q) (o := 3) (cs := cDd d) (ds := [I d.pb, I d.pa, I d.pn]) rfl rfl ?_
        refine fd (a := shf A.a A.d A.m Z) ?_
        refine claim hgi.inv ?_
        exact sm hk2
      rw [if_neg h1] at hk2
      refine E_join1 (n := 5) [l3, ptr pb, ptr c, I i, .bool (decide (d.dk = 2 ∧ d.n ≠ 9))] (cel true pb 42 [ptr A.d, ptr A.x, ptr A.a, ptr A.y] :: shf A.a A.d A.m Z :: rpk c 9 64 L :: rsh A.y A.x A.my Z0 :: H) (fun q hq => ?_) ?_
      · refine E_rsix (v := l3) (l := l) hx fun _ _ => ?_
        refine E_ptfad0 fun _ _ => ?_
        refine E_ptld ?_
        refine E_eql ?_
        by_cases h2 : d.dk = 2
        · have e : decide (d.dk = 2 ∧ d.n ≠ 9) = decide (d.n ≠ 9) := by rw [decide_eq_decide]; exact ⟨fun x => x.2, fun x => ⟨h2, x⟩⟩
          rw [e] at hq
          rw [decide_eq_true h2]
          refine E_gtf ?_
          refine E_gtf ?_
          refine E_gtf ?_
          refine E_rsix (v := l3) (l := l) hx fun _ _ => ?_
          refine E_gtf ?_
          refine E_ptfad0 fun _ _ => ?_
          refine E_gtf ?_
          refine E_ptld ?_
          refine E_gtf ?_
          refine E_neq ?_
          refine E_ptt ?_
          exact hq
        · have e : decide (d.dk = 2 ∧ d.n ≠ 9) = false := by rw [decide_eq_false_iff_not]; exact fun x => h2 x.1
          rw [e] at hq
          rw [decide_eq_false h2]
          refine E_gff ?_
          refine E_gff ?_
          refine E_gff ?_
          refine E_gff ?_
          refine E_gff ?_
          refine E_gff ?_
          refine E_pff ?_
          exact hq
      refine E_fa fun _ => ?_
      refine E_if (fun h2 => ?_) (fun h2 => ?_)
      · rw [if_pos h2] at hk2
        refine E_dr ?_
        refine E_nc ?_
        refine E_fad0 ?_
        refine E_ld ?_
        refine E_rsix (v := l3) (l := l) hx fun _ _ => ?_
        refine E_ptfad0 fun _ _ => ?_
        refine E_ptld ?_
        refine fd (a := shf A.a A.d A.m Z) ?_
        refine free hgi.inv ?_
        exact sm hk2
      · rw [if_neg h2] at hk2
        exact hk2
    · refine E_fa fun _ => ?_
      refine E_addI (by omega) (by omega) ?_
      exact hk1
  · clear hk
    generalize (l.take i).foldl keepStep Z1 = Z at hgi hki ⊢
    have hwh := keep_whole hgi.fit hok hki
    refine E_nc ?_
    refine E_fad0 ?_
    refine E_ld ?_
    refine fd (a := shf A.a A.d A.m Z) ?_
    refine head (b := 9) hgi.inv fun u _ => ?_
    rw [show wholeV Z 9 = (0, imgL 9 L, 9, (imgL 9 L).length / 128, slotsL 128 L) from hwh]
    refine E_ext ?_
    refine E_ext ?_
    refine E_box (v := binV (0, 0, []) nl) (vs := [I 0, I 0, nl]) fun v18 => ?_
    refine E_stW (v := binV (9, (imgL 9 L).length / 128, slotsL 128 L) u) (vs := [I (9 : Nat), I ((imgL 9 L).length / 128 : Nat), u]) rfl rfl ?_
    refine E_join1 (n := 3) [ptr pb, ptr c, .bool false] (cel true pb 42 [ptr A.d, ptr A.x, ptr A.a, ptr A.y] :: shf A.a A.d A.m Z :: rpk c 9 64 L :: rsh A.y A.x A.my Z0 :: H) (fun q hq => ?_) ?_
    · refine E_dr ?_
      refine E_neq ?_
      rw [decide_eq_false (by simp)]
      refine E_gft ?_
      refine E_fad0 ?_
      refine E_gft ?_
      refine E_ld ?_
      refine E_gft ?_
      refine E_neq ?_
      rw [decide_eq_false (by simp)]
      refine E_pff ?_
      refine E_gft ?_
      refine E_fad0 ?_
      refine E_gft ?_
      refine E_ld ?_
      refine E_gft ?_
      refine E_rslen (v := u) (l := slotsL 128 L) ?_
      refine E_gft ?_
      refine E_gft ?_
      refine E_nc ?_
      refine E_gft ?_
      refine E_fad0 ?_
      refine E_gft ?_
      refine fd (a := rpk c 9 64 L) ?_
      refine E_rpk fun v _ => ?_
      refine E_ld ?_
      refine E_gft ?_
      refine E_rslen (v := v) (l := L) ?_
      rw [slots_len]
      refine E_gft ?_
      refine E_neq ?_
      rw [decide_eq_false (by simp)]
      refine E_pff ?_
      refine E_rpkS ?_
      exact sm hq
    · refine E_fa fun _ => ?_
      refine E_ff ?_
      exact keepsEnd hgi hok hki h
end Go.Proofs.YtmbfmkiagdhcoaaGreat.Bn
end
