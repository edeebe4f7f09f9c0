/-
  Part 9: BpH, RDisk, BpI, BpL, BpM, BpN, BpQ.
-/
import Derived.Test.YtmbfmkiagdhcoaaGreatPkBinNonef
import Derived.Test.YtmbfmkiagdhcoaaGreatPkBinNoneh
set_option linter.unusedSimpArgs false
set_option linter.unusedVariables false
set_option linter.unusedSectionVars false
section
namespace Go.Proofs.YtmbfmkiagdhcoaaGreat.Bn
open Go Go.SL Go.Proofs Go.Proofs.YtmbfmkiagdhcoaaGreat.Sh Go.Proofs.YtmbfmkiagdhcoaaGreat.Oct Go.Proofs.YtmbfmkiagdhcoaaGreat.Disk Go.Proofs.YtmbfmkiagdhcoaaGreat.Slot Go.Proofs.YtmbfmkiagdhcoaaGreat.Pk Go.Proofs.YtmbfmkiagdhcoaaGreat.Ext
variable {B : World} {H : List Asrt} {K : Value → WT} {W : WT}
theorem buildRn (x n : Int) (w : World) : (Instr.build 32 #[(0, I x), (1, I n)]).run Tryz.prog w = .ok (.agg #[I x, I n]) w := by kernel_rfl
abbrev triV (x : Tri) : Value := plV x.1 x.2.1 x.2.2
attribute [local irreducible] S.pick S.ld S.ldN S.st S.box S.nc S.fad S.ixS S.ixA S.chr S.prt S.ext S.bin S.sh S.sbin S.beq S.neg1 S.com1 S.not1 S.cvt S.str1 S.lenS S.len S.cap S.lenM S.mx S.mn S.mkM S.cond S.gd S.fa S.dr S.rck S.join S.loop S.cvv S.eqv S.slc S.slcS S.b2s S.lk V U CF Gives E cel mpb osl ros dct dit itr lpo dfo
theorem E_noPl {v4 : Nat} {e : Int} {l : List Value} (hl : l.length = 3) (h : E B H (K (.tuple #[triV (0, 0, 0), I e]))) :
    E B (cel true v4 34 l :: H) (V Tryz.prog (Instr.build 34 #[]) fun v20 => S.st 3 (ptr v4) v20 fun _ => S.ldN 3 (ptr v4) fun v4' => K (.tuple #[v4', I e])) := by
  refine Dig.E_Vr buildPl0 ?_
  refine E_stW (vs := [I 0, I 0, I 0]) rfl hl ?_
  refine E_ldNA ?_
  exact E_drop h
theorem seal1 {a : Nat} (h : E B H (K (.tuple #[triV (0, 0, 0), I 1]))) : E B H (CF Tryz.prog 9 [ptr a, .pointer none] K) := by
  refine E_mono (W := s9 _ _ K) ?_ fun _ => c9
  unfold s9
  refine E_box (v := plV 0 0 0) (vs := [I 0, I 0, I 0]) fun v4 => ?_
  refine E_join1 (n := 4) [ptr a, .pointer none, ptr v4, .bool true] (cel true v4 34 [I 0, I 0, I 0] :: H) (fun q hq => ?_) ?_
  · refine E_peq u_pSh ?_
    refine E_gft ?_
    refine E_gft ?_
    refine E_peq0 u_pPk ?_
    refine E_pff ?_
    exact hq
  refine E_fa fun _ => ?_
  refine E_tt ?_
  exact E_noPl rfl h
theorem seal0 {v : Value} (h : E B H (K (.tuple #[triV (0, 0, 0), I 1]))) : E B H (CF Tryz.prog 9 [.pointer none, v] K) := by
  refine E_mono (W := s9 _ _ K) ?_ fun _ => c9
  unfold s9
  refine E_box (v := plV 0 0 0) (vs := [I 0, I 0, I 0]) fun v4 => ?_
  refine E_join1 (n := 4) [.pointer none, v, ptr v4, .bool true] (cel true v4 34 [I 0, I 0, I 0] :: H) (fun q hq => ?_) ?_
  · refine E_peq0 u_pSh ?_
    refine E_gtt ?_
    refine E_gtt ?_
    refine E_ptt ?_
    exact hq
  refine E_fa fun _ => ?_
  refine E_tt ?_
  exact E_noPl rfl h
theorem img_le {id wd : Nat} {L : Ch} (hp : POk id wd L) : (imgL id L).length ≤ 10000 := by
  obtain ⟨h1, h2, h3⟩ := img_len id L
  have := hp.fit
  have := hp.hi
  omega
theorem bseal {a d m pa id wd : Nat} {L : Ch} {Z : Shf} (hi : Inv Z) (hp : POk id wd L) (h : E B (pck pa id wd L :: shf a d m (sealV Z id L).2.2 :: H) (K (.tuple #[triV (sealV Z id L).1, I (sealV Z id L).2.1]))) :
    E B (pck pa id wd L :: shf a d m Z :: H) (CF Tryz.prog 9 [ptr a, ptr pa] K) := by
  refine E_mono (W := s9 _ _ K) ?_ fun _ => c9
  unfold s9
  unfold sealV at h
  refine E_box (v := plV 0 0 0) (vs := [I 0, I 0, I 0]) fun v4 => ?_
  refine E_join1 (n := 4) [ptr a, ptr pa, ptr v4, .bool false] (cel true v4 34 [I 0, I 0, I 0] :: pck pa id wd L :: shf a d m Z :: H) (fun q hq => ?_) ?_
  · refine E_peq u_pSh ?_
    refine E_gft ?_
    refine E_gft ?_
    refine E_peq u_pPk ?_
    refine E_pff ?_
    exact hq
  refine E_fa fun _ => ?_
  refine E_ff ?_
  refine fd (a := shf a d m Z) ?_
  refine E_shf fun r kv hk => ?_
  refine E_nc ?_
  refine E_fad0 ?_
  refine E_fad0 ?_
  refine E_ld ?_
  refine fd (a := disk d Z.D) ?_
  refine down ?_
  refine E_ifb (fun hd => ?_) (fun hd => ?_)
  · rw [if_pos hd] at h
    refine sm (G := cel true v4 34 [I 0, I 0, I 0] :: cel true a 97 [ptr d, ptr m, .map (some r)] :: disk d Z.D :: xmap m Z.f (Z.f + Z.T.length) Z.R :: dct kI true r kv :: pck pa id wd L :: H) ?_
    refine E_noPl rfl ?_
    refine E_shfS hk rfl rfl rfl rfl ?_
    exact sm h
  rw [if_neg (by rw [hd]; decide)] at h
  refine fd (a := pck pa id wd L) ?_
  refine pklen ?_
  refine E_eql ?_
  refine E_if (fun hL => ?_) (fun hL => ?_)
  · rw [if_pos (List.length_eq_zero_iff.1 (by omega))] at h
    refine sm (G := cel true v4 34 [I 0, I 0, I 0] :: cel true a 97 [ptr d, ptr m, .map (some r)] :: disk d Z.D :: xmap m Z.f (Z.f + Z.T.length) Z.R :: dct kI true r kv :: pck pa id wd L :: H) ?_
    refine E_noPl rfl ?_
    refine E_shfS hk rfl rfl rfl rfl ?_
    exact sm h
  have hL : L ≠ [] := fun e => by subst e; exact hL rfl
  rw [if_neg hL] at h
  have hil := img_le hp
  obtain ⟨n1, n2, n3⟩ := img_n hp hL
  have hle := hi.le
  refine pkbytes hp fun bv _ => ?_
  refine pkparse (v := bv) (b := imgL id L) (by omega) fun u iu => ?_
  unfold parA
  rw [parse_img hp]
  refine E_ext ?_
  refine E_ext ?_
  refine E_box (v := binV (0, 0, []) nl) (vs := [I 0, I 0, nl]) fun v7 => ?_
  dsimp only at h ⊢
  generalize (imgL id L).length / 128 = n at n1 n2 n3 h ⊢
  refine E_stW (v := binV (id, n, []) u) (vs := [I id, I n, u]) rfl rfl ?_
  refine E_fad0 ?_
  refine E_ld ?_
  refine sm (G := cel true a 97 [ptr d, ptr m, .map (some r)] :: disk d Z.D :: xmap m Z.f (Z.f + Z.T.length) Z.R :: dct kI true r kv :: cel true v7 58 [I id, I n, u] :: sls cB 5 1 bv (imgL id L) :: pck pa id wd L :: cel true v4 34 [I 0, I 0, I 0] :: H) ?_
  refine E_shfS hk rfl rfl rfl rfl ?_
  refine shknown ?_
  cases ho : known Z.P id with
  | some p =>
    rw [if_pos (by rw [ho]; rfl)] at h
    refine E_tt ?_
    refine fd (a := cel true v4 34 [I 0, I 0, I 0]) ?_
    refine E_noPl rfl ?_
    exact sm h
  | none =>
    rw [if_neg (by rw [ho]; decide)] at h
    refine E_ff ?_
    refine E_shf fun r kv hk => ?_
    refine E_dr ?_
    refine E_nc ?_
    refine E_fad0 ?_
    refine E_fad0 ?_
    refine E_ld ?_
    refine E_fad0 ?_
    refine E_ld ?_
    refine fd (a := xmap m Z.f (Z.f + Z.T.length) Z.R) ?_
    refine xtake hi.xok ?_
    refine E_ext ?_
    refine E_ext ?_
    refine E_neq ?_
    have hiT := hi.take n
    have hT := (rel_take hi.rel (n : Int)).2
    have hok := take_ok hi (n := n) (by omega)
    refine E_if (fun hc => ?_) (fun hc => ?_)
    · rw [if_pos hc] at h
      refine fd (a := cel true v4 34 [I 0, I 0, I 0]) ?_
      refine E_noPl rfl ?_
      refine sm (G := cel true a 97 [ptr d, ptr m, .map (some r)] :: disk d Z.D :: xmap m Z.f (Z.f + Z.T.length) (takeV Z.R n).2.2 :: dct kI true r kv :: pck pa id wd L :: H) ?_
      refine E_shfS (S := takeN Z n) hk rfl rfl (by simp only [takeN]; rw [hT]) rfl ?_
      exact sm h
    rw [if_neg hc] at h
    obtain ⟨x, x1, x2, x3, x4, x5⟩ := hok (by simpa using hc)
    rw [x1] at h ⊢
    refine E_fad0 ?_
    refine E_ld ?_
    refine Dig.E_Vr (buildRn _ _) ?_
    refine E_box (v := pI 0 0) (vs := [I 0, I 0]) fun v11 => ?_
    refine E_stW (v := pI x n) (vs := [I x, I n]) rfl rfl ?_
    refine E_dr ?_
    refine E_nc ?_
    refine E_fad0 ?_
    refine E_ldNA ?_
    refine sm (G := cel true a 97 [ptr d, ptr m, .map (some r)] :: disk d Z.D :: cel true v11 32 [I x, I n] :: xmap m Z.f (Z.f + Z.T.length) (takeV Z.R n).2.2 :: dct kI true r kv :: cel true v7 58 [I id, I n, u] :: sls cB 5 1 bv (imgL id L) :: pck pa id wd L :: cel true v4 34 [I 0, I 0, I 0] :: H) ?_
    refine gwrite (x := (x : Int)) (n := n) (v := bv) (b := imgL id L) (by omega) (by omega) (by omega) ?_
    generalize wrS Z.D (x : Int) (chunks (imgL id L) n) = w at h ⊢
    refine E_neq ?_
    refine E_if (fun hc1 => ?_) (fun hc1 => ?_)
    · rw [if_pos hc1] at h
      refine E_dr ?_
      refine E_nc ?_
      refine E_fad0 ?_
      refine E_fad0 ?_
      refine E_ld ?_
      refine E_ldNA ?_
      refine fd (a := xmap m Z.f (Z.f + Z.T.length) (takeV Z.R n).2.2) ?_
      have hx' : XOk Z.f (Z.f + Z.T.length) (takeV Z.R n).2.2 := by
        have := hiT.xok
        simp only [takeN] at this
        rw [hT] at this
        exact this
      refine xgive hx' ?_
      refine fd (a := cel true v4 34 [I 0, I 0, I 0]) ?_
      refine E_noPl rfl ?_
      obtain ⟨r1, r2, r3⟩ := rel_giveV hiT.rel (x : Int) (n : Int)
      have e1 : Z.f + (takeT Z.f Z.T Z.R n).length = Z.f + Z.T.length := by rw [hT]
      refine sm (G := cel true a 97 [ptr d, ptr m, .map (some r)] :: disk d w.1 :: xmap m Z.f (Z.f + Z.T.length) (giveV Z.f (Z.f + Z.T.length) (takeV Z.R n).2.2 x n).2 :: dct kI true r kv :: pck pa id wd L :: H) ?_
      refine E_shfS (S := { giveN (takeN Z n) x n with D := w.1 }) hk rfl rfl (by simp only [giveN]; rw [r2]; exact e1.symm) (by simp only [giveN, takeN]; rw [hT]) ?_
      exact sm h
    · rw [if_neg hc1] at h
      refine E_dr ?_
      refine E_nc ?_
      refine E_fad0 ?_
      refine E_ld ?_
      refine E_fad0 ?_
      refine E_ld ?_
      refine E_ldNA ?_
      refine E_dmu (κ := Int) (enc := kI) (k := (id : Int)) Shf.key_mapIR ?_
      refine E_fad0 ?_
      refine E_ld ?_
      refine E_ldNA ?_
      refine Dig.E_Vr (buildPl _ _ _) ?_
      refine E_stW (v := plV id x n) (vs := [I id, I x, I n]) rfl rfl ?_
      refine E_ldNA ?_
      have hput := hk.put (p := ⟨id, x, n⟩) ho
      simp only at hput
      refine sm (G := cel true a 97 [ptr d, ptr m, .map (some r)] :: disk d w.1 :: xmap m Z.f (Z.f + Z.T.length) (takeV Z.R n).2.2 :: dct kI true r (dput kv (id : Int) (pI x n)) :: pck pa id wd L :: H) ?_
      rw [Int.toNat_natCast] at h
      refine E_shfS (S := { takeN Z n with D := w.1, P := putP Z.P ⟨id, x, n⟩ }) hput rfl rfl (by simp only [takeN]; rw [hT]) rfl ?_
      exact sm h
end Go.Proofs.YtmbfmkiagdhcoaaGreat.Bn
end
section
namespace Go.Proofs.YtmbfmkiagdhcoaaGreat.Disk
open Go Go.SL Go.Proofs Go.Proofs.YtmbfmkiagdhcoaaGreat.Sh
abbrev str (bs : List UInt8) : Value := .string ⟨bs.toArray⟩
theorem str_app (a b : List UInt8) : (⟨a.toArray⟩ : ByteArray) ++ ⟨b.toArray⟩ = ⟨(a ++ b).toArray⟩ := by
  apply ByteArray.ext; simp [ByteArray.data_append]
def pcs (s : Sec) : List Value := [str s.sure, str (s.last.getD []), .bool s.last.isSome]
def parts (S : List Sec) : List Value := S.flatMap pcs
theorem parts_append (S S' : List Sec) : parts (S ++ S') = parts S ++ parts S' := by simp [parts]
def rdisk (a : Nat) (D : Dk) : Asrt := ex fun (x : Nat × Nat × List Value) => all [cel true a 130 [.slice (some ⟨x.1, 0, none⟩) D.S.length x.2.1, I D.trip, .bool D.down, I D.life],
  cel false x.1 133 (parts D.S ++ x.2.2), pur (D.Ok ∧ D.S.length ≤ x.2.1)]
variable {B : World} {H : List Asrt} {K : Value → WT} {W : WT}
theorem E_rdisks {a b cap n : Nat} {D : Dk} {sp : List Value} {tr li : Int} {dn : Bool} (ho : D.Ok) (hle : n ≤ cap) (hn : n = D.S.length) (h1 : tr = D.trip) (h2 : dn = D.down) (h3 : li = D.life)
    (h : E B (rdisk a D :: H) W) : E B (cel true a 130 [.slice (some ⟨b, 0, none⟩) n cap, I tr, .bool dn, I li] :: cel false b 133 (parts D.S ++ sp) :: H) W := by
  subst hn h1 h2 h3
  refine E_pur' (p := D.Ok ∧ D.S.length ≤ cap) ⟨ho, hle⟩ ?_
  have h' := E_all' (E_ex' (f := fun (x : Nat × Nat × List Value) => all [cel true a 130 [.slice (some ⟨x.1, 0, none⟩) D.S.length x.2.1, I D.trip, .bool D.down, I D.life],
  cel false x.1 133 (parts D.S ++ x.2.2), pur (D.Ok ∧ D.S.length ≤ x.2.1)]) (b, cap, sp) h)
  exact E_same (by repeat (first | exact Same.refl | (refine Same.cons (by repeat (first | exact Find.here | apply Find.there)) ?_) | (refine Same.drop ?_))) h'
theorem E_cshare {b : Nat} {T : TypeId} {l : List Value} (h : E B (cel false b T l :: H) W) : E B (cel true b T l :: H) W := by
  intro w ⟨hb, lc, ⟨l1, l2, e, ⟨fr, _, h1⟩, hs⟩, hc⟩
  have hsat : sat B (pt true b (.cells l.toArray T fr) :: H) w := ⟨hb, lc, ⟨l1, l2, e, h1, hs⟩, hc⟩
  refine E_share (fun w hw => ?_) w hsat
  obtain ⟨hb, lc, ⟨l1, l2, e, h1, hs⟩, hc⟩ := hw
  exact h w ⟨hb, lc, ⟨l1, l2, e, ⟨fr, (fun h => by cases h), h1⟩, hs⟩, hc⟩
end Go.Proofs.YtmbfmkiagdhcoaaGreat.Disk
namespace Go.Proofs.YtmbfmkiagdhcoaaGreat.Disk
open Go Go.SL Go.Proofs Go.Proofs.YtmbfmkiagdhcoaaGreat.Sh
attribute [local irreducible] S.pick S.ld S.ldN S.st S.box S.nc S.fad S.ixS S.ixA S.chr S.prt S.ext S.bin S.sh S.sbin S.beq S.neg1 S.com1 S.not1 S.cvt S.str1 S.lenS S.len S.cap S.lenM S.mx S.mn S.mkM S.cond S.gd S.fa S.dr S.rck S.join S.loop S.cvv S.eqv S.slc S.slcS S.b2s S.lk V U CF Gives E cel mpb osl ros dct dit itr lpo dfo
attribute [local irreducible] disk rdisk
variable {B : World} {H : List Asrt} {K : Value → WT}
theorem u_rParts : Tryz.prog.underlying 128 = some (.slice 133) := by kernel_rfl
theorem elt_rPart : Elt Tryz.prog 133 3 40 (pcs ⟨[], none⟩) := elt_of (zv := .agg #[str [], str [], .bool false]) (by kernel_rfl) rfl rfl
theorem str_rPart : Str Tryz.prog 133 [(0, 1), (1, 1), (2, 1)] [str [], str [], .bool false] := str_of (zv := .agg #[str [], str [], .bool false]) (by kernel_rfl) (by kernel_rfl) rfl
theorem str_rDisk : Str Tryz.prog 130 [(0, 1), (1, 1), (2, 1), (3, 1)] [.slice none 0 0, I 0, .bool false, I 0] := str_of (zv := .agg #[.slice none 0 0, I 0, .bool false, I 0]) (by kernel_rfl) (by kernel_rfl) rfl
theorem zeros {n : Int} (hn : n ≤ 4096) (h : E B H (K (str (List.replicate n.toNat 0)))) : E B H (CF Tryz.prog 58 [I n] K) := by
  refine E_mono (W := s58 _ K) ?_ fun _ => c58
  unfold s58
  refine E_loop (σ := Nat) (fun j => j ≤ n.toNat) (fun j => [I n, str (List.replicate j 0)]) (fun _ => H) (fun j => n.toNat - j) 0 (fun _ => rfl) rfl (Nat.zero_le _) (fun W hW => hW) ?_
  intro j K0 hj hk
  refine E_fa fun _ => ?_
  (repeat first | refine gS ?_ | refine gA fun _ => ?_ | refine gX fun _ _ => ?_ | refine gT ?_ | refine gF ?_ | refine gI ?_)
  have hs : (⟨(List.replicate j (0 : UInt8)).toArray⟩ : ByteArray).size = j := by simp [ByteArray.size]
  first | rw [hs] | rw [List.length_replicate]
  refine E_if (fun hc => ?_) (fun hc => ?_)
  · have e0 : (⟨#[0]⟩ : ByteArray) = ⟨[0].toArray⟩ := rfl
    rw [e0]
    refine E_sadd (by rw [hs]; simp [ByteArray.size]; omega) ?_
    rw [str_app]
    have e : List.replicate j (0 : UInt8) ++ [0] = List.replicate (j + 1) 0 := by rw [List.replicate_succ']
    rw [e]
    exact hk (j + 1) (by omega) (by omega)
  · have : j = n.toNat := by omega
    rw [this]; exact h
end Go.Proofs.YtmbfmkiagdhcoaaGreat.Disk
namespace Go.Proofs.YtmbfmkiagdhcoaaGreat.Disk
open Go Go.SL Go.Proofs Go.Proofs.YtmbfmkiagdhcoaaGreat.Sh
attribute [local irreducible] S.pick S.ld S.ldN S.st S.box S.nc S.fad S.ixS S.ixA S.chr S.prt S.ext S.bin S.sh S.sbin S.beq S.neg1 S.com1 S.not1 S.cvt S.str1 S.lenS S.len S.cap S.lenM S.mx S.mn S.mkM S.cond S.gd S.fa S.dr S.rck S.join S.loop S.cvv S.eqv S.slc S.slcS S.b2s S.lk V U CF Gives E cel mpb osl ros dct dit itr lpo dfo
attribute [local irreducible] disk rdisk
variable {B : World} {H : List Asrt} {K : Value → WT}
end Go.Proofs.YtmbfmkiagdhcoaaGreat.Disk
namespace Go.Proofs.YtmbfmkiagdhcoaaGreat.Disk
open Go Go.SL Go.Proofs Go.Proofs.YtmbfmkiagdhcoaaGreat.Sh
attribute [local irreducible] S.pick S.ld S.ldN S.st S.box S.nc S.fad S.ixS S.ixA S.chr S.prt S.ext S.bin S.sh S.sbin S.beq S.neg1 S.com1 S.not1 S.cvt S.str1 S.lenS S.len S.cap S.lenM S.mx S.mn S.mkM S.cond S.gd S.fa S.dr S.rck S.join S.loop S.cvv S.eqv S.slc S.slcS S.b2s S.lk V U CF Gives E cel mpb osl ros dct dit itr lpo dfo
attribute [local irreducible] disk rdisk
variable {B : World} {H : List Asrt} {K : Value → WT}
theorem rnew {n : Int} (h0 : n < 1 ∨ 4096 < n → E B H (K (.tuple #[.pointer none, I 2]))) (h1 : 1 ≤ n → n ≤ 4096 → ∀ a, E B (rdisk a (Dk.new n.toNat) :: H) (K (.tuple #[ptr a, I 0]))) : E B H (CF Tryz.prog 28 [I n] K) := by
  refine E_mono (W := s28 _ K) ?_ fun _ => c28
  unfold s28
  refine E_join0 ?_
  (repeat first | refine gS ?_ | refine gA fun _ => ?_ | refine gX fun _ _ => ?_ | refine gT ?_ | refine gF ?_ | refine gI ?_)
  by_cases hn1 : n < 1
  · (repeat first | refine gS ?_ | refine gA fun _ => ?_ | refine gX fun _ _ => ?_ | refine gT ?_ | refine gF ?_ | refine gI ?_)
    exact h0 (.inl hn1)
  (repeat first | refine gS ?_ | refine gA fun _ => ?_ | refine gX fun _ _ => ?_ | refine gT ?_ | refine gF ?_ | refine gI ?_)
  refine E_if (fun hc => ?_) (fun hc => ?_)
  · exact h0 (.inr (by omega))
  refine E_build (l := [.slice none 0 0, I 0, .bool false, I 0]) str_rDisk ?_
  (repeat first | refine gS ?_ | refine gA fun _ => ?_ | refine gX fun _ _ => ?_ | refine gT ?_ | refine gF ?_ | refine gI ?_)
  rename_i a
  refine zeros (by omega) ?_
  refine osl_nil (T := 133) (sz := 3) ?_
  refine E_loop (σ := Nat × Value) (fun s => s.1 ≤ n.toNat ∧ CellI s.2) (fun s => [I n, ptr a, str zero128, I s.1])
    (fun s => osl 133 3 s.2 s.1 (parts (List.replicate s.1 ⟨zero128, none⟩)) :: cel true a 130 [s.2, I 0, .bool false, I 0] :: H) (fun s => n.toNat - s.1)
    (0, .slice none 0 0) (fun _ => rfl) rfl ⟨Nat.zero_le _, ⟨rfl⟩⟩ (fun W hW => E_same (by repeat (first | exact Same.refl | (refine Same.cons (by repeat (first | exact Find.here | apply Find.there)) ?_) | (refine Same.drop ?_))) hW) ?_
  rintro ⟨j, v⟩ K0 ⟨hj, hcv⟩ hk
  simp only at hj hk hcv ⊢
  refine E_fa fun _ => ?_
  (repeat first | refine gS ?_ | refine gA fun _ => ?_ | refine gX fun _ _ => ?_ | refine gT ?_ | refine gF ?_ | refine gI ?_)
  refine E_if (fun hc => ?_) (fun hc => ?_)
  · (repeat first | refine gS ?_ | refine gA fun _ => ?_ | refine gX fun _ _ => ?_ | refine gT ?_ | refine gF ?_ | refine gI ?_)
    refine E_build (l := [str zero128, str [], .bool false]) str_rPart ?_
    refine E_bsl [(0, 3)] u_rParts elt_rPart (by simp) (by decide) (l0 := [str [], str [], .bool false]) rfl fun b1 => ?_
    refine fd (a := osl 133 3 v j (parts (List.replicate j ⟨zero128, none⟩))) ?_
    refine E_app (m := 1) (ys := [str zero128, str [], .bool false]) u_rParts elt_rPart (rd_slice (l := [str zero128, str [], .bool false]) (T := 133) (κ := true) u_rParts rfl rfl (by simp [isCell])) (by omega) (by omega) fun v' _ => ?_
    (repeat first | refine gS ?_ | refine gA fun _ => ?_ | refine gX fun _ _ => ?_ | refine gT ?_ | refine gF ?_ | refine gI ?_)
    have hk' := hk (j + 1, v') ⟨by simp only; omega, by assumption⟩ (by simp only; omega)
    have e : parts (List.replicate (j + 1) ⟨zero128, none⟩) = parts (List.replicate j ⟨zero128, none⟩) ++ [str zero128, str [], .bool false] := by
      rw [List.replicate_succ', parts_append]; rfl
    simp only [e] at hk'
    exact sm hk'
  · (repeat first | refine gS ?_ | refine gA fun _ => ?_ | refine gX fun _ _ => ?_ | refine gT ?_ | refine gF ?_ | refine gI ?_)
    have hj' : j = n.toNat := by omega
    subst hj'
    refine E_oslo (by omega) fun b cap sp hv hle hxl hsl => ?_
    subst hv
    refine E_cshare ?_
    have ho : (Dk.new n.toNat).Ok := ⟨by simp [Dk.new]; omega, by simp [Dk.new]; omega, by simp [Dk.new], by simp [Dk.new], fun s hs => by
      simp only [Dk.new, List.mem_replicate] at hs
      rw [hs.2]; exact ⟨List.length_replicate, fun b hb => by cases hb⟩⟩
    exact E_same (by repeat (first | exact Same.refl | (refine Same.cons (by repeat (first | exact Find.here | apply Find.there)) ?_) | (refine Same.drop ?_))) (E_rdisks (H := H) (D := Dk.new n.toNat) (n := n.toNat) ho hle (by simp [Dk.new]) rfl rfl rfl (b := b) (sp := sp) (h1 (by omega) (by omega) a))
end Go.Proofs.YtmbfmkiagdhcoaaGreat.Disk
namespace Go.Proofs.YtmbfmkiagdhcoaaGreat.Disk
open Go Go.SL Go.Proofs Go.Proofs.YtmbfmkiagdhcoaaGreat.Sh
attribute [local irreducible] S.pick S.ld S.ldN S.st S.box S.nc S.fad S.ixS S.ixA S.chr S.prt S.ext S.bin S.sh S.sbin S.beq S.neg1 S.com1 S.not1 S.cvt S.str1 S.lenS S.len S.cap S.lenM S.mx S.mn S.mkM S.cond S.gd S.fa S.dr S.rck S.join S.loop S.cvv S.eqv S.slc S.slcS S.b2s S.lk V U CF Gives E cel mpb osl ros dct dit itr lpo dfo
attribute [local irreducible] disk rdisk
variable {B : World} {H : List Asrt} {K : Value → WT}
end Go.Proofs.YtmbfmkiagdhcoaaGreat.Disk
namespace Go.Proofs.YtmbfmkiagdhcoaaGreat.Disk
open Go Go.SL Go.Proofs Go.Proofs.YtmbfmkiagdhcoaaGreat.Sh
attribute [local irreducible] S.pick S.ld S.ldN S.st S.box S.nc S.fad S.ixS S.ixA S.chr S.prt S.ext S.bin S.sh S.sbin S.beq S.neg1 S.com1 S.not1 S.cvt S.str1 S.lenS S.len S.cap S.lenM S.mx S.mn S.mkM S.cond S.gd S.fa S.dr S.rck S.join S.loop S.cvv S.eqv S.slc S.slcS S.b2s S.lk V U CF Gives E cel mpb osl ros dct dit itr lpo dfo
attribute [local irreducible] disk rdisk
variable {B : World} {H : List Asrt} {K : Value → WT}
end Go.Proofs.YtmbfmkiagdhcoaaGreat.Disk
end
section
namespace Go.Proofs.YtmbfmkiagdhcoaaGreat.Bn
open Go Go.SL Go.Proofs Go.Proofs.YtmbfmkiagdhcoaaGreat.Sh Go.Proofs.YtmbfmkiagdhcoaaGreat.Oct Go.Proofs.YtmbfmkiagdhcoaaGreat.Disk Go.Proofs.YtmbfmkiagdhcoaaGreat.Slot Go.Proofs.YtmbfmkiagdhcoaaGreat.Pk Go.Proofs.YtmbfmkiagdhcoaaGreat.Ext
variable {B : World} {H : List Asrt} {K : Value → WT} {W : WT}
def rsh (a x y : Nat) (Z : Shf) : Asrt := ex fun v : Pk.Cv => all [cel true a 86 [ptr x, ptr y, v.1], rdisk x Z.D, rmap y Z.f Z.T, sls cPl 34 3 v.1 Z.P]
theorem E_rshS {a x y : Nat} {Z : Shf} {v : Value} {D : Dk} {T : List Bool} {P : List Pc} {f : Nat} [hv : CellI v] (hD : D = Z.D) (hf : f = Z.f) (hT : T = Z.T) (hP : P = Z.P) (h : E B (rsh a x y Z :: H) W) :
    E B (cel true a 86 [ptr x, ptr y, v] :: rdisk x D :: rmap y f T :: sls cPl 34 3 v P :: H) W := by
  subst hD hf hT hP
  exact E_all' (G := [cel true a 86 [ptr x, ptr y, v], rdisk x Z.D, rmap y Z.f Z.T, sls cPl 34 3 v Z.P]) (E_ex' (f := fun v : Pk.Cv => all [cel true a 86 [ptr x, ptr y, v.1], rdisk x Z.D, rmap y Z.f Z.T, sls cPl 34 3 v.1 Z.P]) ⟨v, hv.pf⟩ h)
attribute [local irreducible] S.pick S.ld S.ldN S.st S.box S.nc S.fad S.ixS S.ixA S.chr S.prt S.ext S.bin S.sh S.sbin S.beq S.neg1 S.com1 S.not1 S.cvt S.str1 S.lenS S.len S.cap S.lenM S.mx S.mn S.mkM S.cond S.gd S.fa S.dr S.rck S.join S.loop S.cvv S.eqv S.slc S.slcS S.b2s S.lk V U CF Gives E cel mpb osl ros dct dit itr lpo dfo
end Go.Proofs.YtmbfmkiagdhcoaaGreat.Bn
end
section
namespace Go.Proofs.YtmbfmkiagdhcoaaGreat.Bn
open Go Go.SL Go.Proofs Go.Proofs.YtmbfmkiagdhcoaaGreat.Sh Go.Proofs.YtmbfmkiagdhcoaaGreat.Oct Go.Proofs.YtmbfmkiagdhcoaaGreat.Disk Go.Proofs.YtmbfmkiagdhcoaaGreat.Slot Go.Proofs.YtmbfmkiagdhcoaaGreat.Pk Go.Proofs.YtmbfmkiagdhcoaaGreat.Ext
variable {B : World} {H : List Asrt} {K : Value → WT} {W : WT}
structure Ad where
  a : Nat
  d : Nat
  m : Nat
  y : Nat
  x : Nat
  my : Nat
def par (b : Nat) (A : Ad) (Z : Shf) : Asrt := all [cel true b 42 [ptr A.d, ptr A.x, ptr A.a, ptr A.y], shf A.a A.d A.m Z, rsh A.y A.x A.my Z]
theorem E_par {b : Nat} {A : Ad} {Z : Shf} (h : E B (cel true b 42 [ptr A.d, ptr A.x, ptr A.a, ptr A.y] :: shf A.a A.d A.m Z :: rsh A.y A.x A.my Z :: H) W) : E B (par b A Z :: H) W := E_all h
theorem E_parS {b : Nat} {A : Ad} {Z : Shf} (h : E B (par b A Z :: H) W) : E B (cel true b 42 [ptr A.d, ptr A.x, ptr A.a, ptr A.y] :: shf A.a A.d A.m Z :: rsh A.y A.x A.my Z :: H) W := E_all' (G := [cel true b 42 [ptr A.d, ptr A.x, ptr A.a, ptr A.y], shf A.a A.d A.m Z, rsh A.y A.x A.my Z]) h
theorem rel_new {f n : Nat} (h : f ≤ n) : Rel f (List.replicate (n - f) false) (newL f n) := by
  unfold newL
  by_cases hf : f < n
  · rw [if_pos hf]
    refine ⟨⟨Nat.le_refl _, by simp only; omega, trivial⟩, fun x => ?_⟩
    simp only [In, List.mem_cons, List.not_mem_nil, or_false, exists_eq_left]
    constructor
    · rintro ⟨h1, h2⟩
      refine ⟨x - f, by omega, ?_⟩
      rw [List.getD_eq_getElem?_getD, List.getElem?_replicate, if_pos (by omega)]; rfl
    · rintro ⟨j, rfl, hj⟩
      have := getD_lt hj
      rw [List.length_replicate] at this
      omega
  · rw [if_neg hf, show n - f = 0 by omega]
    exact ⟨trivial, fun x => ⟨fun h => absurd h (in_nil x), fun ⟨j, _, hj⟩ => by simp at hj⟩⟩
def newZ (n f : Nat) : Shf := ⟨Dk.new n, f, List.replicate (n - f) false, newL f n, []⟩
theorem new_inv {n f : Nat} (h : f ≤ n) (hn : n ≤ 4096) : Inv (newZ n f) :=
  ⟨rel_new h, by simp [newZ]; omega, List.Pairwise.nil, fun _ hp => (by cases hp), fun _ hp => (by cases hp), fun _ hp => (by cases hp)⟩
theorem new_good {n f : Nat} (h : f ≤ n) (hn : n ≤ 4096) : Good (newZ n f) := ⟨new_inv h hn, ⟨rfl, rfl⟩, by simp [newZ, Dk.new]; omega⟩
theorem buildR12 (p q : Nat) (w : World) : (Instr.build 86 #[(0, ptr p), (1, ptr q)]).run Tryz.prog w = .ok (.agg #[ptr p, ptr q, nl]) w := by kernel_rfl
theorem buildPr (p q r s : Nat) (w : World) : (Instr.build 42 #[(0, ptr p), (1, ptr q), (2, ptr r), (3, ptr s)]).run Tryz.prog w = .ok (.agg #[ptr p, ptr q, ptr r, ptr s]) w := by kernel_rfl
attribute [local irreducible] S.pick S.ld S.ldN S.st S.box S.nc S.fad S.ixS S.ixA S.chr S.prt S.ext S.bin S.sh S.sbin S.beq S.neg1 S.com1 S.not1 S.cvt S.str1 S.lenS S.len S.cap S.lenM S.mx S.mn S.mkM S.cond S.gd S.fa S.dr S.rck S.join S.loop S.cvv S.eqv S.slc S.slcS S.b2s S.lk V U CF Gives E cel mpb osl ros dct dit itr lpo dfo
theorem begin12 {s f : UInt8} (h : ∀ b A, E B (par b A (newZ (8 + s.toNat % 73) (f.toNat % 5)) :: H) (K (.tuple #[ptr b, .bool true]))) : E B H (CF Tryz.prog 7 [.int .u8 s.toNat, .int .u8 f.toNat] K) := by
  refine E_mono (W := s7 _ _ K) ?_ fun _ => c7
  unfold s7
  have hs := s.toNat_lt
  have hf := f.toNat_lt
  refine E_cvtI (by omega) (by omega) ?_
  refine Dig.E_rem0 (b := 73) (by decide) ?_
  refine E_addI (by omega) (by omega) ?_
  refine E_cvtI (by omega) (by omega) ?_
  refine Dig.E_rem0 (b := 5) (by decide) ?_
  rw [show (8 : Int) + ((s.toNat % 73 : Nat) : Int) = ((8 + s.toNat % 73 : Nat) : Int) by omega]
  have hn : 8 + s.toNat % 73 ≤ 80 := by omega
  have hff : f.toNat % 5 ≤ 4 := by omega
  have hge : 8 ≤ 8 + s.toNat % 73 := by omega
  generalize 8 + s.toNat % 73 = n at h hn hge ⊢
  generalize f.toNat % 5 = g at h hff ⊢
  refine Disk.new (fun hx => by omega) fun _ _ d => ?_
  rw [Int.toNat_natCast]
  refine E_ext ?_
  refine E_ext ?_
  refine Disk.rnew (fun hx => by omega) fun _ _ x => ?_
  rw [Int.toNat_natCast]
  refine E_ext ?_
  refine E_ext ?_
  refine xnew (f := g) (t := n) (by omega) (by omega) fun m => ?_
  refine E_ext ?_
  refine E_ext ?_
  refine rmnew (f := g) (t := n) (by omega) (by omega) fun my => ?_
  refine E_ext ?_
  refine E_ext ?_
  have e : g + (List.replicate (n - g) false).length = n := by rw [List.length_replicate]; omega
  have e2 : xmap m g n (newL g n) = xmap m g (g + (List.replicate (n - g) false).length) (newL g n) := by rw [e]
  refine fd (a := xmap m g n (newL g n)) ?_
  rw [e2]
  refine fd (a := disk d (Dk.new n)) ?_
  refine bnew fun a => ?_
  rw [show (⟨Dk.new n, g, List.replicate (n - g) false, newL g n, []⟩ : Shf) = newZ n g from rfl]
  refine E_ext ?_
  refine E_ext ?_
  refine Dig.E_Vr (buildR12 x my) ?_
  refine E_box (v := .agg #[ptr x, ptr my, nl]) (vs := [ptr x, ptr my, nl]) fun y => ?_
  refine Dig.E_Vr (buildPr d x a y) ?_
  refine E_box (v := .agg #[ptr d, ptr x, ptr a, ptr y]) (vs := [ptr d, ptr x, ptr a, ptr y]) fun b => ?_
  refine sls_nil cPl 3 (T := 34) ?_
  refine sm (G := cel true y 86 [ptr x, ptr my, nl] :: rdisk x (Dk.new n) :: rmap my g (List.replicate (n - g) false) :: sls cPl 34 3 nl [] :: cel true b 42 [ptr d, ptr x, ptr a, ptr y] :: shf a d m (newZ n g) :: H) ?_
  refine E_rshS (Z := newZ n g) rfl rfl rfl rfl ?_
  have h' := h b ⟨a, d, m, y, x, my⟩
  refine sm (G := cel true b 42 [ptr d, ptr x, ptr a, ptr y] :: shf a d m (newZ n g) :: rsh y x my (newZ n g) :: H) ?_
  refine E_parS (A := ⟨a, d, m, y, x, my⟩) ?_
  (repeat (first | refine goS ?_ | refine E_box fun _ => ?_ | refine E_fa fun _ => ?_ | refine E_ptfad0 fun _ _ => ?_ | refine E_ptfad fun _ _ => ?_ | refine E_rsix (by assumption) fun _ _ => ?_ | refine goT (by first | assumption | decide) ?_ | refine goF (by first | assumption | decide) ?_ | refine E_ixN (by omega) ?_ | refine E_ld' (by assumption) ?_ | refine E_addI (by omega) (by omega) ?_ | refine E_subI (by omega) (by omega) ?_ | refine E_mulI (by omega) (by omega) ?_))
  refine E_pne u_pSh ?_
  (repeat (first | refine goS ?_ | refine E_box fun _ => ?_ | refine E_fa fun _ => ?_ | refine E_ptfad0 fun _ _ => ?_ | refine E_ptfad fun _ _ => ?_ | refine E_rsix (by assumption) fun _ _ => ?_ | refine goT (by first | assumption | decide) ?_ | refine goF (by first | assumption | decide) ?_ | refine E_ixN (by omega) ?_ | refine E_ld' (by assumption) ?_ | refine E_addI (by omega) (by omega) ?_ | refine E_subI (by omega) (by omega) ?_ | refine E_mulI (by omega) (by omega) ?_))
  exact h'
def packL (wd : Nat) (cs : List (List UInt8)) : Ch := (cs.take 20).foldl (addL wd) []
theorem foldl_ok {id wd : Nat} : ∀ (cs : List (List UInt8)) {L : Ch}, POk id wd L → POk id wd (cs.foldl (addL wd) L)
  | [], _, h => h
  | b :: cs, _, h => foldl_ok cs (addL_ok h b)
theorem fold_suc {wd : Nat} {cs : List (List UInt8)} {i : Nat} {b : List UInt8} (h : cs[i]? = some b) : (cs.take (i + 1)).foldl (addL wd) [] = addL wd ((cs.take i).foldl (addL wd) []) b := by
  rw [List.take_add_one, h, List.foldl_append]; rfl
theorem u_pR11 : Tryz.prog.underlying 28 = some (.pointer 47) := by kernel_rfl
abbrev badP (i w : Int) : Prop := i < 0 ∨ 4096 ≤ i ∨ w < 4 ∨ 64 < w
theorem packers {l2 : Value} {i w : Int} {l : List Bv} [hv : Rs B H l2 Pk.cV l] (hb : ∀ b ∈ l, (∀ Q, Rb B (Q ++ H) b.v b.bs) ∧ b.bs.length ≤ 140737488351232) (hn : ¬ badP i w)
    (h : ∀ a c id wd : Nat, i = (id : Int) → w = (wd : Int) → POk id wd [] → E B (pck a id wd (packL wd (l.map (·.bs))) :: rpk c id wd (packL wd (l.map (·.bs))) :: H) (K (.tuple #[ptr a, ptr c]))) : E B H (CF Tryz.prog 8 [I i, I w, l2] K) := by
  refine E_mono (W := s8 _ _ _ K) ?_ fun _ => c8
  unfold s8
  refine pknew (fun hx => absurd hx hn) fun a id wd h1 h2 hp0 => ?_
  refine E_ext ?_
  refine E_ext ?_
  refine rpnew (fun hx => absurd hx hn) fun c id' wd' h1' h2' _ => ?_
  have e1 : id' = id := by omega
  have e2 : wd' = wd := by omega
  subst e1 e2
  refine E_ext ?_
  refine E_ext ?_
  have hh := h a c id' wd' h1 h2 hp0
  have hmin : (l.map (·.bs)).take 20 = (l.map (·.bs)).take (min 20 l.length) := by
    rcases Nat.lt_or_ge l.length 20 with h' | h'
    · rw [show min 20 l.length = l.length by omega, List.take_of_length_le (by simp; omega), List.take_of_length_le (by simp)]
    · rw [show min 20 l.length = 20 by omega]
  refine E_loop (n := 4) (σ := Nat) (fun i => i ≤ min 20 l.length) (fun i => [l2, ptr a, ptr c, I i]) (fun i => pck a id' wd' (((l.map (·.bs)).take i).foldl (addL wd') []) :: rpk c id' wd' (((l.map (·.bs)).take i).foldl (addL wd') []) :: H) (fun i => min 20 l.length - i) 0 (fun _ => rfl) rfl (Nat.zero_le _) (fun W hW => by
    simp only [List.take_zero, List.foldl_nil] at hW
    exact sm hW) ?_
  intro i K0 hi hk
  have hok := foldl_ok ((l.map (·.bs)).take i) hp0
  refine E_fa fun _ => ?_
  refine E_join1 (n := 5) [l2, ptr a, ptr c, I i, .bool (decide (i < min 20 l.length))] (pck a id' wd' (((l.map (·.bs)).take i).foldl (addL wd') []) :: rpk c id' wd' (((l.map (·.bs)).take i).foldl (addL wd') []) :: H) (fun q hq => ?_) ?_
  · refine E_pne u_pR11 ?_
    refine E_gtf ?_
    refine E_gtf ?_
    refine E_gtf ?_
    refine E_rslen (v := l2) (l := l) ?_
    refine E_gtf ?_
    refine E_lss ?_
    refine E_ptt ?_
    by_cases h1 : i < l.length
    · have e : decide (i < min 20 l.length) = decide ((i : Int) < 20) := by rw [decide_eq_decide]; omega
      rw [e] at hq
      rw [decide_eq_true (show (i : Int) < (l.length : Int) by omega)]
      refine E_gtf ?_
      refine E_gtf ?_
      refine E_lss ?_
      refine E_ptt ?_
      exact hq
    · rw [decide_eq_false (by omega)] at hq
      rw [decide_eq_false (show ¬ (i : Int) < (l.length : Int) by omega)]
      refine E_gff ?_
      refine E_gff ?_
      refine E_pff ?_
      exact hq
  refine E_fa fun _ => ?_
  refine E_if (fun hc => ?_) (fun hc => ?_)
  · have hx : l[i]? = some (l[i]'(by omega)) := List.getElem?_eq_getElem (by omega)
    obtain ⟨hb1, hb2⟩ := hb _ (List.getElem_mem (show i < l.length by omega))
    generalize (l[i]'(by omega)) = b at hx hb1 hb2
    have hx2 : (l.map (·.bs))[i]? = some b.bs := by rw [List.getElem?_map, hx]; rfl
    have hk1 := hk (i + 1) (by omega) (by omega)
    rw [fold_suc hx2] at hk1
    refine E_rsix (v := l2) (l := l) hx fun _ _ => ?_
    refine E_ptld ?_
    have r1 := hb1 [rpk c id' wd' (((l.map (·.bs)).take i).foldl (addL wd') [])]
    refine pkadd (bv := b.v) (b := b.bs) (hb := r1) hok hb2 fun _ _ => ?_
    refine E_rsix (v := l2) (l := l) hx fun _ _ => ?_
    refine E_ptld ?_
    refine fd (a := rpk c id' wd' (((l.map (·.bs)).take i).foldl (addL wd') [])) ?_
    have r2 := hb1 [pck a id' wd' (addL wd' (((l.map (·.bs)).take i).foldl (addL wd') []) b.bs)]
    refine rpadd (bv := b.v) (b := b.bs) (hb := r2) hok hb2 fun _ _ => ?_
    refine E_addI (by omega) (by omega) ?_
    exact sm hk1
  · have hie : i = min 20 l.length := by omega
    subst hie
    rw [← hmin]
    exact hh
end Go.Proofs.YtmbfmkiagdhcoaaGreat.Bn
end
section
namespace Go.Proofs.YtmbfmkiagdhcoaaGreat.Bn
open Go Go.SL Go.Proofs Go.Proofs.YtmbfmkiagdhcoaaGreat.Sh Go.Proofs.YtmbfmkiagdhcoaaGreat.Oct Go.Proofs.YtmbfmkiagdhcoaaGreat.Disk Go.Proofs.YtmbfmkiagdhcoaaGreat.Slot Go.Proofs.YtmbfmkiagdhcoaaGreat.Pk Go.Proofs.YtmbfmkiagdhcoaaGreat.Ext
variable {B : World} {H : List Asrt} {K : Value → WT} {W : WT}
theorem eq_run (a b a' b' : Int) : EqG Tryz.prog 2 32 (.agg #[I a, I b]) (.agg #[I a', I b']) (decide (a = a' ∧ b = b')) := by
  have h := eqg_struct (P := Tryz.prog) (n := 1) (t := 32) (xs := [I a, I b]) (ys := [I a', I b']) (bs := [decide (a = a'), decide (b = b')]) [(3, 0), (3, 1)] (by kernel_rfl) (by kernel_rfl) (by kernel_rfl) rfl (fun i t o b'' h1 h2 => by
    match i, h1, h2 with
    | 0, h1, h2 => cases h1; cases h2; exact ⟨_, _, partG_cell (eqV_int (a := a) (b := a') Shf.u_int).1 rfl, partG_cell (eqV_int (a := a) (b := a') Shf.u_int).1 rfl, (eqV_int Shf.u_int).g⟩
    | 1, h1, h2 => cases h1; cases h2; exact ⟨_, _, partG_cell (eqV_int (a := a) (b := a') Shf.u_int).1 rfl, partG_cell (eqV_int (a := a) (b := a') Shf.u_int).1 rfl, (eqV_int Shf.u_int).g⟩
    | n + 2, h1, h2 => simp at h1)
  simpa [Bool.decide_and] using h
theorem eq_place (a b n a' b' n' : Int) : EqG Tryz.prog 3 34 (.agg #[I a, I b, I n]) (.agg #[I a', I b', I n']) (decide (a = a' ∧ b = b' ∧ n = n')) := by
  have h := eqg_struct (P := Tryz.prog) (n := 2) (t := 34) (xs := [I a, I b, I n]) (ys := [I a', I b', I n']) (bs := [decide (a = a'), decide (b = b' ∧ n = n')]) [(3, 0), (32, 1)] (by kernel_rfl) (by kernel_rfl) (by kernel_rfl) rfl (fun i t o b'' h1 h2 => by
    match i, h1, h2 with
    | 0, h1, h2 => cases h1; cases h2; exact ⟨_, _, partG_cell (eqV_int (a := a) (b := a') Shf.u_int).1 rfl, partG_cell (eqV_int (a := a) (b := a') Shf.u_int).1 rfl, (eqV_int Shf.u_int).g.up (by decide)⟩
    | 1, h1, h2 => cases h1; cases h2; exact ⟨_, _, partG_agg (ys := [I b, I n]) (n := 2) (by kernel_rfl) (by kernel_rfl) rfl, partG_agg (ys := [I b', I n']) (n := 2) (by kernel_rfl) (by kernel_rfl) rfl, eq_run b n b' n'⟩
    | n + 2, h1, h2 => simp at h1)
  simpa [Bool.decide_and] using h
set_option maxRecDepth 100000
theorem noGuardPl : Tryz.prog.eqGuardType Tryz.prog.depth 34 = false := by kernel_rfl
theorem E_placeEq {c : Bool} {a b n : Int} (h : E B H (K (.bool true))) : E B H (S.eqv Tryz.prog .eql 34 c (plV a b n) (plV a b n) K) :=
  E_aeq noGuardPl (fun w => by have := (eq_place a b n a b n).equal (by decide) w; simpa using this) h
attribute [local irreducible] S.pick S.ld S.ldN S.st S.box S.nc S.fad S.ixS S.ixA S.chr S.prt S.ext S.bin S.sh S.sbin S.beq S.neg1 S.com1 S.not1 S.cvt S.str1 S.lenS S.len S.cap S.lenM S.mx S.mn S.mkM S.cond S.gd S.fa S.dr S.rck S.join S.loop S.cvv S.eqv S.slc S.slcS S.b2s S.lk V U CF Gives E cel mpb osl ros dct dit itr lpo dfo
end Go.Proofs.YtmbfmkiagdhcoaaGreat.Bn
end
section
namespace Go.Proofs.YtmbfmkiagdhcoaaGreat.Bn
open Go Go.SL Go.Proofs Go.Proofs.YtmbfmkiagdhcoaaGreat.Sh Go.Proofs.YtmbfmkiagdhcoaaGreat.Oct Go.Proofs.YtmbfmkiagdhcoaaGreat.Disk Go.Proofs.YtmbfmkiagdhcoaaGreat.Slot Go.Proofs.YtmbfmkiagdhcoaaGreat.Pk Go.Proofs.YtmbfmkiagdhcoaaGreat.Ext
variable {B : World} {H : List Asrt} {K : Value → WT} {W : WT}
def abcL : Ch := [[97, 98, 99]]
theorem abc_pack : packL 4 [[97, 98, 99]] = abcL := by decide
theorem abc_ok : POk 7 4 abcL := ⟨by decide, by decide, by decide, by decide, by decide, by decide⟩
theorem abc_n : (imgL 7 abcL).length / 128 = 2 := by
  obtain ⟨h1, h2, h3⟩ := img_len 7 abcL
  have e1 : abcL.flatten.length = 3 := rfl
  have e2 : abcL.length = 1 := rfl
  omega
theorem live_seal : (sealV (newZ 10 0) 7 abcL).1 = (7, 0, 2) ∧ (sealV (newZ 10 0) 7 abcL).2.1 = 0 ∧ (sealV (newZ 10 0) 7 abcL).2.2.P = [⟨7, 0, 2⟩] := by
  have hg := new_good (n := 10) (f := 0) (by decide) (by decide)
  have hlen : (imgL 7 abcL).length = 128 * 2 := by
    have := abc_n
    have := (img_len 7 abcL).1
    omega
  have ht : (takeV (newZ 10 0).R ((2 : Nat) : Int)).1 = ((0 : Nat) : Int) ∧ (takeV (newZ 10 0).R ((2 : Nat) : Int)).2.1 = 0 := by decide
  obtain ⟨w1, _⟩ := wrS_fit (chunks (imgL 7 abcL) 2) hg.fit (a := 0) (by rw [chunks_len]; decide) (chunks_128 hlen)
  unfold sealV
  rw [if_neg (by decide), if_neg (by decide), if_neg (by decide), abc_n]
  dsimp only
  rw [ht.1, if_neg (by rw [ht.2]; decide), if_neg (by rw [w1]; decide)]
  exact ⟨rfl, rfl, rfl⟩
theorem fill3 : Instr.fill (fun i => some (i * 1, 1)) (rep 3 [.int .u8 0]).toArray [(0, .int .u8 97), (1, .int .u8 98), (2, .int .u8 99)] = some #[.int .u8 97, .int .u8 98, .int .u8 99] := by kernel_rfl
theorem fill1s (b : Nat) : Instr.fill (fun i => some (i * 1, 1)) (rep 1 [nl]).toArray [(0, .slice (some ⟨b, 0, none⟩) 3 3)] = some #[.slice (some ⟨b, 0, none⟩) 3 3] := by kernel_rfl
set_option maxRecDepth 100000
attribute [local irreducible] S.pick S.ld S.ldN S.st S.box S.nc S.fad S.ixS S.ixA S.chr S.prt S.ext S.bin S.sh S.sbin S.beq S.neg1 S.com1 S.not1 S.cvt S.str1 S.lenS S.len S.cap S.lenM S.mx S.mn S.mkM S.cond S.gd S.fa S.dr S.rck S.join S.loop S.cvv S.eqv S.slc S.slcS S.b2s S.lk V U CF Gives E cel mpb osl ros dct dit itr lpo dfo
theorem live12 (h : E B H (K (.bool true))) : E B H (CF Tryz.prog 10 [] K) := by
  refine E_mono (W := s10 K) ?_ fun _ => c10
  unfold s10
  refine begin12 (s := 2) (f := 0) fun b A => ?_
  rw [show newZ (8 + (2 : UInt8).toNat % 73) ((0 : UInt8).toNat % 5) = newZ 10 0 from rfl]
  refine E_ext ?_
  refine E_ext ?_
  refine E_notb ?_
  refine E_ff ?_
  refine Dig.E_bslK Dig.u_bytesD Dig.elt_byteD (by omega) fill3 fun b16 => ?_
  refine E_cvslice Dig.u_bytesD u_byteP ?_
  refine E_slsC (enc := cB) (sz := 1) [97, 98, 99] 3 rfl rfl ?_
  refine Dig.E_bslK Pk.u_bytess elt_bytesP (by omega) (fill1s b16) fun b18 => ?_
  refine E_slsC (enc := Pk.cV) (sz := 1) [⟨.slice (some ⟨b16, 0, none⟩) 3 3, [97, 98, 99], rfl⟩] 1 rfl rfl ?_
  refine packers (l2 := .slice (some ⟨b18, 0, none⟩) 1 1) (l := [⟨.slice (some ⟨b16, 0, none⟩) 3 3, [97, 98, 99], rfl⟩]) (fun x hx => ?_) (by unfold badP; omega) fun a c id wd e1 e2 hp => ?_
  · simp only [List.mem_cons, List.not_mem_nil, or_false] at hx
    subst hx
    refine ⟨fun Q => ⟨fun {w} hw => ?_⟩, by simp⟩
    have : Rb B (sls Pk.cV 48 1 (.slice (some ⟨b18, 0, none⟩) 1 1) [⟨.slice (some ⟨b16, 0, none⟩) 3 3, [97, 98, 99], rfl⟩] :: sls cB 5 1 (.slice (some ⟨b16, 0, none⟩) 3 3) [97, 98, 99] :: par b A (newZ 10 0) :: H) (.slice (some ⟨b16, 0, none⟩) 3 3) [97, 98, 99] := inferInstance
    have key : ∀ (Q : List Asrt) {w : World}, sat B (Q ++ (sls Pk.cV 48 1 (.slice (some ⟨b18, 0, none⟩) 1 1) [⟨.slice (some ⟨b16, 0, none⟩) 3 3, [97, 98, 99], rfl⟩] :: sls cB 5 1 (.slice (some ⟨b16, 0, none⟩) 3 3) [97, 98, 99] :: par b A (newZ 10 0) :: H)) w → sat B (sls Pk.cV 48 1 (.slice (some ⟨b18, 0, none⟩) 1 1) [⟨.slice (some ⟨b16, 0, none⟩) 3 3, [97, 98, 99], rfl⟩] :: sls cB 5 1 (.slice (some ⟨b16, 0, none⟩) 3 3) [97, 98, 99] :: par b A (newZ 10 0) :: H) w := fun Q => by
      induction Q with
      | nil => exact fun h => h
      | cons q Q ih => exact fun h => ih h.tail
    exact this.pf (key Q hw)
  have hid : id = 7 := by omega
  have hwd : wd = 4 := by omega
  subst hid hwd
  simp only [List.map_cons, List.map_nil, abc_pack]
  refine E_ext ?_
  refine E_ext ?_
  refine fd (a := par b A (newZ 10 0)) ?_
  refine E_par ?_
  refine E_nc ?_
  refine E_fad0 ?_
  refine E_ld ?_
  have hg := new_good (n := 10) (f := 0) (by decide) (by decide)
  obtain ⟨s1, s2, s3⟩ := live_seal
  obtain ⟨g1, _, g3, _⟩ := good_seal hg abc_ok
  obtain ⟨gk, _⟩ := g3 s2
  have hch := keep_chunk g1.fit abc_ok gk (i := 0) (c := [97, 98, 99]) rfl
  refine fd (a := shf A.a A.d A.m (newZ 10 0)) ?_
  refine fd (a := pck a 7 4 abcL) ?_
  refine bseal hg.inv abc_ok ?_
  rw [s1, s2]
  generalize (sealV (newZ 10 0) 7 abcL).2.2 = Z at g1 hch s3 ⊢
  refine E_ext ?_
  refine E_ext ?_
  refine E_box (v := plV 0 0 0) (vs := [I 0, I 0, I 0]) fun v5 => ?_
  refine E_stW (v := plV 7 0 2) (vs := [I 7, I 0, I 2]) rfl rfl ?_
  refine E_nc ?_
  refine E_fad0 ?_
  refine E_ld ?_
  refine fd (a := shf A.a A.d A.m Z) ?_
  refine chunk (b := 7) (i := 0) g1.inv fun v _ => ?_
  rw [show chunkV Z 7 0 = (0, [97, 98, 99]) from hch]
  refine E_ext ?_
  refine E_ext ?_
  refine E_eql ?_
  refine E_gtf ?_
  refine E_ldNA ?_
  refine E_gtf ?_
  refine Dig.E_Vr (buildRn _ _) ?_
  refine E_gtf ?_
  refine Dig.E_Vr (buildPl _ _ _) ?_
  refine E_gtf ?_
  refine E_placeEq ?_
  refine E_ptt ?_
  refine E_gtf ?_
  refine E_gtf ?_
  refine E_eql ?_
  refine E_ptt ?_
  refine E_gtf ?_
  refine E_gtf ?_
  refine E_b2sR (v := v) (bs := [97, 98, 99]) ?_
  refine E_gtf ?_
  refine E_streqS ?_
  refine E_ptt ?_
  refine E_gtf ?_
  refine E_gtf ?_
  refine E_nc ?_
  refine E_gtf ?_
  refine E_fad0 ?_
  refine E_gtf ?_
  refine E_ld ?_
  refine E_gtf ?_
  refine fd (a := shf A.a A.d A.m Z) ?_
  refine used g1.inv ?_
  rw [s3]
  refine E_gtf ?_
  refine E_eql ?_
  refine E_ptt ?_
  refine E_gtf ?_
  refine E_gtf ?_
  refine E_nc ?_
  refine E_gtf ?_
  refine E_fad0 ?_
  refine E_gtf ?_
  refine E_ld ?_
  refine E_gtf ?_
  refine fresh ?_
  rw [s3]
  refine E_gtf ?_
  refine E_eql ?_
  refine E_ptt ?_
  rw [show decide (freshN [⟨7, 0, 2⟩] = 0) = true by decide]
  exact sm h
end Go.Proofs.YtmbfmkiagdhcoaaGreat.Bn
end
section
namespace Go.Proofs.YtmbfmkiagdhcoaaGreat.Bn
open Go Go.SL Go.Proofs Go.Proofs.YtmbfmkiagdhcoaaGreat.Sh Go.Proofs.YtmbfmkiagdhcoaaGreat.Oct Go.Proofs.YtmbfmkiagdhcoaaGreat.Disk Go.Proofs.YtmbfmkiagdhcoaaGreat.Slot Go.Proofs.YtmbfmkiagdhcoaaGreat.Pk Go.Proofs.YtmbfmkiagdhcoaaGreat.Ext
variable {B : World} {H : List Asrt} {K : Value → WT} {W : WT}
abbrev np : Value := .pointer none
attribute [local irreducible] S.pick S.ld S.ldN S.st S.box S.nc S.fad S.ixS S.ixA S.chr S.prt S.ext S.bin S.sh S.sbin S.beq S.neg1 S.com1 S.not1 S.cvt S.str1 S.lenS S.len S.cap S.lenM S.mx S.mn S.mkM S.cond S.gd S.fa S.dr S.rck S.join S.loop S.cvv S.eqv S.slc S.slcS S.b2s S.lk V U CF Gives E cel mpb osl ros dct dit itr lpo dfo
theorem whole0 {b : Value} (h : E B H (K (.tuple #[nl, binV (0, 0, []) nl, I 1]))) : E B H (CF Tryz.prog 42 [np, b] K) := by
  refine E_mono (W := s42 _ _ K) ?_ fun _ => c42
  unfold s42
  refine E_box (v := binV (0, 0, []) nl) (vs := [I 0, I 0, nl]) fun v5 => ?_
  refine E_peq0 u_pSh ?_
  refine E_tt ?_
  refine Dig.E_Vr build0 ?_
  refine E_stW (vs := [I 0, I 0, nl]) rfl rfl ?_
  refine E_ldNA ?_
  exact E_drop h
theorem head0 {b : Value} (h : E B H (K (.tuple #[binV (0, 0, []) nl, I 1]))) : E B H (CF Tryz.prog 13 [np, b] K) := by
  refine E_mono (W := s13 _ _ K) ?_ fun _ => c13
  unfold s13
  refine E_box (v := binV (0, 0, []) nl) (vs := [I 0, I 0, nl]) fun v4 => ?_
  refine whole0 ?_
  refine E_ext ?_
  refine E_ext ?_
  refine E_ext ?_
  refine E_box (v := binV (0, 0, []) nl) (vs := [I 0, I 0, nl]) fun v7 => ?_
  refine E_stW (v := binV (0, 0, []) nl) (vs := [I 0, I 0, nl]) rfl rfl ?_
  refine E_ldNA ?_
  refine E_stW (vs := [I 0, I 0, nl]) rfl rfl ?_
  refine E_ldNA ?_
  exact E_drop (E_drop h)
theorem chunk0 {b i : Value} (h : E B H (K (.tuple #[nl, I 1]))) : E B H (CF Tryz.prog 14 [np, b, i] K) := by
  refine E_mono (W := s14 _ _ _ K) ?_ fun _ => c14
  unfold s14
  refine whole0 ?_
  refine E_ext ?_
  refine E_ext ?_
  refine E_ext ?_
  refine E_box (v := binV (0, 0, []) nl) (vs := [I 0, I 0, nl]) fun v7 => ?_
  refine E_stW (v := binV (0, 0, []) nl) (vs := [I 0, I 0, nl]) rfl rfl ?_
  refine E_neq ?_
  refine E_ifT (by decide) ?_
  exact E_drop h
theorem claim0 {b x n : Int} (h : E B H (K (I 1))) : E B H (CF Tryz.prog 11 [np, plV b x n] K) := by
  refine E_mono (W := s11 _ _ K) ?_ fun _ => c11
  unfold s11
  refine E_box (v := plV b x n) (vs := [I b, I x, I n]) fun v3 => ?_
  refine E_peq0 u_pSh ?_
  refine E_tt ?_
  exact E_drop h
theorem free0 {b : Value} (h : E B H (K (I 1))) : E B H (CF Tryz.prog 12 [np, b] K) := by
  refine E_mono (W := s12 _ _ K) ?_ fun _ => c12
  unfold s12
  refine E_peq0 u_pSh ?_
  refine E_tt ?_
  exact h
theorem fresh0 (h : E B H (K (I (-1)))) : E B H (CF Tryz.prog 16 [np] K) := by
  refine E_mono (W := s16 _ K) ?_ fun _ => c16
  unfold s16
  refine E_peq0 u_pSh ?_
  refine E_tt ?_
  exact h
theorem places0 (h : E B H (K nl)) : E B H (CF Tryz.prog 18 [np] K) := by
  refine E_mono (W := s18 _ K) ?_ fun _ => c18
  unfold s18
  refine E_join1 (n := 1) [nl] H (fun q hq => ?_) ?_
  · refine E_pne0 u_pSh ?_
    refine E_ff ?_
    exact hq
  · refine E_fa fun _ => ?_
    exact h
theorem used0 (h : E B H (K (I 0))) : E B H (CF Tryz.prog 17 [np] K) := by
  refine E_mono (W := s17 _ K) ?_ fun _ => c17
  unfold s17
  refine places0 ?_
  refine E_len ?_
  refine E_loop (n := 4) (σ := Unit) (fun _ => True) (fun _ => [I 0, nl, I 0, I 0]) (fun _ => H) (fun _ => 0) () (fun _ => rfl) rfl trivial (fun W hW => hW) ?_
  intro _ K0 _ hk
  refine E_fa fun _ => ?_
  refine E_lss ?_
  refine E_ifF (by decide) ?_
  exact h
theorem binNone {b x n i : Int} (h : E B H (K (.bool true))) : E B H (CF Tryz.prog 4 [plV b x n, I i] K) := by
  refine E_mono (W := s4 _ _ K) ?_ fun _ => c4
  unfold s4
  refine E_box (v := plV b x n) (vs := [I b, I x, I n]) fun v2 => ?_
  refine seal0 ?_
  refine E_ext ?_
  refine E_ext ?_
  refine E_box (v := plV 0 0 0) (vs := [I 0, I 0, I 0]) fun v6 => ?_
  refine E_stW (v := plV 0 0 0) (vs := [I 0, I 0, I 0]) rfl rfl ?_
  refine head0 ?_
  refine E_ext ?_
  refine E_ext ?_
  refine E_box (v := binV (0, 0, []) nl) (vs := [I 0, I 0, nl]) fun v8 => ?_
  refine E_stW (v := binV (0, 0, []) nl) (vs := [I 0, I 0, nl]) rfl rfl ?_
  refine chunk0 ?_
  refine E_ext ?_
  refine E_ext ?_
  refine bnew0 ?_
  refine E_ext ?_
  refine E_ext ?_
  refine begin12 (s := 0) (f := 0) fun pb A => ?_
  refine E_ext ?_
  refine E_ext ?_
  refine E_notb ?_
  refine E_ff ?_
  refine E_par ?_
  refine E_nc ?_
  refine E_fad0 ?_
  refine E_ld ?_
  refine seal1 ?_
  refine E_ext ?_
  refine E_ext ?_
  refine E_box (v := plV 0 0 0) (vs := [I 0, I 0, I 0]) fun v16 => ?_
  refine E_stW (v := plV 0 0 0) (vs := [I 0, I 0, I 0]) rfl rfl ?_
  refine E_nc ?_
  refine E_fad0 ?_
  refine E_ld ?_
  refine bnew1 ?_
  refine E_ext ?_
  refine E_ext ?_
  refine live12 ?_
  refine E_gtf ?_
  refine E_gtf ?_
  refine E_eql ?_
  refine E_ptt ?_
  refine E_gtf ?_
  refine E_gtf ?_
  refine E_eql ?_
  refine E_ptt ?_
  refine E_gtf ?_
  refine E_gtf ?_
  refine E_eql ?_
  refine E_ptt ?_
  refine E_gtf ?_
  refine E_gtf ?_
  refine E_eql ?_
  refine E_ptt ?_
  refine E_gtf ?_
  refine E_gtf ?_
  refine E_eql ?_
  refine E_ptt ?_
  refine E_gtf ?_
  refine E_gtf ?_
  refine E_eql ?_
  refine E_ptt ?_
  refine E_gtf ?_
  refine E_gtf ?_
  refine E_ldNA ?_
  refine E_gtf ?_
  refine claim0 ?_
  refine E_gtf ?_
  refine E_eql ?_
  refine E_ptt ?_
  refine E_gtf ?_
  refine E_gtf ?_
  refine E_gtf ?_
  refine free0 ?_
  refine E_gtf ?_
  refine E_eql ?_
  refine E_ptt ?_
  refine E_gtf ?_
  refine E_gtf ?_
  refine fresh0 ?_
  refine E_gtf ?_
  refine E_eql ?_
  refine E_ptt ?_
  refine E_gtf ?_
  refine E_gtf ?_
  refine used0 ?_
  refine E_gtf ?_
  refine E_gtf ?_
  refine places0 ?_
  refine E_gtf ?_
  refine E_len ?_
  refine E_gtf ?_
  refine E_addI (by omega) (by omega) ?_
  refine E_gtf ?_
  refine E_eql ?_
  refine E_ptt ?_
  exact sm h
end Go.Proofs.YtmbfmkiagdhcoaaGreat.Bn
end
