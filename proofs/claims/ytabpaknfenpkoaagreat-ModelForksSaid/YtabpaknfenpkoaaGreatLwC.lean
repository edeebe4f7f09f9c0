/-
  Model: live.
-/
import Derived.Test.YtabpaknfenpkoaaGreatLwB
set_option linter.unusedSimpArgs false
set_option linter.unusedVariables false
set_option linter.unusedSectionVars false
namespace Go.Proofs.YtabpaknfenpkoaaGreat.Mod
open Go Go.SL Go.Proofs Go.Proofs.YtabpaknfenpkoaaGreat.Sh
attribute [local irreducible] S.pick S.ld S.ldN S.st S.box S.nc S.fad S.ixS S.ixA S.chr S.prt S.ext S.bin S.sh S.sbin S.beq S.neg1 S.com1 S.not1 S.cvt S.str1 S.lenS S.len S.cap S.lenM S.mx S.mn S.mkM S.cond S.gd S.fa S.dr S.rck S.join S.loop S.cvv S.eqv S.slc S.slcS S.b2s S.lk V U CF Gives E cel mpb osl ros dct dit itr lpo dfo
set_option maxRecDepth 4000
attribute [local irreducible] mo ansH rmo
variable {B : World} {H : List Asrt} {K : Value → WT} {W : WT}
theorem elt_byte : Elt Tryz.prog 5 1 1 [.int .u8 0] := elt_of (zv := .int .u8 0) (by kernel_rfl) rfl rfl
def o1 : Od := ⟨1, 0, [97], [], 0, 0, 0, [], 0, 0, 0, 0⟩
def o2 : Od := ⟨2, 1, [], [], 0, 0, 0, [120, 121], 0, 0, 0, 0⟩
def o3 : Od := ⟨3, 1, [], [], 0, 0, 0, [], 0, 0, 0, 0⟩
def o4 : Od := ⟨6, 0, [97], [], 0, 1, 9, [], 0, 0, 0, 0⟩
def m1 : Mo := ⟨[], [], [⟨1, [97], []⟩], 1, 0, 0⟩
def m2 : Mo := ⟨[], [], [⟨1, [97], [120, 121]⟩], 1, 0, 0⟩
def m3 : Mo := ⟨[⟨[97], 1, 0, [120, 121], false⟩], [], [], 1, 0, 0⟩
theorem st1 : stepM (newM 0) o1 false = (⟨0, 1, [], []⟩, m1) := by kernel_rfl
theorem st2 : stepM m1 o2 false = (okA, m2) := by kernel_rfl
theorem st3 : stepM m2 o3 false = (⟨0, 1, [], []⟩, m3) := by kernel_rfl
theorem st4 : stepM m3 o4 false = (⟨0, 0, [121], []⟩, m3) := by kernel_rfl
theorem i1 : Inv 1 m1 := by
  have := inv_step (o := o1) (sp := false) (inv_new (q := 0) (by decide)) (by decide) (by decide)
  rw [st1] at this; exact this
theorem i2 : Inv 2 m2 := by
  have := inv_step (o := o2) (sp := false) i1 (by decide) (by decide)
  rw [st2] at this; exact this
theorem i3 : Inv 3 m3 := by
  have := inv_step (o := o3) (sp := false) i2 (by decide) (by decide)
  rw [st3] at this; exact this
theorem liveF (h : E B H (K (.bool true))) : E B H (CF Tryz.prog 11 [] K) := by
  refine E_mono (W := s11 K) ?_ fun _ => c11
  unfold s11
  refine new fun a => ?_
  refine E_peq u_pModel ?_
  refine E_ff ?_
  refine E_build (l := [I 1, I 0, str [97], .string ⟨#[]⟩, I 0, I 0, I 0, nil, I 0, I 0, I 0, I 0, nil, I 0, I 0]) str_op ?_
  refine sls_nil cB 1 (T := 5) ?_
  refine fd (a := mo a (newM 0)) ?_
  have i0 := inv_new (q := 0) (by decide)
  refine do_ (o := o1) (sp := false) (bv := nil) (kv := nil) (t := 0) (u := 0) i0.w i0.sw (by simp [o1]) (by simp [o1]) (by simp [o1]) fun rv => ?_
  rw [st1]
  refine ans_open fun b1 h1 _ _ e => ?_
  subst e
  (repeat first | refine gS ?_ | refine gA fun _ => ?_ | refine gX fun _ _ => ?_ | refine gT ?_ | refine gF ?_ | refine gI ?_)
  rename_i ba
  refine E_bsl [(0, 1), (1, 1)] u_bytes elt_byte (by simp) (by decide) (l0 := [.int .u8 0, .int .u8 0]) rfl fun bx => ?_
  refine E_cvslice u_bytes u_byte ?_
  refine E_slsC (enc := cB) [120, 121] 2 rfl rfl ?_
  refine E_build (l := [I 2, I 1, .string ⟨#[]⟩, .string ⟨#[]⟩, I 0, I 0, I 0, .slice (some ⟨bx, 0, none⟩) 2 2, I 0, I 0, I 0, I 0, nil, I 0, I 0]) str_op ?_
  refine fd (a := mo a m1) ?_
  refine do_ (o := o2) (sp := false) (bv := .slice (some ⟨bx, 0, none⟩) 2 2) (kv := nil) (t := 0) (u := 0) i1.w i1.sw (by simp [o2]) (by simp [o2]) (by simp [o2]) fun rv => ?_
  rw [st2]
  refine ans_open fun b2 h2 _ _ e => ?_
  subst e
  (repeat first | refine gS ?_ | refine gA fun _ => ?_ | refine gX fun _ _ => ?_ | refine gT ?_ | refine gF ?_ | refine gI ?_)
  refine E_build (l := [I 3, I 1, .string ⟨#[]⟩, .string ⟨#[]⟩, I 0, I 0, I 0, nil, I 0, I 0, I 0, I 0, nil, I 0, I 0]) str_op ?_
  refine sls_nil cB 1 (T := 5) ?_
  refine fd (a := mo a m2) ?_
  refine do_ (o := o3) (sp := false) (bv := nil) (kv := nil) (t := 0) (u := 0) i2.w i2.sw (by simp [o3]) (by simp [o3]) (by simp [o3]) fun rv => ?_
  rw [st3]
  refine ans_open fun b3 h3 _ _ e => ?_
  subst e
  (repeat first | refine gS ?_ | refine gA fun _ => ?_ | refine gX fun _ _ => ?_ | refine gT ?_ | refine gF ?_ | refine gI ?_)
  refine E_build (l := [I 6, I 0, str [97], .string ⟨#[]⟩, I 0, I 1, I 9, nil, I 0, I 0, I 0, I 0, nil, I 0, I 0]) str_op ?_
  refine sls_nil cB 1 (T := 5) ?_
  refine fd (a := mo a m3) ?_
  refine do_ (o := o4) (sp := false) (bv := nil) (kv := nil) (t := 0) (u := 0) i3.w i3.sw (by simp [o4]) (by simp [o4]) (by simp [o4]) fun rv => ?_
  rw [st4]
  refine ans_open fun b4 h4 _ _ e => ?_
  subst e
  (repeat first | refine gS ?_ | refine gA fun _ => ?_ | refine gX fun _ _ => ?_ | refine gT ?_ | refine gF ?_ | refine gI ?_)
  refine E_b2sR (bs := [121]) ?_
  (repeat first | refine gS ?_ | refine gA fun _ => ?_ | refine gX fun _ _ => ?_ | refine gT ?_ | refine gF ?_ | refine gI ?_)
  exact sm h
end Go.Proofs.YtabpaknfenpkoaaGreat.Mod
