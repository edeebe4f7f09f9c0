/-
  Model: Fork of both; Fall.
-/
import Derived.Test.YtabpaknfenpkoaaGreatLwG
set_option linter.unusedSimpArgs false
set_option linter.unusedVariables false
set_option linter.unusedSectionVars false
namespace Go.SL
variable {B : World} {H : List Asrt} {K : Value → WT} {P : Program}
/-- clear of a map. -/
theorem E_dclear {κ : Type} [DecidableEq κ] {enc : κ → Value} {ts : Array TypeId} {ty t kt el r : Nat} {kv : List (κ × Value)} {H' : List Asrt} [ht : TakD H enc true r kv H'] (h0 : ts[0]? = some t) (hu : P.underlying t = some (.map kt el))
    (h : E B (dct enc true r [] :: H') (K (.tuple #[]))) : E B H (V P (Builtin.clear_ ts ty #[.map (some r)]) K) := by
  refine E_find ht.pf (E_dopen fun es cl hd => ?_)
  have h' : E B (mpb true r [] cl :: H') (K (.tuple #[])) := E_dshut ⟨rfl, by simp, by simp, by simp⟩ h
  refine E_Vok fun w hw => ?_
  have hg := sat.get hw
  refine ⟨_, _, ?_, h' _ (sat_pt_put (o' := .map #[] cl) hw)⟩
  unfold Builtin.clear_
  simp only [h0, List.getElem?_toArray, List.getElem?_cons_zero, run_bind, run_underlying' hu, run_getObj' hg (by simp), run_setMap hg, run_pure]
end Go.SL
namespace Go.Proofs.YtabpaknfenpkoaaGreat.Mod
open Go Go.SL Go.Proofs Go.Proofs.YtabpaknfenpkoaaGreat.Sh
attribute [local irreducible] S.pick S.ld S.ldN S.st S.box S.nc S.fad S.ixS S.ixA S.chr S.prt S.ext S.bin S.sh S.sbin S.beq S.neg1 S.com1 S.not1 S.cvt S.str1 S.lenS S.len S.cap S.lenM S.mx S.mn S.mkM S.cond S.gd S.fa S.dr S.rck S.join S.loop S.cvv S.eqv S.slc S.slcS S.b2s S.lk V U CF Gives E cel mpb osl ros dct dit itr lpo dfo
set_option maxRecDepth 4000
attribute [local irreducible] mo ansH rmo
variable {B : World} {H : List Asrt} {K : Value → WT} {W : WT}
variable {a : Nat} {M : Mo} {n : Int}
theorem cloneF {r : Nat} {kv : List (List UInt8 × Value)} {H' : List Asrt} [ht : TakD H kL true r kv H'] (h : ∀ r', E B (dct kL true r' kv :: dct kL true r kv :: H') (K (.map (some r')))) : E B H (CF Tryz.prog 53 [.map (some r)] K) := by
  refine E_mono (W := s53 _ K) ?_ fun _ => c53
  unfold s53
  refine E_meq u_files ?_
  refine E_ff ?_
  refine E_mclone (κ := List UInt8) (enc := kL) (kv := kv) Tryz.func86 (fun w => run_callFunc_extern Tryz.func86 (by kernel_rfl) (by kernel_rfl) (by kernel_rfl) (e := Extern.MapsClone.clone) (by kernel_rfl) _ w) fun r' => ?_
  refine E_tamap u_files ?_
  exact h r'
theorem cloneS {r : Nat} {kv : List (List UInt8 × Value)} {H' : List Asrt} [ht : TakD H kL true r kv H'] (h : ∀ r', E B (dct kL true r' kv :: dct kL true r kv :: H') (K (.map (some r')))) : E B H (CF Tryz.prog 54 [.map (some r)] K) := by
  refine E_mono (W := s54 _ K) ?_ fun _ => c54
  unfold s54
  refine E_meq u_shots ?_
  refine E_ff ?_
  refine E_mclone (κ := List UInt8) (enc := kL) (kv := kv) Tryz.func86 (fun w => run_callFunc_extern Tryz.func86 (by kernel_rfl) (by kernel_rfl) (by kernel_rfl) (e := Extern.MapsClone.clone) (by kernel_rfl) _ w) fun r' => ?_
  refine E_tamap u_shots ?_
  exact h r'
theorem cloneO {r : Nat} {kv : List (Int × Value)} {H' : List Asrt} [ht : TakD H kI true r kv H'] (h : ∀ r', E B (dct kI true r' kv :: dct kI true r kv :: H') (K (.map (some r')))) : E B H (CF Tryz.prog 55 [.map (some r)] K) := by
  refine E_mono (W := s55 _ K) ?_ fun _ => c55
  unfold s55
  refine E_meq u_sess ?_
  refine E_ff ?_
  refine E_mclone (κ := Int) (enc := kI) (kv := kv) Tryz.func86 (fun w => run_callFunc_extern Tryz.func86 (by kernel_rfl) (by kernel_rfl) (by kernel_rfl) (e := Extern.MapsClone.clone) (by kernel_rfl) _ w) fun r' => ?_
  refine E_tamap u_sess ?_
  exact h r'
theorem forkF (h : ∀ b, E B (mo b M :: mo a M :: H) (K (ptr b))) : E B (mo a M :: H) (CF Tryz.prog 15 [ptr a] K) := by
  refine E_mono (W := s15 _ K) ?_ fun _ => c15
  unfold s15
  refine E_peq u_pModel ?_
  refine E_ff ?_
  refine E_mo fun r1 r2 r3 kf ks ko Lv Lh hf hs ho => ?_
  (repeat first | refine gS ?_ | refine gA fun _ => ?_ | refine gX fun _ _ => ?_ | refine gT ?_ | refine gF ?_ | refine gI ?_)
  rename_i b
  refine cloneF fun f1 => ?_
  (repeat (refine E_rck1 (by first | exact E_ld (E_fact rfl) | exact E_ld' (by assumption) (E_fact rfl) | exact E_b2sR (E_fact rfl) | exact E_gdnF (by assumption) (E_ld (E_fact rfl)) | exact E_gdT (by assumption) (E_ld (E_fact rfl)) | exact E_gtf (E_ld (E_fact rfl)) | exact E_gft (E_ld (E_fact rfl)) | exact E_ldNA (E_fact rfl) | exact E_ptld (E_fact rfl) | exact E_gtf (E_ldNA (E_fact rfl))) ?_)); (first | (refine E_rck0 ?_) | skip)
  refine cloneS fun f2 => ?_
  (repeat (refine E_rck1 (by first | exact E_ld (E_fact rfl) | exact E_ld' (by assumption) (E_fact rfl) | exact E_b2sR (E_fact rfl) | exact E_gdnF (by assumption) (E_ld (E_fact rfl)) | exact E_gdT (by assumption) (E_ld (E_fact rfl)) | exact E_gtf (E_ld (E_fact rfl)) | exact E_gft (E_ld (E_fact rfl)) | exact E_ldNA (E_fact rfl) | exact E_ptld (E_fact rfl) | exact E_gtf (E_ldNA (E_fact rfl))) ?_)); (first | (refine E_rck0 ?_) | skip)
  refine cloneO fun f3 => ?_
  (repeat first | refine gS ?_ | refine gA fun _ => ?_ | refine gX fun _ _ => ?_ | refine gT ?_ | refine gF ?_ | refine gI ?_)
  refine fd (a := spool vC Lv) (pool_dup ?_)
  refine fd (a := dpool kL Lh) (pool_dup ?_)
  refine sm (G := cel true b 82 [.map (some f1), .map (some f2), .map (some f3), I M.began, I M.now, I M.quota] :: dct kL true f1 kf :: dct kL true f2 ks :: dct kI true f3 ko :: spool vC Lv :: dpool kL Lh :: cel true a 82 [.map (some r1), .map (some r2), .map (some r3), I M.began, I M.now, I M.quota] :: dct kL true r1 kf :: dct kL true r2 ks :: dct kI true r3 ko :: spool vC Lv :: dpool kL Lh :: H) ?_
  refine E_moS (M := M) f1 f2 f3 hf hs ho rfl rfl rfl ?_
  refine sm (G := cel true a 82 [.map (some r1), .map (some r2), .map (some r3), I M.began, I M.now, I M.quota] :: dct kL true r1 kf :: dct kL true r2 ks :: dct kI true r3 ko :: spool vC Lv :: dpool kL Lh :: mo b M :: H) ?_
  refine E_moS (M := M) r1 r2 r3 hf hs ho rfl rfl rfl ?_
  exact sm (h b)
theorem fork_nil (h : E B H (K (.pointer none))) : E B H (CF Tryz.prog 15 [.pointer none] K) := by
  refine E_mono (W := s15 _ K) ?_ fun _ => c15
  unfold s15
  refine E_peq0 u_pModel ?_
  refine E_tt ?_
  exact h
def fallM (M : Mo) : Mo := { M with O := [] }
theorem fallF (h : E B (mo a (fallM M) :: H) (K (.tuple #[]))) : E B (mo a M :: H) (CF Tryz.prog 13 [ptr a] K) := by
  refine E_mono (W := s13 _ K) ?_ fun _ => c13
  unfold s13
  refine E_pne u_pModel ?_
  refine E_tt ?_
  refine E_mo fun r1 r2 r3 kf ks ko Lv Lh hf hs ho => ?_
  (repeat first | refine gS ?_ | refine gA fun _ => ?_ | refine gX fun _ _ => ?_ | refine gT ?_ | refine gF ?_ | refine gI ?_)
  refine E_dclear (κ := Int) rfl u_sess ?_
  refine sm (G := cel true a 82 [.map (some r1), .map (some r2), .map (some r3), I M.began, I M.now, I M.quota] :: dct kL true r1 kf :: dct kL true r2 ks :: dct kI true r3 [] :: spool vC Lv :: dpool kL Lh :: H) ?_
  exact E_moS (M := fallM M) r1 r2 r3 hf hs (fun k => rfl) rfl rfl rfl h
theorem inv_fall (h : Inv n M) : Inv n (fallM M) := ⟨{ h.w with
  o := .nil
  ob := fun s hs => by cases hs
  ol := by simp [fallM] }, h.gn, h.bn, h.sw, h.nl, h.fl, h.s16, h.hh⟩
end Go.Proofs.YtabpaknfenpkoaaGreat.Mod
