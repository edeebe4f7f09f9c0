/-
  Names: NamesExpires.
-/
import Derived.Test.YtjafpncngmbcdaaGreatNnM
set_option linter.unusedSimpArgs false
set_option linter.unusedVariables false
set_option linter.unusedSectionVars false
namespace Go.Proofs.YtjafpncngmbcdaaGreat.Nam
open Go Go.SL Go.Proofs Go.Proofs.YtjafpncngmbcdaaGreat.Sh
variable {B : World} {H : List Asrt} {K : Value → WT} {W : WT} {a b : Nat} {M : Bk} {f : Fa} {rv hv mv : Value}
attribute [local irreducible] S.pick S.ld S.ldN S.st S.box S.nc S.fad S.ixS S.ixA S.chr S.prt S.ext S.bin S.sh S.sbin S.beq S.neg1 S.com1 S.not1 S.cvt S.str1 S.lenS S.len S.cap S.lenM S.mx S.mn S.mkM S.cond S.gd S.fa S.dr S.rck S.join S.loop S.cvv S.eqv S.slc S.slcS S.b2s S.lk V U CF Gives E cel mpb osl ros dct dit itr lpo dfo
set_option maxRecDepth 8000
attribute [local irreducible] bk dbk checkB stepM
theorem apply_drop {x : List UInt8 × Int} (hx : x.1.length ≤ 1000) (hw : Inv M) (h : E B (bk a (stepD M x) :: H) (K (I (checkB M (dropF x))))) : E B (bk a M :: H) (CF Tryz.prog 23 [ptr a, .agg (faL (dropF x) nil nil nil).toArray] K) := by
  have rn : ∀ {α : Type} {enc : α → List Value} (H' : List Asrt), Rs B H' nil enc [] := fun H' => ⟨fun _ => .inl ⟨rfl, rfl, rfl⟩⟩
  have i1 : Rs B H nil rfC (dropF x).refs := rn (enc := rfC) H
  have i2 : Rs B H nil hC (dropF x).held := rn (enc := hC) H
  have i3 : ∀ G, Rs B (G ++ H) nil mvC (dropF x).moves := fun G => rn (enc := mvC) _
  refine apply (f := dropF x) (hr1 := i1) (hr2 := i2) (hr3 := i3) ⟨by show x.1.length ≤ _; omega, Nat.zero_le _, Nat.zero_le _, Nat.zero_le _, fun h hh => by cases hh⟩ hw ?_
  rw [stepD_eq]
  exact h
theorem expireL_name (hw : Inv M) : ∀ x ∈ expireL M f, x.1.length ≤ 1000 := fun x hx => by
  obtain ⟨i, v, hv, _, _⟩ := expireL_mem.1 hx
  have hvV := fof_mem.1 (List.mem_filter.1 (List.mem_of_getElem? hv)).1
  have hok := hw.nm v hvV.1
  rw [hvV.2] at hok
  simp only [nameOk, decide_eq_true_eq] at hok
  omega
theorem namesExpires {v0 : Value} {l : List FV} (hl : ∀ H, Rs B H v0 faE l) (hin : ∀ p ∈ l, FIn B p) (hb : f.last ≤ 9223372036854775807 ∧ f.young ≤ 9223372036854775807 ∧ f.step ≤ 9223372036854775807 ∧ f.count ≤ 9223372036854775807) (h : E B H (K (.bool true))) :
    E B H (CF Tryz.prog 5 [v0, .agg (keepL f).toArray] K) := by
  refine E_mono (W := s5 _ _ K) ?_ fun _ => c5
  unfold s5
  refine E_box (vs := keepL f) fun b3 => ?_
  refine play hl hin fun a b => ?_
  have hw := inv_run (l.map (·.1))
  generalize runM (l.map (·.1)) = M at hw ⊢
  have hN := newestL_len hw
  (repeat first | refine gS ?_ | refine gA fun _ => ?_ | refine gX fun _ _ => ?_ | refine gT ?_ | refine gF ?_ | refine gI ?_)
  refine expire hw hb fun v28 _ => ?_
  (repeat first | refine gS ?_ | refine gA fun _ => ?_ | refine gX fun _ _ => ?_ | refine gT ?_ | refine gF ?_ | refine gI ?_)
  refine fd (a := dbk b M) (E_dbk fun fv sv L LS Pf Lv Lr Ps Lh hd => ?_)
  refine expireD hd hw hb fun v34 _ => ?_
  refine sm (G := cel true b 88 [fv.1, sv.1, I M.now] :: spool fC Pf :: spool vC Lv :: spool rfC Lr :: spool shC Ps :: spool hC Lh :: sls hC 53 2 v34 (if keepOk f = true then expireL M f else []) :: sls hC 53 2 v28 (if keepOk f = true then expireL M f else []) :: bk a M :: cel true b3 43 (keepL f) :: H) ?_
  refine E_dbkS hd rfl ?_
  have hE : ∀ j x, (if keepOk f = true then expireL M f else [])[j]? = some x → x.1.length ≤ 1000 ∧ checkB (((if keepOk f = true then expireL M f else []).take j).foldl stepD M) (dropF x) = 0 := fun j x hx => by
    by_cases hk : keepOk f = true
    · rw [if_pos hk] at hx ⊢
      exact ⟨expireL_name hw x (List.mem_of_getElem? hx), (drops hw j (by have := (List.getElem?_eq_some_iff.1 hx).1; omega)).2.2 x hx⟩
    · rw [if_neg hk] at hx; simp at hx
  have hEl : (if keepOk f = true then expireL M f else []).length ≤ 2048 := by
    split
    · exact expireL_len hw f
    · exact Nat.zero_le _
  have hend : (if keepOk f = true then expireL ((if keepOk f = true then expireL M f else []).foldl stepD M) f else []) = [] ∧ (1 ≤ f.last → newestL ((if keepOk f = true then expireL M f else []).foldl stepD M) = newestL M) := by
    by_cases hk : keepOk f = true
    · rw [if_pos hk, if_pos hk]
      obtain ⟨h1, h2, _⟩ := drops (f := f) hw (expireL M f).length (Nat.le_refl _)
      rw [List.take_length] at h1 h2
      exact ⟨expire_none hw h1 h2, fun hlast => newestL_eq hw (hw.fold _) (newG_drop hlast h2 hw)⟩
    · rw [if_neg hk, if_neg hk]
      exact ⟨rfl, fun _ => rfl⟩
  generalize (if keepOk f = true then expireL M f else []) = E0 at hE hEl hend ⊢
  generalize (if keepOk f = true then (0 : Int) else 2) = ee
  (repeat first | refine gS ?_ | refine gA fun _ => ?_)
  refine E_join1 [ptr b3, ptr a, v28, .bool false] (bk a M :: dbk b M :: sls hC 53 2 v28 E0 :: cel true b3 43 (keepL f) :: H) (fun q hq => ?_) ?_
  · (repeat first | refine gS ?_ | refine gA fun _ => ?_)
    refine sameHeld (l := E0) (by omega) ?_
    (repeat first | refine gS ?_ | refine gA fun _ => ?_)
    rw [decide_eq_false (by simp : ¬ ee ≠ ee)]
    (repeat first | refine gS ?_ | refine gA fun _ => ?_)
    refine sm (G := bk a M :: dbk b M :: sls hC 53 2 v28 E0 :: cel true b3 43 (keepL f) :: H) ?_
    refine alike hw ?_
    (repeat first | refine gS ?_ | refine gA fun _ => ?_)
    exact sm hq
  refine E_fa fun _ => ?_
  refine E_ff ?_
  refine newestAll hw fun v12 _ => ?_
  refine E_loop (n := 5) (σ := Nat) (fun j => j ≤ E0.length) (fun j => [ptr b3, ptr a, v28, v12, I j]) (fun j => bk a ((E0.take j).foldl stepD M) :: sls hC 53 2 v28 E0 :: sls hC 53 2 v12 (newestL M) :: cel true b3 43 (keepL f) :: H) (fun j => E0.length - j) 0 (fun _ => rfl) rfl (Nat.zero_le _) (fun W hW => by
    rw [List.take_zero, List.foldl_nil] at hW
    exact sm hW) ?_
  rintro j K0 hj hk0
  refine E_fa fun _ => ?_
  refine E_rslen (v := v28) (l := E0) ?_
  refine E_lss ?_
  refine E_if (fun hc => ?_) (fun hc => ?_)
  · have hx : E0[j]? = some E0[j] := List.getElem?_eq_getElem (by omega)
    generalize E0[j] = x at hx
    obtain ⟨hx1, hx2⟩ := hE j x hx
    (repeat first | refine gS ?_ | refine gA fun _ => ?_ | refine gX fun _ _ => ?_ | refine gT ?_ | refine gF ?_ | refine gI ?_)
    refine E_build (l := faL (dropF x) nil nil nil) str_fact ?_
    refine apply_drop hx1 (hw.fold _) ?_
    rw [hx2]
    refine E_neq ?_
    refine E_ifF (by decide) ?_
    refine E_addI (by omega) (by omega) ?_
    have hk1 := hk0 (j + 1) (by omega) (by omega)
    rw [List.take_add_one, hx, List.foldl_append, Option.toList_some, List.foldl_cons, List.foldl_nil] at hk1
    exact sm hk1
  · have hje : j = E0.length := by omega
    rw [hje, List.take_length]
    have hw' := hw.fold E0
    obtain ⟨he1, he2⟩ := hend
    generalize E0.foldl stepD M = M' at hw' he1 he2 ⊢
    (repeat first | refine gS ?_ | refine gA fun _ => ?_ | refine gX fun _ _ => ?_ | refine gT ?_ | refine gF ?_ | refine gI ?_)
    refine expire hw' hb fun v77 _ => ?_
    rw [he1]
    (repeat first | refine gS ?_ | refine gA fun _ => ?_ | refine gX fun _ _ => ?_ | refine gT ?_ | refine gF ?_ | refine gI ?_)
    refine alive ?_
    (repeat first | refine gS ?_ | refine gA fun _ => ?_ | refine gX fun _ _ => ?_ | refine gT ?_ | refine gF ?_ | refine gI ?_)
    (repeat first | refine gS ?_ | refine gA fun _ => ?_ | refine gX fun _ _ => ?_ | refine gT ?_ | refine gF ?_ | refine gI ?_)
    by_cases hlast : f.last < 1
    · rw [decide_eq_true hlast]
      (repeat first | refine gS ?_ | refine gA fun _ => ?_ | refine gX fun _ _ => ?_ | refine gT ?_ | refine gF ?_ | refine gI ?_)
      exact sm h
    · rw [decide_eq_false hlast]
      (repeat first | refine gS ?_ | refine gA fun _ => ?_ | refine gX fun _ _ => ?_ | refine gT ?_ | refine gF ?_ | refine gI ?_)
      refine fd (a := bk a M') (newestAll hw' fun v91 _ => ?_)
      rw [he2 (by omega)]
      (repeat first | refine gS ?_ | refine gA fun _ => ?_ | refine gX fun _ _ => ?_ | refine gT ?_ | refine gF ?_ | refine gI ?_)
      refine sameHeld (l := newestL M) (by omega) ?_
      (repeat first | refine gS ?_ | refine gA fun _ => ?_ | refine gX fun _ _ => ?_ | refine gT ?_ | refine gF ?_ | refine gI ?_)
      exact sm h
end Go.Proofs.YtjafpncngmbcdaaGreat.Nam
