/-
  Names: the law's comparisons.
-/
import Derived.Test.YtjafpncngmbcdaaGreatNnG
set_option linter.unusedSimpArgs false
set_option linter.unusedVariables false
set_option linter.unusedSectionVars false
namespace Go.Proofs.YtjafpncngmbcdaaGreat.Nam
open Go Go.SL Go.Proofs Go.Proofs.YtjafpncngmbcdaaGreat.Sh
variable {B : World} {H : List Asrt} {K : Value → WT} {W : WT} {a b : Nat} {M : Bk} {f : Fa}
variable {fv sv : Cv} {L : List FC} {LS : List SC} {Pf : List (Value × List FC)} {Lv : List (Value × List VR)} {Lr : List (Value × List Rf)} {Ps : List (Value × List SC)} {Lh : List (Value × List (List UInt8 × Int))}
theorem eq_ref (r : Rf) (w : World) : (Op.equal 38 (.agg (rfC r).toArray) (.agg (rfC r).toArray)).run Tryz.prog w = .ok true w := by
  have hc := (eqV_int (P := Tryz.prog) (a := r.len) (b := r.len) u_int).1
  have h := eqg_struct (P := Tryz.prog) (n := 2) (t := 38) (xs := rfC r) (ys := rfC r) (bs := [decide (r.sum.1 = r.sum.1), decide (r.len = r.len), decide (r.bin = r.bin), decide (r.slot = r.slot)]) [(36, 0), (3, 32), (3, 33), (3, 34)] (by kernel_rfl) (by kernel_rfl) (by kernel_rfl) rfl (fun i t o b'' h1 h2 => by
    match i, h1, h2 with
    | 0, h1, h2 =>
      cases h1; cases h2
      have hb : ((rfC r).drop 0).take 32 = bcs r.sum.1 := by
        rw [List.drop_zero]; unfold rfC
        rw [List.take_left' (by simp [r.sum.2])]
      exact ⟨_, _, partG_agg (n := 32) (by kernel_rfl) (by kernel_rfl) hb, partG_agg (n := 32) (by kernel_rfl) (by kernel_rfl) hb, eqg_bytes (n := 32) (e := 5) (by kernel_rfl) u_byte (fun w => by kernel_rfl) r.sum.2 r.sum.2⟩
    | 1, h1, h2 => cases h1; cases h2; exact ⟨_, _, partG_cell hc (by rw [List.getElem?_toArray]; exact rfC_at r 0), partG_cell hc (by rw [List.getElem?_toArray]; exact rfC_at r 0), (eqV_int u_int).g.up (by decide)⟩
    | 2, h1, h2 => cases h1; cases h2; exact ⟨_, _, partG_cell hc (by rw [List.getElem?_toArray]; exact rfC_at r 1), partG_cell hc (by rw [List.getElem?_toArray]; exact rfC_at r 1), (eqV_int u_int).g.up (by decide)⟩
    | 3, h1, h2 => cases h1; cases h2; exact ⟨_, _, partG_cell hc (by rw [List.getElem?_toArray]; exact rfC_at r 2), partG_cell hc (by rw [List.getElem?_toArray]; exact rfC_at r 2), (eqV_int u_int).g.up (by decide)⟩
    | n + 4, h1, h2 => simp at h1)
  have := h.equal (by decide) w
  simpa using this
attribute [local irreducible] S.pick S.ld S.ldN S.st S.box S.nc S.fad S.ixS S.ixA S.chr S.prt S.ext S.bin S.sh S.sbin S.beq S.neg1 S.com1 S.not1 S.cvt S.str1 S.lenS S.len S.cap S.lenM S.mx S.mn S.mkM S.cond S.gd S.fa S.dr S.rck S.join S.loop S.cvv S.eqv S.slc S.slcS S.b2s S.lk V U CF Gives E cel mpb osl ros dct dit itr lpo dfo
set_option maxRecDepth 8000
attribute [local irreducible] bk dbk
theorem sameRefs {x y : Value} {l : List Rf} [hx : Rs B H x rfC l] [hy : Rs B H y rfC l] (hn : l.length ≤ 1000000) (h : E B H (K (.bool true))) : E B H (CF Tryz.prog 25 [x, y] K) := by
  refine E_mono (W := s25 _ _ K) ?_ fun _ => c25
  unfold s25
  refine E_rslen (v := x) (l := l) ?_
  refine E_rslen (v := y) (l := l) ?_
  refine E_neq ?_
  refine E_ifF (by simp) ?_
  refine E_loop (n := 3) (σ := Nat) (fun i => i ≤ l.length) (fun i => [x, y, I i]) (fun _ => H) (fun i => l.length - i) 0 (fun _ => rfl) rfl (Nat.zero_le _) (fun W hW => hW) ?_
  rintro i K0 hi hk0
  refine E_fa fun _ => ?_
  refine E_rslen (v := x) (l := l) ?_
  refine E_lss ?_
  refine E_if (fun hc => ?_) (fun hc => ?_)
  · have hz : l[i]? = some l[i] := List.getElem?_eq_getElem (by omega)
    generalize l[i] = z at hz
    refine E_dr ?_
    refine E_rsix (v := x) (l := l) hz fun _ _ => ?_
    refine E_ptldA ?_
    refine E_rsix (v := y) (l := l) hz fun _ _ => ?_
    refine E_ptldA ?_
    refine E_ane (b := true) (by kernel_rfl) (fun w => eq_ref z w) ?_
    refine E_ff ?_
    refine E_addI (by omega) (by omega) ?_
    exact hk0 (i + 1) (by omega) (by omega)
  · exact h
theorem sameHeld {x y : Value} {l : List (List UInt8 × Int)} [hx : Rs B H x hC l] [hy : Rs B H y hC l] (hn : l.length ≤ 1000000) (h : E B H (K (.bool true))) : E B H (CF Tryz.prog 20 [x, y] K) := by
  refine E_mono (W := s20 _ _ K) ?_ fun _ => c20
  unfold s20
  refine E_rslen (v := x) (l := l) ?_
  refine E_rslen (v := y) (l := l) ?_
  refine E_neq ?_
  refine E_ifF (by simp) ?_
  refine E_loop (n := 3) (σ := Nat) (fun i => i ≤ l.length) (fun i => [x, y, I i]) (fun _ => H) (fun i => l.length - i) 0 (fun _ => rfl) rfl (Nat.zero_le _) (fun W hW => hW) ?_
  rintro i K0 hi hk0
  refine E_fa fun _ => ?_
  refine E_rslen (v := x) (l := l) ?_
  refine E_lss ?_
  refine E_if (fun hc => ?_) (fun hc => ?_)
  · have hz : l[i]? = some l[i] := List.getElem?_eq_getElem (by omega)
    generalize l[i] = z at hz
    refine E_dr ?_
    refine E_rsix (v := x) (l := l) hz fun _ _ => ?_
    refine E_ptldA ?_
    refine E_rsix (v := y) (l := l) hz fun _ _ => ?_
    refine E_ptldA ?_
    refine E_ane (xs := (hC z).toArray) (ys := (hC z).toArray) (b := true) (by kernel_rfl) (fun w => by rw [show (true : Bool) = decide (z = z) by simp]; exact eq_held z z w) ?_
    refine E_ff ?_
    refine E_addI (by omega) (by omega) ?_
    exact hk0 (i + 1) (by omega) (by omega)
  · exact h
theorem sameVersion {g t : Int} {o : Bool} {x y : Value} {l : List Rf} [CellI x] [CellI y] (hx : ∀ G, Rs B (G ++ H) x rfC l) (hy : ∀ G, Rs B (G ++ H) y rfC l) (hn : l.length ≤ 1000000) (h : E B H (K (.bool true))) :
    E B H (CF Tryz.prog 15 [.agg #[I g, I t, x, .bool o], .agg #[I g, I t, y, .bool o]] K) := by
  refine E_mono (W := s15 _ _ K) ?_ fun _ => c15
  unfold s15
  refine E_box (vs := [I g, I t, x, .bool o]) fun b2 => ?_
  refine E_box (vs := [I g, I t, y, .bool o]) fun b3 => ?_
  have i1 : Rs B (cel true b3 31 [I g, I t, y, .bool o] :: cel true b2 31 [I g, I t, x, .bool o] :: H) x rfC l := hx [_, _]
  have i2 : Rs B (cel true b3 31 [I g, I t, y, .bool o] :: cel true b2 31 [I g, I t, x, .bool o] :: H) y rfC l := hy [_, _]
  (repeat first | refine gS ?_ | refine gA fun _ => ?_ | refine gX fun _ _ => ?_ | refine gT ?_ | refine gF ?_ | refine gI ?_)
  rw [decide_eq_true (rfl : g = g)]
  (repeat first | refine gS ?_ | refine gA fun _ => ?_ | refine gX fun _ _ => ?_ | refine gT ?_ | refine gF ?_ | refine gI ?_)
  rw [decide_eq_true (rfl : t = t)]
  (repeat first | refine gS ?_ | refine gA fun _ => ?_ | refine gX fun _ _ => ?_ | refine gT ?_ | refine gF ?_ | refine gI ?_)
  refine gY ?_
  rw [beq_self_eq_true]
  (repeat first | refine gS ?_ | refine gA fun _ => ?_ | refine gX fun _ _ => ?_ | refine gT ?_ | refine gF ?_ | refine gI ?_)
  refine sameRefs (l := l) hn ?_
  (repeat first | refine gS ?_ | refine gA fun _ => ?_ | refine gX fun _ _ => ?_ | refine gT ?_ | refine gF ?_ | refine gI ?_)
  exact sm h
end Go.Proofs.YtjafpncngmbcdaaGreat.Nam
