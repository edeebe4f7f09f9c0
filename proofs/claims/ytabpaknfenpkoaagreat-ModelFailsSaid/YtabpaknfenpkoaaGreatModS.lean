/-
  Model: what each operation does, plainly.
-/
import Derived.Test.YtabpaknfenpkoaaGreatModE
set_option linter.unusedSimpArgs false
set_option linter.unusedVariables false
set_option linter.unusedSectionVars false
namespace Go.Proofs.YtabpaknfenpkoaaGreat.Mod
open Go Go.SL Go.Proofs Go.Proofs.YtabpaknfenpkoaaGreat.Sh
/-- By names, then by numbers. -/
def SrtG (V : List Ver) : Prop := V.Pairwise fun a b => a.name < b.name ∨ (a.name = b.name ∧ a.gen < b.gen)
theorem SrtG.n {V : List Ver} (h : SrtG V) : SrtN V := h.imp fun h => by
  rcases h with h | ⟨h, _⟩
  · exact List.le_of_lt h
  · rw [h]; exact List.le_refl _
theorem SrtG.uniq {V : List Ver} (h : SrtG V) {a b : Ver} (ha : a ∈ V) (hb : b ∈ V) (hn : a.name = b.name) (hg : a.gen = b.gen) : a = b := by
  induction V with
  | nil => cases ha
  | cons c t ih =>
    have hc := (List.pairwise_cons.1 h).1
    have ht := (List.pairwise_cons.1 h).2
    rcases List.mem_cons.1 ha with e1 | ha' <;> rcases List.mem_cons.1 hb with e2 | hb'
    · rw [e1, e2]
    · subst e1
      rcases hc b hb' with h1 | ⟨_, h1⟩
      · rw [hn] at h1; exact (slt_irr _ h1).elim
      · omega
    · subst e2
      rcases hc a ha' with h1 | ⟨_, h1⟩
      · rw [hn] at h1; exact (slt_irr _ h1).elim
      · omega
    · exact ih ht ha' hb'
theorem fof_srt {V : List Ver} (h : SrtG V) (k : List UInt8) : (fof V k).Pairwise fun a b => a.gen < b.gen := by
  have h1 : (fof V k).Pairwise fun a b => a.name < b.name ∨ (a.name = b.name ∧ a.gen < b.gen) := h.sublist List.filter_sublist
  refine h1.imp_of_mem fun {a b} ha hb hab => ?_
  rcases hab with h | ⟨_, h⟩
  · rw [(fof_mem.1 ha).2, (fof_mem.1 hb).2] at h; exact (slt_irr _ h).elim
  · exact h
def liveV (V : List Ver) (n : List UInt8) (g : Int) : Option Ver := ((fof V n).filter (liveP g)).getLast?
def goneV (v : Ver) : Ver := { v with gone := true }
def markV (V : List Ver) (n : List UInt8) (g : Int) : List Ver := V.map fun v => if v.name = n ∧ v.gen = g then goneV v else v
theorem mark_f (n : List UInt8) (g : Int) (v : Ver) : (if v.name = n ∧ v.gen = g then goneV v else v).name = v.name ∧ (if v.name = n ∧ v.gen = g then goneV v else v).gen = v.gen := by split <;> exact ⟨rfl, rfl⟩
theorem fof_map {V : List Ver} {f : Ver → Ver} (hf : ∀ v, (f v).name = v.name) (k : List UInt8) : fof (V.map f) k = (fof V k).map f := by
  unfold fof
  rw [List.filter_map]
  congr 1
  refine List.filter_congr fun v _ => ?_
  simp [hf]
theorem srtG_map {V : List Ver} {f : Ver → Ver} (h : SrtG V) (hf : ∀ v, (f v).name = v.name ∧ (f v).gen = v.gen) : SrtG (V.map f) := by
  unfold SrtG
  rw [List.pairwise_map]
  refine h.imp fun {a b} hab => ?_
  rw [(hf a).1, (hf b).1, (hf a).2, (hf b).2]; exact hab
theorem fof_mark {V : List Ver} (h : SrtG V) {n : List UInt8} {i : Nat} {x : Ver} (hx : (fof V n)[i]? = some x) : fof (markV V n x.gen) n = (fof V n).set i (goneV x) := by
  unfold markV
  rw [fof_map (fun v => (mark_f n x.gen v).1)]
  apply List.ext_getElem?
  intro j
  rw [List.getElem?_map, List.getElem?_set]
  obtain ⟨hi, hxe⟩ := List.getElem?_eq_some_iff.1 hx
  by_cases hij : i = j
  · subst hij
    rw [hx, if_pos rfl, if_pos hi]
    have : x.name = n := (fof_mem.1 (List.mem_of_getElem? hx)).2
    simp [this]
  · rw [if_neg hij]
    cases hj : (fof V n)[j]? with
    | none => rfl
    | some y =>
      have hp := fof_srt h n
      obtain ⟨hjl, hye⟩ := List.getElem?_eq_some_iff.1 hj
      have hne : y.gen ≠ x.gen := by
        rcases Nat.lt_or_gt_of_ne hij with hlt | hlt
        · have := List.pairwise_iff_getElem.1 hp i j hi hjl hlt
          rw [hxe, hye] at this; omega
        · have := List.pairwise_iff_getElem.1 hp j i hjl hi hlt
          rw [hxe, hye] at this; omega
      simp [hne]
theorem fof_mark_ne {V : List Ver} {n k : List UInt8} {g : Int} (hk : k ≠ n) : fof (markV V n g) k = fof V k := by
  unfold markV
  rw [fof_map (fun v => (mark_f n g v).1)]
  conv => rhs; rw [← List.map_id (fof V k)]
  refine List.map_congr_left fun v hv => ?_
  have := (fof_mem.1 hv).2
  rw [if_neg fun h => hk (this.symm.trans h.1)]; rfl
theorem sof_of {S : List Sn} (h : S.Pairwise fun a b => a.name < b.name) {s : Sn} (hs : s ∈ S) : sof S s.name = some s := by
  induction S with
  | nil => cases hs
  | cons c t ih =>
    have hc := (List.pairwise_cons.1 h).1
    unfold sof
    rw [List.find?_cons]
    rcases List.mem_cons.1 hs with e | hs'
    · subst e; simp
    · have : ¬ c.name = s.name := slt_ne (hc s hs')
      simp only [this, decide_false]
      exact ih (List.pairwise_cons.1 h).2 hs'
/-- What the program asks of a model. -/
structure Wf (M : Mo) : Prop where
  ss : M.S.Pairwise fun a b => a.name < b.name
  g : ∀ v ∈ M.V, 1 ≤ v.gen ∧ v.gen ≤ 1000000
  v : SrtG M.V
  n : M.V.length ≤ 1000000
  vt : ∀ v ∈ M.V, v.text.length ≤ 8192 ∧ 0 ≤ v.time ∧ v.time ≤ 9007199254740991
  sh : ∀ s ∈ M.S, (s.held.map (·.1)).Nodup
  se : ∀ s ∈ M.S, ∀ h ∈ s.held, ∃ v ∈ M.V, v.name = h.1 ∧ v.gen = h.2
  o : M.O.Pairwise fun a b => a.n < b.n
  ob : ∀ s ∈ M.O, s.n ≤ M.began ∧ s.text.length ≤ 8192
  ol : M.O.length ≤ 4
  b : 0 ≤ M.began ∧ M.began ≤ 1000000
  t : 0 ≤ M.now ∧ M.now ≤ 9007199254740991
  q : M.quota ≤ 9223372036854775807
theorem Wf.su {M : Mo} (h : Wf M) : SU M.S := fun _ hs => sof_of h.ss hs
theorem Wf.map {M : Mo} {f : Ver → Ver} (h : Wf M) (hf : ∀ v, (f v).name = v.name ∧ (f v).gen = v.gen ∧ (f v).text = v.text ∧ (f v).time = v.time) : Wf { M with V := M.V.map f } where
  ss := h.ss
  g := fun v hv => by obtain ⟨u, hu, rfl⟩ := List.mem_map.1 hv; rw [(hf u).2.1]; exact h.g u hu
  v := srtG_map h.v fun v => ⟨(hf v).1, (hf v).2.1⟩
  n := by simpa using h.n
  vt := fun v hv => by obtain ⟨u, hu, rfl⟩ := List.mem_map.1 hv; rw [(hf u).2.2.1, (hf u).2.2.2]; exact h.vt u hu
  sh := h.sh
  se := fun s hs p hp => by
    obtain ⟨v, hv, h1, h2⟩ := h.se s hs p hp
    exact ⟨f v, List.mem_map_of_mem hv, by rw [(hf v).1]; exact h1, by rw [(hf v).2.1]; exact h2⟩
  o := h.o
  ob := h.ob
  ol := h.ol
  b := h.b
  t := h.t
  q := h.q
theorem mark_f4 (n : List UInt8) (g : Int) (v : Ver) : (if v.name = n ∧ v.gen = g then goneV v else v).name = v.name ∧ (if v.name = n ∧ v.gen = g then goneV v else v).gen = v.gen ∧ (if v.name = n ∧ v.gen = g then goneV v else v).text = v.text ∧ (if v.name = n ∧ v.gen = g then goneV v else v).time = v.time := by split <;> exact ⟨rfl, rfl, rfl, rfl⟩
theorem lk_of {κ β : Type} [DecidableEq κ] {l : List (κ × β)} (hn : (l.map (·.1)).Nodup) {k : κ} {v : β} (hm : (k, v) ∈ l) : lk l k = some v := by
  induction l with
  | nil => cases hm
  | cons p t ih =>
    obtain ⟨k', v'⟩ := p
    show List.lookup k ((k', v') :: t) = _
    rw [List.lookup_cons]
    rcases List.mem_cons.1 hm with e | hm'
    · cases e; simp
    · have hne : ¬ k = k' := by
        have h1 := (List.nodup_cons.1 (by simpa using hn : (k' :: t.map (·.1)).Nodup)).1
        intro e; subst e
        exact h1 (List.mem_map_of_mem (f := (·.1)) hm')
      have hb : (k == k') = false := by simpa using hne
      rw [hb]
      exact ih (List.nodup_cons.1 (by simpa using hn : (k' :: t.map (·.1)).Nodup)).2 hm'
theorem lk_in {κ β : Type} [DecidableEq κ] {l : List (κ × β)} {k : κ} {v : β} (h : lk l k = some v) : (k, v) ∈ l := by
  induction l with
  | nil => cases h
  | cons p t ih =>
    obtain ⟨k', v'⟩ := p
    replace h : List.lookup k ((k', v') :: t) = _ := h
    rw [List.lookup_cons] at h
    by_cases he : k = k'
    · subst he
      simp at h
      subst h; exact List.mem_cons_self ..
    · have hb : (k == k') = false := by simpa using he
      rw [hb] at h
      exact List.mem_cons_of_mem _ (ih h)
theorem heldB_iff {M : Mo} (h : Wf M) {n : List UInt8} {g : Int} : heldB M.S n g = true ↔ ∃ s ∈ M.S, (n, g) ∈ s.held := by
  unfold heldB
  rw [List.any_eq_true]
  constructor
  · rintro ⟨s, hs, he⟩
    exact ⟨s, hs, lk_in (by simpa using he)⟩
  · rintro ⟨s, hs, he⟩
    exact ⟨s, hs, by simpa using lk_of (h.sh s hs) he⟩
theorem Wf.sweep {M : Mo} (h : Wf M) : Wf { M with V := sweepV M.S M.V } where
  ss := h.ss
  g := fun v hv => h.g v (List.mem_filter.1 hv).1
  v := h.v.sublist List.filter_sublist
  n := Nat.le_trans (List.length_filter_le _ _) h.n
  vt := fun v hv => h.vt v (List.mem_filter.1 hv).1
  sh := h.sh
  se := fun s hs p hp => by
    obtain ⟨v, hv, h1, h2⟩ := h.se s hs p hp
    refine ⟨v, List.mem_filter.2 ⟨hv, ?_⟩, h1, h2⟩
    unfold keepP
    rw [h1, h2, (heldB_iff h).2 ⟨s, hs, hp⟩, Bool.true_or]
  o := h.o
  ob := h.ob
  ol := h.ol
  b := h.b
  t := h.t
  q := h.q
def sumL (l : List Nat) : Nat := l.foldr (· + ·) 0
def sizeM (M : Mo) : Nat := sumL (M.V.map fun v => v.text.length) + sumL (M.O.map fun s => s.text.length)
def errA (e : Int) : Ans := ⟨e, 0, [], []⟩
def okA : Ans := ⟨0, 0, [], []⟩
def lostM (M : Mo) (n : Int) : Mo := { M with O := M.O.filter fun t => decide (t.n ≠ n) }
def beginM (M : Mo) (o : Od) : Ans × Mo :=
  if nameOk o.name = false then (errA 2, M) else if M.O.length = 4 then (errA 6, M)
  else (⟨0, M.began + 1, [], []⟩, { M with O := M.O ++ [⟨M.began + 1, o.name, []⟩], began := M.began + 1 })
def writeM (M : Mo) (o : Od) (sp : Bool) : Ans × Mo :=
  match oof M.O o.n with
  | none => (errA 9, M)
  | some s =>
    if 8192 < s.text.length + o.bytes.length then (errA 6, lostM M o.n)
    else if 0 < M.quota ∧ M.quota < (sizeM M + o.bytes.length : Nat) then (errA 11, lostM M o.n)
    else if sp then (errA 8, lostM M o.n)
    else (okA, { M with O := M.O.map fun t => if t.n = o.n then { t with text := t.text ++ o.bytes } else t })
def insV (V : List Ver) (v : Ver) : List Ver := V.takeWhile (fun u => decide (u.name ≤ v.name)) ++ v :: V.dropWhile fun u => decide (u.name ≤ v.name)
def topG (l : List Ver) : Int := match l.getLast? with | some v => v.gen | none => 0
def commitM (M : Mo) (o : Od) (sp : Bool) : Ans × Mo :=
  match oof M.O o.n with
  | none => (errA 9, M)
  | some s =>
    if (fof M.V s.name = [] ∧ (nms M.V).length = 64) ∨ (fof M.V s.name).length = 32 then (errA 6, lostM M o.n)
    else if sp then (errA 8, lostM M o.n)
    else (⟨0, topG (fof M.V s.name) + 1, [], []⟩, { lostM M o.n with V := insV M.V ⟨s.name, topG (fof M.V s.name) + 1, M.now, s.text, false⟩ })
def abortM (M : Mo) (o : Od) : Ans × Mo := match oof M.O o.n with | none => (errA 9, M) | some _ => (okA, lostM M o.n)
def readA (M : Mo) (o : Od) : Ans := match liveV M.V o.name o.gen with | none => errA 9 | some v => ⟨0, 0, v.text, []⟩
def cutA (M : Mo) (o : Od) : Ans := match liveV M.V o.name o.gen with
  | none => errA 9
  | some v => if o.from_ < 0 ∨ (v.text.length : Int) < o.from_ ∨ o.size < 0 then errA 2 else ⟨0, 0, (v.text.drop o.from_.toNat).take o.size.toNat, []⟩
def statA (M : Mo) (o : Od) : Ans := match liveV M.V o.name o.gen with | none => errA 9 | some v => ⟨0, v.text.length, [], []⟩
def heldG (M : Mo) (shot name : List UInt8) : Option Int := match sof M.S shot with | none => none | some s => lk s.held name
def shownA (M : Mo) (o : Od) : Ans := match heldG M o.shot o.name with
  | none => errA 9
  | some g => match (fof M.V o.name).find? fun v => decide (v.gen = g) with | none => errA 9 | some v => ⟨0, 0, v.text, []⟩
def namesV (V : List Ver) : List (List UInt8 × Int) := (nms V).filterMap fun k => (liveV V k 0).map fun v => (k, v.gen)
def removeM (M : Mo) (o : Od) : Ans × Mo := match liveV M.V o.name o.gen with
  | none => (errA 9, M)
  | some v => (okA, { M with V := sweepV M.S (markV M.V o.name v.gen) })
def insS (S : List Sn) (s : Sn) : List Sn := S.takeWhile (fun u => decide (u.name < s.name)) ++ s :: S.dropWhile fun u => decide (u.name < s.name)
def snapM (M : Mo) (o : Od) (sp : Bool) : Ans × Mo :=
  if nameOk o.shot = false then (errA 2, M) else if (sof M.S o.shot).isSome then (errA 10, M) else if M.S.length = 16 then (errA 6, M) else if sp then (errA 8, M)
  else (okA, { M with S := insS M.S ⟨o.shot, namesV M.V⟩ })
def unsnapM (M : Mo) (o : Od) : Ans × Mo :=
  if nameOk o.shot = false then (errA 2, M) else if (sof M.S o.shot).isSome = false then (errA 9, M)
  else (okA, { M with S := M.S.filter fun s => decide (s.name ≠ o.shot), V := sweepV (M.S.filter fun s => decide (s.name ≠ o.shot)) M.V })
def tickM (M : Mo) (o : Od) : Ans × Mo := if o.n < 0 ∨ 9007199254740991 - M.now < o.n then (errA 2, M) else (okA, { M with now := M.now + o.n })
def addN (l : List Int) (x : Int) : List Int := if x ∈ l then l else l ++ [x]
def liveL (V : List Ver) (n : List UInt8) : List Ver := (fof V n).filter fun v => !v.gone
/-- Does a live generation stay? -/
def staysM (M : Mo) (o : Od) (v : Ver) : Bool :=
  decide (((liveL M.V v.name).countP fun w => decide (v.gen < w.gen)) < o.last) || decide (M.now - o.young < v.time) ||
  (!((liveL M.V v.name).any fun w => decide (v.gen < w.gen) && decide (w.time / o.step = v.time / o.step)) &&
    decide ((((liveL M.V v.name).filterMap fun w => if v.time / o.step < w.time / o.step then some (w.time / o.step) else none).foldl addN []).length < o.count))
def keepOk (o : Od) : Bool := decide (0 ≤ o.last ∧ o.last ≤ 9007199254740991 ∧ 0 ≤ o.young ∧ o.young ≤ 9007199254740991 ∧ 1 ≤ o.step ∧ o.step ≤ 9007199254740991 ∧ 0 ≤ o.count ∧ o.count ≤ 9007199254740991)
def goesP (M : Mo) (o : Od) (v : Ver) : Bool := !v.gone && !staysM M o v
def expireM (M : Mo) (o : Od) : Ans × Mo := if keepOk o = false then (errA 2, M)
  else (⟨0, M.V.countP (goesP M o), [], []⟩, { M with V := sweepV M.S (M.V.map fun v => if goesP M o v then goneV v else v) })
def cleanA (o : Od) (sp : Bool) : Ans := if o.n < 0 ∨ 100 < o.n then errA 2 else if sp then errA 8 else okA
def toldA (M : Mo) (o : Od) : Ans := if o.d = 5 then readA M o else if o.d = 6 then cutA M o else if o.d = 7 then shownA M o else if o.d = 8 then statA M o else ⟨0, 0, [], namesV M.V⟩
def stepM (M : Mo) (o : Od) (sp : Bool) : Ans × Mo :=
  if o.d = 1 then beginM M o else if o.d = 2 then writeM M o sp else if o.d = 3 then commitM M o sp else if o.d = 4 then abortM M o
  else if o.d = 5 ∨ o.d = 6 ∨ o.d = 7 ∨ o.d = 8 ∨ o.d = 9 then (toldA M o, M)
  else if o.d = 10 then removeM M o else if o.d = 11 then snapM M o sp else if o.d = 12 then unsnapM M o else if o.d = 13 then tickM M o
  else if o.d = 14 then expireM M o else if o.d = 15 then (cleanA o sp, M)
  else if o.d = 16 ∨ o.d = 17 ∨ o.d = 18 ∨ o.d = 19 ∨ o.d = 20 ∨ o.d = 21 then (okA, M) else (errA 4, M)
end Go.Proofs.YtabpaknfenpkoaaGreat.Mod
