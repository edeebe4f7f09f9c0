/-
  Maps as lists of keys and values.
-/
import Derived.Test.YtfholicobkpilaaSlRb
set_option linter.unusedSimpArgs false
set_option linter.unusedVariables false
set_option linter.unusedSectionVars false
namespace Go.SL
open Go.RowKit
variable {B : World} {H : List Asrt} {K : Value → WT} {P : Program}

/-- Keys that are ints or strings. -/
class KEnc {κ : Type} [DecidableEq κ] (kd : outParam TypeDesc) (enc : κ → Value) : Prop where
  same : ∀ a b, Instr.sameNow kd (enc a) (enc b) = some (decide (a = b))
  bits : ∀ a, Instr.sameBits 10000 (enc a) (enc a) = true
  inj : ∀ a b, enc a = enc b → a = b
abbrev kI : Int → Value := Value.int .i64
abbrev kS : ByteArray → Value := Value.string
instance : KEnc (.int .i64) kI := ⟨fun a b => by simp [kI, Instr.sameNow, BEq.beq], fun a => by simp [kI, Instr.sameBits], fun a b h => by simpa [kI] using h⟩
instance : KEnc .string kS := ⟨fun a b => by
  simp only [kS, Instr.sameNow, Option.some.injEq]
  by_cases h : a = b
  · rw [(ba_beq a b).2 h]; simp [h]
  · have : (a == b) = false := by rw [← Bool.not_eq_true]; intro h'; exact h ((ba_beq a b).1 h')
    rw [this]; simp [h], fun a => by simp only [kS]; exact sameBits_str a, fun a b h => by simpa [kS] using h⟩

section
variable {κ : Type} [DecidableEq κ]
def eKV (enc : κ → Value) (p : κ × Value) : Value × Value := (enc p.1, p.2)
structure DOk (enc : κ → Value) (es : List MapEntry) (cl : Nat) (kv : List (κ × Value)) : Prop where
  kvs : es.map (fun e => (e.key, e.val)) = kv.map (eKV enc)
  nod : (kv.map (·.1)).Nodup
  born : (es.map (·.born)).Nodup
  lt : ∀ e ∈ es, e.born < cl
/-- Block r is a map with just these keys and values (in this order, which no code sees). -/
def dct (enc : κ → Value) (o : Bool) (r : Nat) (kv : List (κ × Value)) : Asrt := ex fun es => ex fun cl => all [mpb o r es cl, pur (DOk enc es cl kv)]
def dput (kv : List (κ × Value)) (k : κ) (v : Value) : List (κ × Value) := if (kv.lookup k).isSome then kv.map (fun p => if p.1 = k then (k, v) else p) else kv ++ [(k, v)]
def ddel (kv : List (κ × Value)) (k : κ) : List (κ × Value) := kv.filter fun p => decide (p.1 ≠ k)

/-! ### plain facts of such lists -/
theorem map_eraseIdx' {α β : Type} (f : α → β) : ∀ (l : List α) (n : Nat), (l.eraseIdx n).map f = (l.map f).eraseIdx n
  | [], n => by simp
  | a :: l, 0 => by simp
  | a :: l, n + 1 => by simp [map_eraseIdx' f l n]
theorem not_isSome {α : Type} {o : Option α} (h : ¬ o.isSome = true) : o = none := by cases o <;> simp_all
theorem lookup_mem {kv : List (κ × Value)} {k : κ} {v : Value} (h : kv.lookup k = some v) : (k, v) ∈ kv := by
  induction kv with
  | nil => simp at h
  | cons p kv ih =>
    obtain ⟨a, b⟩ := p
    rw [List.lookup_cons] at h
    by_cases hk : k = a
    · subst hk; simp at h; subst h; simp
    · have : (k == a) = false := by simpa using hk
      rw [this] at h; exact List.mem_cons_of_mem _ (ih h)
theorem lookup_none {kv : List (κ × Value)} {k : κ} : kv.lookup k = none ↔ k ∉ kv.map (·.1) := by
  induction kv with
  | nil => simp
  | cons p kv ih =>
    obtain ⟨a, b⟩ := p
    rw [List.lookup_cons]
    by_cases hk : k = a
    · subst hk; simp
    · have : (k == a) = false := by simpa using hk
      rw [this, ih]; simp [hk]
theorem lookup_of_mem {kv : List (κ × Value)} {k : κ} {v : Value} (hn : (kv.map (·.1)).Nodup) (h : (k, v) ∈ kv) : kv.lookup k = some v := by
  induction kv with
  | nil => cases h
  | cons p kv ih =>
    obtain ⟨a, b⟩ := p
    simp only [List.map_cons, List.nodup_cons] at hn
    rw [List.lookup_cons]
    rcases List.mem_cons.1 h with h | h
    · cases h; simp
    · have : k ≠ a := fun e => hn.1 (e ▸ List.mem_map.2 ⟨_, h, rfl⟩)
      have : (k == a) = false := by simpa using this
      rw [this]; exact ih hn.2 h
theorem dput_keys {kv : List (κ × Value)} {k : κ} {v : Value} : (dput kv k v).map (·.1) = if (kv.lookup k).isSome then kv.map (·.1) else kv.map (·.1) ++ [k] := by
  unfold dput
  split
  · rw [List.map_map]; apply List.map_congr_left; intro p _; simp only [Function.comp]; split <;> simp_all
  · simp
theorem dput_nodup {kv : List (κ × Value)} {k : κ} {v : Value} (hn : (kv.map (·.1)).Nodup) : ((dput kv k v).map (·.1)).Nodup := by
  rw [dput_keys]
  split
  · exact hn
  · rename_i h
    have h0 : kv.lookup k = none := not_isSome h
    rw [lookup_none] at h0
    rw [List.nodup_append]
    exact ⟨hn, by simp, fun a ha b hb => by simp at hb; subst hb; exact fun e => h0 (e ▸ ha)⟩
theorem ddel_nodup {kv : List (κ × Value)} {k : κ} (hn : (kv.map (·.1)).Nodup) : ((ddel kv k).map (·.1)).Nodup := hn.sublist ((List.filter_sublist).map _)
theorem lookup_dput {kv : List (κ × Value)} {k k' : κ} {v : Value} : (dput kv k v).lookup k' = if k' = k then some v else kv.lookup k' := by
  unfold dput
  split
  · rename_i h
    induction kv with
    | nil => simp at h
    | cons p kv ih =>
      obtain ⟨a, b⟩ := p
      rw [List.map_cons]
      by_cases ha : a = k
      · subst ha
        simp only [if_true, List.lookup_cons]
        by_cases hk : k' = a
        · subst hk; simp
        · have : (k' == a) = false := by simpa using hk
          rw [this, if_neg hk]
          clear ih h
          show List.lookup k' (List.map (fun p => if p.fst = a then (a, v) else p) kv) = List.lookup k' kv
          induction kv with
          | nil => simp
          | cons q kv ih =>
            obtain ⟨c, d⟩ := q
            rw [List.map_cons]
            by_cases hc : c = a
            · subst hc; simp only [if_true, List.lookup_cons, this]; exact ih
            · simp only [if_neg hc, List.lookup_cons]
              rw [ih]
      · simp only [if_neg ha, List.lookup_cons]
        have : (k == a) = false := by simpa using (Ne.symm ha)
        rw [List.lookup_cons, this] at h
        rw [ih h]
        by_cases hk : k' = k
        · subst hk; simp [this]
        · simp [hk]
  · rename_i h
    have h0 : kv.lookup k = none := not_isSome h
    rw [List.lookup_append]
    by_cases hk : k' = k
    · subst hk; simp [h0]
    · have : (k' == k) = false := by simpa using hk
      simp [hk, List.lookup_cons, this]
theorem lookup_ddel {kv : List (κ × Value)} {k k' : κ} : (ddel kv k).lookup k' = if k' = k then none else kv.lookup k' := by
  induction kv with
  | nil => simp [ddel]
  | cons p kv ih =>
    obtain ⟨a, b⟩ := p
    unfold ddel at *
    by_cases ha : a = k
    · subst ha
      simp only [ne_eq, not_true_eq_false, decide_false, List.filter_cons, Bool.false_eq_true, if_false] at *
      rw [ih]
      by_cases hk : k' = a
      · simp [hk]
      · have : (k' == a) = false := by simpa using hk
        simp [hk, List.lookup_cons, this]
    · have : decide (a ≠ k) = true := by simpa using ha
      rw [List.filter_cons, if_pos this, List.lookup_cons, List.lookup_cons, ih]
      by_cases hk : k' = a
      · subst hk; simp [ha]
      · have : (k' == a) = false := by simpa using hk
        rw [this]

/-! ### the rules -/
variable {kd : TypeDesc} {enc : κ → Value}
theorem findNow_d [hE : KEnc kd enc] (k : κ) : ∀ (es : List MapEntry) (kv : List (κ × Value)) (i : Nat), es.map (fun e => (e.key, e.val)) = kv.map (eKV enc) →
    (kv.lookup k = none → Instr.findNow kd (enc k) es i = some none) ∧
    (∀ v, kv.lookup k = some v → ∃ n, Instr.findNow kd (enc k) es i = some (some (i + n, v)) ∧ ∃ s t, kv = s ++ (k, v) :: t ∧ s.length = n ∧ k ∉ s.map (·.1))
  | [], kv, i, h => by
    have : kv = [] := by simpa using h.symm
    subst this
    exact ⟨fun _ => rfl, fun v hv => by simp at hv⟩
  | e :: es, [], i, h => by simp at h
  | e :: es, (a, b) :: kv, i, h => by
    simp only [List.map_cons, List.cons.injEq, eKV, Prod.mk.injEq] at h
    obtain ⟨⟨h1, h2⟩, h3⟩ := h
    obtain ⟨ih1, ih2⟩ := findNow_d k es kv (i + 1) h3
    have hs : Instr.sameNow kd (enc k) e.key = some (decide (k = a)) := by rw [h1]; exact hE.same k a
    by_cases hk : k = a
    · subst hk
      simp only [decide_true] at hs
      refine ⟨fun hn => by simp at hn, fun v hv => ⟨0, ?_, [], kv, ?_, rfl, by simp⟩⟩
      · simp only [Instr.findNow, hs]
        simp at hv; subst hv; simp [h2]
      · simp at hv; subst hv; rfl
    · have : (k == a) = false := by simpa using hk
      simp only [hk, decide_false] at hs
      refine ⟨fun hn => ?_, fun v hv => ?_⟩
      · rw [List.lookup_cons, this] at hn
        simp only [Instr.findNow, hs]; exact ih1 hn
      · rw [List.lookup_cons, this] at hv
        obtain ⟨n, hn, s, t, hst, hsl, hns⟩ := ih2 v hv
        refine ⟨n + 1, ?_, (a, b) :: s, t, by rw [hst]; rfl, by simp [hsl], by simpa [hk] using hns⟩
        simp only [Instr.findNow, hs, hn]
        congr 3; omega
class TakD (H : List Asrt) (enc : outParam (κ → Value)) (o : outParam Bool) (r : Nat) (kv : outParam (List (κ × Value))) (H' : outParam (List Asrt)) : Prop where
  pf : Find H (dct enc o r kv) H'
instance (priority := high) takD_here {enc : κ → Value} {o r kv H} : TakD (dct enc o r kv :: H) enc o r kv H := ⟨.here⟩
instance takD_there {enc : κ → Value} {a o r kv H H'} [h : TakD H enc o r kv H'] : TakD (a :: H) enc o r kv (a :: H') := ⟨.there h.pf⟩
theorem E_dopen {o : Bool} {r : Nat} {kv : List (κ × Value)} {W : WT} (h : ∀ es cl, DOk enc es cl kv → E B (mpb o r es cl :: H) W) : E B (dct enc o r kv :: H) W :=
  E_ex fun es => E_ex fun cl => E_all (E_perm (List.Perm.swap ..) (E_pur fun hd => h es cl hd))
theorem E_dshut {o : Bool} {r : Nat} {kv : List (κ × Value)} {W : WT} {es : List MapEntry} {cl : Nat} (hd : DOk enc es cl kv) (h : E B (dct enc o r kv :: H) W) : E B (mpb o r es cl :: H) W := by
  have : E B (all [mpb o r es cl, pur (DOk enc es cl kv)] :: H) W := E_ex' (f := fun cl => all [mpb o r es cl, pur (DOk enc es cl kv)]) cl (E_ex' (f := fun es => ex fun cl => all [mpb o r es cl, pur (DOk enc es cl kv)]) es h)
  have := E_all' this
  exact E_pur' hd (E_perm (List.Perm.swap ..) this)
theorem E_dnew [hE : KEnc kd enc] {r : Nat} {W : WT} (h : E B (dct enc true r [] :: H) W) : E B (mpb true r [] 0 :: H) W := E_dshut ⟨rfl, by simp, by simp, by simp⟩ h
theorem E_dlen {o : Bool} {r : Nat} {kv : List (κ × Value)} {H' : List Asrt} [ht : TakD H enc o r kv H'] (h : E B (dct enc o r kv :: H') (K (.int .i64 kv.length))) : E B H (S.lenM (.map (some r)) K) := by
  refine E_find ht.pf (E_dopen fun es cl hd => E_lenM (hf := hasM_here) (E_dshut hd ?_))
  have hl : es.length = kv.length := by have := congrArg List.length hd.kvs; simpa using this
  rw [hl]; exact h
theorem E_dlk1 [hE : KEnc kd enc] {z v : Value} {ok o : Bool} {r : Nat} {k : κ} {kv : List (κ × Value)} {H' : List Asrt} [ht : TakD H enc o r kv H'] (hv : kv.lookup k = some v)
    (h : E B (dct enc o r kv :: H') (K (match ok with | true => .tuple #[v, .bool true] | false => v))) : E B H (S.lk kd z ok (.map (some r)) (enc k) K) := by
  refine E_find ht.pf (E_dopen fun es cl hd => ?_)
  obtain ⟨n, hn, _⟩ := (findNow_d (enc := enc) k es kv 0 hd.kvs).2 v hv
  exact E_lk1 (hf := hasM_here) hn (E_dshut hd h)
theorem E_dlk0 [hE : KEnc kd enc] {z : Value} {ok o : Bool} {r : Nat} {k : κ} {kv : List (κ × Value)} {H' : List Asrt} [ht : TakD H enc o r kv H'] (hv : kv.lookup k = none)
    (h : E B (dct enc o r kv :: H') (K (match ok with | true => .tuple #[z, .bool false] | false => z))) : E B H (S.lk kd z ok (.map (some r)) (enc k) K) := by
  refine E_find ht.pf (E_dopen fun es cl hd => ?_)
  exact E_lk0 (hf := hasM_here) ((findNow_d (enc := enc) k es kv 0 hd.kvs).1 hv) (E_dshut hd h)
theorem dok_put [hE : KEnc kd enc] {es : List MapEntry} {cl : Nat} {kv : List (κ × Value)} {k : κ} {v u : Value} {n : Nat} (hd : DOk enc es cl kv) (hv : kv.lookup k = some u) {s t : List (κ × Value)} (hst : kv = s ++ (k, u) :: t) (hsl : s.length = n) (hns : k ∉ s.map (·.1)) :
    DOk enc (es.modify n fun e => { e with key := enc k, val := v }) cl (dput kv k v) := by
  have hput : dput kv k v = s ++ (k, v) :: t := by
    have hn := hd.nod
    unfold dput
    rw [hv]
    simp only [Option.isSome_some, if_true]
    rw [hst] at hn ⊢
    simp only [List.map_append, List.map_cons, List.nodup_append, List.nodup_cons] at hn
    have e1 : ∀ l : List (κ × Value), k ∉ l.map (·.1) → l.map (fun p => if p.1 = k then (k, v) else p) = l := fun l hl => by
      have : l.map (fun p => if p.1 = k then (k, v) else p) = l.map id := List.map_congr_left fun p hp => by
        have : p.1 ≠ k := fun e => hl (e ▸ List.mem_map.2 ⟨p, hp, rfl⟩)
        simp [this]
      simpa using this
    simp only [List.map_append, List.map_cons, if_true]
    rw [e1 s hns, e1 t hn.2.1.1]
  have hb : (es.modify n fun e => { e with key := enc k, val := v }).map (·.born) = es.map (·.born) := by
    apply List.ext_getElem?
    intro i
    simp only [List.getElem?_modify, List.getElem?_map]
    cases es[i]? with
    | none => rfl
    | some e => simp only [Option.map_some]; split <;> rfl
  refine ⟨?_, dput_nodup hd.nod, hb ▸ hd.born, fun e he => ?_⟩
  · rw [hput]
    apply List.ext_getElem?
    intro i
    have hk := congrArg (fun l => l[i]?) hd.kvs
    simp only [List.getElem?_map, hst] at hk
    simp only [List.getElem?_modify, List.getElem?_map]
    by_cases hi : n = i
    · subst hi hsl
      simp only [List.getElem?_append_right (Nat.le_refl _), Nat.sub_self, List.getElem?_cons_zero, Option.map_some] at hk ⊢
      cases he : es[s.length]? with
      | none => rw [he] at hk; simp at hk
      | some e => simp [eKV]
    · simp only [if_neg hi]
      have : (s ++ (k, v) :: t)[i]? = (s ++ (k, u) :: t)[i]? := by
        rcases Nat.lt_or_ge i s.length with h | h
        · rw [List.getElem?_append_left h, List.getElem?_append_left h]
        · rw [List.getElem?_append_right h, List.getElem?_append_right h]
          have : i - s.length = (i - s.length - 1) + 1 := by omega
          rw [this]; simp
      rw [this, ← hk]
      cases es[i]? <;> rfl
  · obtain ⟨i, hi, rfl⟩ := List.mem_iff_getElem.1 he
    have h1 := congrArg (fun l => l[i]?) hb
    simp only [List.getElem?_map, List.getElem?_eq_getElem hi] at h1
    cases he' : es[i]? with
    | none => rw [he'] at h1; simp at h1
    | some e' =>
      rw [he'] at h1
      simp only [Option.map_some, Option.some.injEq] at h1
      rw [h1]; exact hd.lt e' (List.mem_of_getElem? he')
theorem E_dmu [hE : KEnc kd enc] {t kt el r : Nat} {k : κ} {v : Value} {kv : List (κ × Value)} {H' : List Asrt} [ht : TakD H enc true r kv H'] (hK : Key P t kt el kd)
    (h : E B (dct enc true r (dput kv k v) :: H') (K undef)) : E B H (U P (Instr.mapUpdate t (.map (some r)) (enc k) v) K) := by
  refine E_find ht.pf (E_dopen fun es cl hd => ?_)
  cases hl : kv.lookup k with
  | none =>
    refine E_mu0 (hf := takM_here) hK ((findNow_d (enc := enc) k es kv 0 hd.kvs).1 hl) (E_dshut ⟨?_, dput_nodup hd.nod, ?_, ?_⟩ h)
    · unfold dput; simp [hl, hd.kvs, eKV]
    · rw [List.map_append, List.nodup_append]
      refine ⟨hd.born, by simp, fun a ha b hb => ?_⟩
      obtain ⟨e, he, rfl⟩ := List.mem_map.1 ha
      simp at hb; subst hb
      have := hd.lt e he; omega
    · intro e he
      rcases List.mem_append.1 he with he | he
      · have := hd.lt e he; omega
      · simp at he; subst he; simp
  | some u =>
    obtain ⟨n, hn, s, tl, hst, hsl, hns⟩ := (findNow_d (enc := enc) k es kv 0 hd.kvs).2 u hl
    rw [Nat.zero_add] at hn
    exact E_mu1 (hf := takM_here) hK (hE.bits k) hn (E_dshut (dok_put hd hl hst hsl hns) h)
theorem E_ddel [hE : KEnc kd enc] {ts : Array TypeId} {ty t kt el r : Nat} {k : κ} {kv : List (κ × Value)} {H' : List Asrt} [ht : TakD H enc true r kv H'] (h0 : ts[0]? = some t) (hK : Key P t kt el kd)
    (h : E B (dct enc true r (ddel kv k) :: H') (K (.tuple #[]))) : E B H (V P (Builtin.delete_ ts ty #[.map (some r), enc k]) K) := by
  refine E_find ht.pf (E_dopen fun es cl hd => ?_)
  cases hl : kv.lookup k with
  | none =>
    have : ddel kv k = kv := by
      unfold ddel
      apply List.filter_eq_self.2
      intro p hp
      have := lookup_none.1 hl
      have : p.1 ≠ k := fun e => this (e ▸ List.mem_map.2 ⟨p, hp, rfl⟩)
      simpa using this
    rw [this] at h
    exact E_del0 (hf := takM_here) h0 hK ((findNow_d (enc := enc) k es kv 0 hd.kvs).1 hl) (E_dshut hd h)
  | some u =>
    obtain ⟨n, hn, s, tl, hst, hsl, hns⟩ := (findNow_d (enc := enc) k es kv 0 hd.kvs).2 u hl
    rw [Nat.zero_add] at hn
    refine E_del1 (hf := takM_here) h0 hK hn (E_dshut ⟨?_, ddel_nodup hd.nod, hd.born.sublist ((List.eraseIdx_sublist ..).map _), fun e he => hd.lt e ((List.eraseIdx_sublist ..).subset he)⟩ h)
    have hn := hd.nod
    have hkv := hd.kvs
    have : ddel kv k = s ++ tl := by
      unfold ddel
      rw [hst] at hn ⊢
      simp only [List.map_append, List.map_cons, List.nodup_append, List.nodup_cons] at hn
      have e1 : ∀ l : List (κ × Value), k ∉ l.map (·.1) → l.filter (fun p => decide (p.1 ≠ k)) = l := fun l hl => List.filter_eq_self.2 fun p hp => by
        have : p.1 ≠ k := fun e => hl (e ▸ List.mem_map.2 ⟨p, hp, rfl⟩)
        simpa using this
      rw [List.filter_append, List.filter_cons, if_neg (by simp), e1 s hns, e1 tl hn.2.1.1]
    rw [this, map_eraseIdx', hkv, hst, ← hsl]
    simp [List.eraseIdx_append_of_length_le]
end
end Go.SL
