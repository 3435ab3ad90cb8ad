/-
  Maps whose entries are known as a list: any type of key, any values. Plain words.
-/
import Derived.Test.YtnddaildicmneaaRows
import Derived.Test.YtnddaildicmneaaBase
import Derived.Maps.OwnSet
import Derived.DeepKeys4
namespace Go.Proofs.Ytnddaildicmneaa
open Go.RowKit Go.Maps

/-- a type of keys -/
structure KeyT (κ : Type) where
  t : TypeId
  val : κ → Value
  ok : κ → Prop
  keyed : Keyed Try.prog t
  key : ∀ x, ok x → ∃ kl, keyOf Try.prog t (val x) = some kl
  inj : ∀ x y, val x = val y → x = y
  inv : ∀ v kl, keyOf Try.prog t v = some kl → ∃ x, v = val x ∧ ok x

section
variable {κ : Type}
noncomputable def KeyT.lit (K : KeyT κ) (x : κ) : Lit := @Classical.epsilon Lit ⟨.nil⟩ fun kl => keyOf Try.prog K.t (K.val x) = some kl
theorem KeyT.litOf (K : KeyT κ) {x : κ} (h : K.ok x) : keyOf Try.prog K.t (K.val x) = some (K.lit x) := by
  exact @Classical.epsilon_spec_aux Lit ⟨.nil⟩ (fun kl => keyOf Try.prog K.t (K.val x) = some kl) (K.key x h)
theorem KeyT.lit_inj (K : KeyT κ) {x y : κ} (hx : K.ok x) (hy : K.ok y) (h : K.lit x = K.lit y) : x = y :=
  K.inj _ _ (K.keyed.inj (K.litOf hx) (by rw [h]; exact K.litOf hy))
theorem KeyT.isKey (K : KeyT κ) {x : κ} (hx : K.ok x) : WideAt.IsKeyLit (K.lit x) := K.keyed.key (K.litOf hx)

/-- how an element reads: as itself -/
def rdAny (v : Value) : Option (DataW Value × List MemPlace) := some (.held v, [])
theorem rdAny_inv {v : Value} {z : DataW Value} {ps : List MemPlace} (h : rdAny v = some (z, ps)) : z = .held v := by
  unfold rdAny at h; injection h with h; injection h with h _; exact h.symm

variable [DecidableEq κ]
def asc (l : List (κ × Value)) (x : κ) : Option Value := (l.find? fun p => decide (p.1 = x)).map (·.2)
theorem asc_nil (x : κ) : asc ([] : List (κ × Value)) x = none := rfl
theorem asc_none {l : List (κ × Value)} {x : κ} (h : ∀ p ∈ l, p.1 ≠ x) : asc l x = none := by
  unfold asc
  rw [List.find?_eq_none.2 (fun p hp => by simpa using h p hp)]; rfl
theorem asc_app (l m : List (κ × Value)) (x : κ) : asc (l ++ m) x = (asc l x).or (asc m x) := by
  unfold asc
  rw [List.find?_append]
  cases l.find? fun p => decide (p.1 = x) <;> rfl
theorem asc_one (x : κ) (v : Value) (y : κ) : asc [(x, v)] y = if x = y then some v else none := by
  unfold asc
  by_cases h : x = y <;> simp [h]
theorem asc_mem {l : List (κ × Value)} {x : κ} {v : Value} (h : asc l x = some v) : (x, v) ∈ l := by
  unfold asc at h
  obtain ⟨p, hp, rfl⟩ := Option.map_eq_some_iff.1 h
  have h1 := List.mem_of_find?_eq_some hp
  have h2 := List.find?_some hp
  simp only [decide_eq_true_eq] at h2
  subst h2
  exact h1
theorem asc_is {l : List (κ × Value)} (hn : (l.map (·.1)).Nodup) {x : κ} {v : Value} (h : (x, v) ∈ l) : asc l x = some v := by
  cases hc : asc l x with
  | none =>
    unfold asc at hc
    rw [Option.map_eq_none_iff, List.find?_eq_none] at hc
    exact absurd (hc _ h) (by simp)
  | some u =>
    have h1 := asc_mem hc
    obtain ⟨i, hi, e1⟩ := List.getElem_of_mem h
    obtain ⟨j, hj, e2⟩ := List.getElem_of_mem h1
    have : i = j := by
      have hi2 : i < (l.map (·.1)).length := by simpa using hi
      have hj2 : j < (l.map (·.1)).length := by simpa using hj
      refine (List.getElem_inj (h₀ := hi2) (h₁ := hj2) hn).1 ?_
      simp [e1, e2]
    subst this
    rw [e1] at e2
    injection e2 with _ e2
    rw [e2]
theorem asc_isSome {l : List (κ × Value)} {x : κ} : (asc l x).isSome = true ↔ x ∈ l.map (·.1) := by
  constructor
  · intro h
    obtain ⟨v, hv⟩ := Option.isSome_iff_exists.1 h
    exact List.mem_map.2 ⟨_, asc_mem hv, rfl⟩
  · intro h
    cases hc : asc l x with
    | some v => rfl
    | none =>
      obtain ⟨p, hp, rfl⟩ := List.mem_map.1 h
      unfold asc at hc
      rw [Option.map_eq_none_iff, List.find?_eq_none] at hc
      exact absurd (hc _ hp) (by simp)
/-- one is put: at the end; its elder is gone -/
def putA (l : List (κ × Value)) (x : κ) (v : Value) : List (κ × Value) := (l.filter fun p => !decide (p.1 = x)) ++ [(x, v)]
def delA (l : List (κ × Value)) (x : κ) : List (κ × Value) := l.filter fun p => !decide (p.1 = x)
theorem asc_del (l : List (κ × Value)) (x y : κ) : asc (delA l x) y = if x = y then none else asc l y := by
  unfold asc delA
  by_cases h : x = y
  · subst h
    rw [if_pos rfl, List.find?_eq_none.2 (fun p hp => by have := (List.mem_filter.1 hp).2; simpa using this)]; rfl
  · rw [if_neg h]
    congr 1
    refine find_filter_keep (fun p hp => ?_) l
    simp only [decide_eq_true_eq] at hp
    subst hp
    simp only [Bool.not_eq_true', decide_eq_false_iff_not]
    exact fun e => h e.symm
theorem asc_put (l : List (κ × Value)) (x : κ) (v : Value) (y : κ) : asc (putA l x v) y = if x = y then some v else asc l y := by
  rw [putA, asc_app, asc_one, show (l.filter fun p => !decide (p.1 = x)) = delA l x from rfl, asc_del]
  by_cases h : x = y <;> simp [h]
theorem delA_none {l : List (κ × Value)} {x : κ} (h : ∀ p ∈ l, p.1 ≠ x) : delA l x = l :=
  List.filter_eq_self.2 (fun p hp => by simpa using h p hp)
theorem putA_new {l : List (κ × Value)} {x : κ} (h : ∀ p ∈ l, p.1 ≠ x) (v : Value) : putA l x v = l ++ [(x, v)] := by
  rw [putA, show (l.filter fun p => !decide (p.1 = x)) = delA l x from rfl, delA_none h]
theorem nodup_delA {l : List (κ × Value)} (h : (l.map (·.1)).Nodup) (x : κ) : ((delA l x).map (·.1)).Nodup := h.sublist ((List.filter_sublist).map _)
theorem nodup_putA {l : List (κ × Value)} (h : (l.map (·.1)).Nodup) (x : κ) (v : Value) : ((putA l x v).map (·.1)).Nodup := by
  rw [putA, List.map_append]
  refine List.nodup_append.2 ⟨nodup_delA h x, by simp, fun a ha b hb => ?_⟩
  simp at hb
  subst hb
  obtain ⟨p, hp, rfl⟩ := List.mem_map.1 ha
  have := (List.mem_filter.1 hp).2
  simpa using this
theorem length_delA (l : List (κ × Value)) (hn : (l.map (·.1)).Nodup) (x : κ) : (delA l x).length + (if (asc l x).isSome = true then 1 else 0) = l.length := by
  induction l with
  | nil => rfl
  | cons p l ih =>
    obtain ⟨h1, h2⟩ := List.nodup_cons.1 hn
    have ih := ih h2
    by_cases h : p.1 = x
    · subst h
      have hno : ∀ q ∈ l, q.1 ≠ p.1 := fun q hq e => h1 (List.mem_map.2 ⟨q, hq, e⟩)
      have e1 : delA (p :: l) p.1 = l := by
        rw [delA, List.filter_cons, if_neg (by simp)]; exact delA_none hno
      have e2 : (asc (p :: l) p.1).isSome = true := by simp [asc]
      rw [e1, if_pos e2]; rfl
    · have e1 : delA (p :: l) x = p :: delA l x := by rw [delA, List.filter_cons, if_pos (by simp [h])]; rfl
      have e2 : asc (p :: l) x = asc l x := by unfold asc; rw [List.find?_cons, show decide (p.1 = x) = false by simp [h]]
      rw [e1, e2, List.length_cons, List.length_cons]
      omega

/-- block `b` is the map with the entries `l`, in any order -/
structure KMap (K : KeyT κ) (w : World) (b : Nat) (l : List (κ × Value)) : Prop where
  own : ∃ D, w.ownsMap Try.prog K.t rdAny b l.length D ∧ size D = l.length ∧ ∀ x, K.ok x → ∀ z, D.atKey (K.lit x) z = match asc l x with | some v => .held v | none => z
  ok : ∀ p ∈ l, K.ok p.1
  nd : (l.map (·.1)).Nodup
variable {K : KeyT κ} {w w' : World} {b : Nat} {l : List (κ × Value)}
theorem KMap.lt (h : KMap K w b l) : b < w.heap.size := by
  obtain ⟨D, h1, -⟩ := h.own
  exact h1.lt
theorem KMap.keep {S : Nat → Prop} (h : KMap K w b l) (hk : Keeps S w w') (hs : ¬ S b) : KMap K w' b l := by
  obtain ⟨D, ⟨es, clock, hb, F, hn, hD⟩, h2⟩ := h.own
  exact ⟨⟨D, ⟨es, clock, (hk.block b (Array.getElem?_eq_some_iff.1 hb).1 hs).trans hb, F, hn, hD⟩, h2⟩, h.ok, h.nd⟩
theorem KMap.same (h : KMap K w b l) (hk : Keeps nowhere w w') : KMap K w' b l := h.keep hk (fun h => h)
theorem KMap.ne_blk {q : Nat} {T : TypeId} {cs : Array Value} (h : KMap K w b l) (hb : Blk w q T cs) : q ≠ b := by
  rintro rfl
  obtain ⟨D, ⟨es, clock, hb2, -⟩, -⟩ := h.own
  unfold Blk at hb
  rw [hb] at hb2
  cases hb2
theorem KMap.new (K : KeyT κ) (w : World) : KMap K (w.alloc (.map #[] 0)) w.heap.size [] :=
  ⟨⟨.map [], World.ownsMap_made w _ _ _, rfl, fun x _ z => rfl⟩, by simp, by simp⟩
theorem KMap.has (h : KMap K w b l) : ∃ D, w.ownsMap Try.prog K.t rdAny b l.length D ∧ size D = l.length ∧ ∀ x, K.ok x → (Maps.has D (K.lit x) = true ↔ x ∈ l.map (·.1)) := by
  obtain ⟨D, h1, h2, h3⟩ := h.own
  refine ⟨D, h1, h2, fun x hx => ?_⟩
  rw [← asc_isSome]
  cases ha : asc l x with
  | none => rw [has_false_of_atKey (fun z => by rw [h3 x hx, ha])]; simp
  | some v => rw [has_true_of_atKey (y := .held v) (fun z => by rw [h3 x hx, ha])]; simp
theorem mapTurned_only {w w' : World} {b : Nat} (h : w.mapTurned w' b) : Keeps (fun k => k = b) w w' :=
  (Keeps.refl _ w).grown h.grown (fun k e _ => by injection e with e; exact e.symm)

variable {t e : TypeId}
theorem KMap.len (h : KMap K w b l) (ht : Try.prog.underlying t = some (.map K.t e)) (ty : TypeId) : (Builtin.len_ #[t] ty #[.map (some b)]).run Try.prog w = .ok (.int .i64 l.length) w := by
  obtain ⟨D, h1, h2, -⟩ := h.own
  rw [h1.len ht ty, h2]
theorem KMap.look (h : KMap K w b l) (ht : Try.prog.underlying t = some (.map K.t e)) {z : Value} (hz : (zeroValue e).run Try.prog w = .ok z w) {x : κ} (hx : K.ok x) :
    (Instr.lookup t (.map (some b)) (K.val x) false).run Try.prog w = .ok ((asc l x).getD z) w := by
  obtain ⟨D, h1, -, h3⟩ := h.own
  obtain ⟨v, ps, hrun, hv⟩ := h1.lookup K.keyed ht hz (zd := .held z) (zp := []) rfl (K.litOf hx)
  have := rdAny_inv hv
  rw [h3 x hx] at this
  rw [hrun]
  cases ha : asc l x with
  | none => rw [ha] at this; have e := DataW.held.inj this; subst e; simp only [Option.getD_none]
  | some u => rw [ha] at this; have e := DataW.held.inj this; subst e; simp only [Option.getD_some]
theorem KMap.look_ok (h : KMap K w b l) (ht : Try.prog.underlying t = some (.map K.t e)) {z : Value} (hz : (zeroValue e).run Try.prog w = .ok z w) {x : κ} (hx : K.ok x) :
    (Instr.lookup t (.map (some b)) (K.val x) true).run Try.prog w = .ok (.tuple #[(asc l x).getD z, .bool (asc l x).isSome]) w := by
  obtain ⟨D, h1, -, h3⟩ := h.own
  obtain ⟨v, ps, hrun, hv⟩ := h1.look_ok K.keyed ht hz (zd := .held z) (zp := []) rfl (K.litOf hx)
  have := rdAny_inv hv
  rw [h3 x hx] at this
  rw [hrun]
  cases ha : asc l x with
  | none => rw [ha] at this; have e := DataW.held.inj this; subst e; rw [has_false_of_atKey (fun z => by rw [h3 x hx, ha])]; simp only [Option.getD_none, Option.isSome_none]
  | some u => rw [ha] at this; have e := DataW.held.inj this; subst e; rw [has_true_of_atKey (y := .held u) (fun z => by rw [h3 x hx, ha])]; simp only [Option.getD_some, Option.isSome_some]
theorem ownsMap_tight' {w : World} {k : TypeId} {R : Value → Option (DataW Value × List MemPlace)} {b n : Nat} {D : DataW Value} (h : w.ownsMap Try.prog k R b n D) : w.ownsMap Try.prog k R b (Maps.size D) D := by
  obtain ⟨es, clock, hb, F, hs, rfl⟩ := h
  exact ⟨es, clock, hb, F, by simp [Maps.size, length_sorted], rfl⟩
theorem KMap.put (h : KMap K w b l) (ht : Try.prog.underlying t = some (.map K.t e)) {x : κ} (hx : K.ok x) (v : Value) (hl : l.length < 1000000) :
    ∃ w', (Instr.mapUpdate t (.map (some b)) (K.val x) v).run Try.prog w = .ok () w' ∧ KMap K w' b (putA l x v) ∧ Keeps (fun k => k = b) w w' := by
  obtain ⟨D, h1, h2, h3⟩ := h.own
  obtain ⟨w', hrun, hown, hturn⟩ := h1.store K.keyed ht (by unfold maxLen; omega) (K.litOf hx) (show rdAny v = some (.held v, []) from rfl)
  have hT := h1.tidy K.keyed
  have hhas : Maps.has D (K.lit x) = (asc l x).isSome := by
    cases ha : asc l x with
    | none => rw [has_false_of_atKey (fun z => by rw [h3 x hx, ha])]; rfl
    | some v => rw [has_true_of_atKey (y := .held v) (fun z => by rw [h3 x hx, ha])]; rfl
  have hsz : size (D.put (K.lit x) (.held v)) = (putA l x v).length := by
    rw [size_put hT, hhas, h2, putA, List.length_append, show (l.filter fun p => !decide (p.1 = x)) = delA l x from rfl]
    have := length_delA l h.nd x
    simp only [List.length_cons, List.length_nil]
    split <;> simp_all <;> omega
  have hown2 := ownsMap_tight' hown
  rw [hsz] at hown2
  refine ⟨w', hrun, ⟨⟨_, hown2, hsz, fun y hy z => ?_⟩, fun p hp => ?_, nodup_putA h.nd x v⟩, mapTurned_only hturn⟩
  · rw [asc_put]
    by_cases e : x = y
    · subst e
      rw [if_pos rfl, atKey_put_same hT.isMap (K.isKey hx)]
    · rw [if_neg e, atKey_put_other (fun c => e (K.lit_inj hx hy c.symm)), h3 y hy]
  · rw [putA, List.mem_append] at hp
    rcases hp with hp | hp
    · exact h.ok p (List.mem_filter.1 hp).1
    · rw [List.mem_singleton.1 hp]; exact hx
theorem KMap.drop (h : KMap K w b l) (ht : Try.prog.underlying t = some (.map K.t e)) {x : κ} (hx : K.ok x) (ty : TypeId) :
    ∃ w', (Builtin.delete_ #[t, K.t] ty #[.map (some b), K.val x]).run Try.prog w = .ok (.tuple #[]) w' ∧ KMap K w' b (delA l x) ∧ Keeps (fun k => k = b) w w' := by
  obtain ⟨D, h1, h2, h3⟩ := h.own
  obtain ⟨w', hrun, hown, hturn⟩ := h1.drop K.keyed ht (K.litOf hx) ty
  have hT := h1.tidy K.keyed
  have hhas : Maps.has D (K.lit x) = (asc l x).isSome := by
    cases ha : asc l x with
    | none => rw [has_false_of_atKey (fun z => by rw [h3 x hx, ha])]; rfl
    | some v => rw [has_true_of_atKey (y := .held v) (fun z => by rw [h3 x hx, ha])]; rfl
  have hsz : size (D.del (K.lit x)) = (delA l x).length := by
    have e1 := size_del (k := K.lit x) hT
    have e2 := length_delA l h.nd x
    rw [hhas] at e1
    omega
  have hown2 := ownsMap_tight' hown
  rw [hsz] at hown2
  refine ⟨w', hrun, ⟨⟨_, hown2, hsz, fun y hy z => ?_⟩, fun p hp => h.ok p (List.mem_filter.1 hp).1, nodup_delA h.nd x⟩, mapTurned_only hturn⟩
  rw [asc_del]
  by_cases e : x = y
  · subst e
    rw [if_pos rfl, atKey_del_same]
  · rw [if_neg e, atKey_del_other (fun c => e (K.lit_inj hx hy c.symm)), h3 y hy]
end
end Go.Proofs.Ytnddaildicmneaa
