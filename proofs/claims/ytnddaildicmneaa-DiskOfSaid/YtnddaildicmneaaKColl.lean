/-
  The keys of a map, gathered one by one. Plain words.
-/
import Derived.Test.YtnddaildicmneaaKM
import Derived.Test.YtnddaildicmneaaRec
namespace Go.Proofs.Ytnddaildicmneaa
open Go.RowKit Go.Maps

section
variable {κ : Type} {H : Type}
def CollK (K : KeyT κ) (D0 : DataW H) (left : Lit → Bool) (ss : List κ) : Prop := ss.Nodup ∧ (∀ x ∈ ss, K.ok x) ∧ ∀ x, K.ok x → (x ∈ ss ↔ (has D0 (K.lit x) = true ∧ left (K.lit x) = false))
def KeysK (K : KeyT κ) (D0 : DataW H) (ss : List κ) : Prop := ss.Nodup ∧ (∀ x ∈ ss, K.ok x) ∧ ∀ x, K.ok x → (x ∈ ss ↔ has D0 (K.lit x) = true)
variable {K : KeyT κ} {D0 : DataW H} {left : Lit → Bool} {ss : List κ}
theorem CollK.start (K : KeyT κ) (D0 : DataW H) : CollK K D0 (has D0) [] := ⟨List.nodup_nil, by simp, fun x _ => by cases has D0 (K.lit x) <;> simp⟩
theorem CollK.step (h : CollK K D0 left ss) {x : κ} {y : DataW H} (hx : K.ok x) (hlk : left (K.lit x) = true) (hat : ∀ zd, D0.atKey (K.lit x) zd = y) : CollK K D0 (fun z => left z && !z.sameKey (K.lit x)) (ss ++ [x]) := by
  have hhas : has D0 (K.lit x) = true := has_true_of_atKey hat
  have hnew : x ∉ ss := fun hm => by have := ((h.2.2 x hx).1 hm).2; rw [hlk] at this; cases this
  refine ⟨List.nodup_append.2 ⟨h.1, by simp, fun a ha b hb => by simp at hb; subst hb; exact fun e => hnew (e ▸ ha)⟩, fun y hy => ?_, fun y hy => ?_⟩
  · rcases List.mem_append.1 hy with hy | hy
    · exact h.2.1 y hy
    · rw [List.mem_singleton.1 hy]; exact hx
  · have hs : (K.lit x).sameKey (K.lit x) = true := by
      have hk := K.isKey hx
      revert hk
      cases K.lit x <;> simp [Lit.sameKey, WideAt.IsKeyLit]
    rw [List.mem_append, List.mem_singleton, h.2.2 y hy]
    by_cases e : y = x
    · subst e; simp [hhas, hs]
    · have hne : (K.lit y).sameKey (K.lit x) = false := sameKey_ne (fun c => e (K.lit_inj hy hx c))
      simp [e, hne]
theorem CollK.keys (h : CollK K D0 left ss) (hl : ∀ kl, left kl = false) : KeysK K D0 ss := ⟨h.1, h.2.1, fun x hx => by rw [h.2.2 x hx, hl]; simp⟩
theorem KeysK.perm [DecidableEq κ] {D0 : DataW Value} {ss : List κ} (h : KeysK K D0 ss) {l : List (κ × Value)} (hok : ∀ p ∈ l, K.ok p.1) (hn : (l.map (·.1)).Nodup) (hh : ∀ x, K.ok x → (has D0 (K.lit x) = true ↔ x ∈ l.map (·.1))) : ss.Perm (l.map (·.1)) := by
  refine (List.perm_ext_iff_of_nodup h.1 hn).2 fun x => ⟨fun hx => (hh x (h.2.1 x hx)).1 ((h.2.2 x (h.2.1 x hx)).1 hx), fun hx => ?_⟩
  have hx' : K.ok x := by
    obtain ⟨p, hp, rfl⟩ := List.mem_map.1 hx
    exact hok p hp
  exact (h.2.2 x hx').2 ((hh x hx').2 hx)
end
theorem cells_new (w : World) (cs : List Value) (t : TypeId) : ∀ j u, cs[j]? = some u → (w.alloc (.cells cs.toArray t)).cell? ((⟨w.heap.size, 0, none⟩ : Addr).add j) = some u := fun j u hj => by
  rw [Addr.add_lit, (Blk.new w t cs.toArray).cell]
  simpa using hj
end Go.Proofs.Ytnddaildicmneaa
