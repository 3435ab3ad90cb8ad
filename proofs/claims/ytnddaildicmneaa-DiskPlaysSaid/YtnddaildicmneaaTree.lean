/-
  A region whose operations leave more than one order: the script goes as far as one order serves, then a tree of what may come next.
-/
import Derived.Test.YtnddaildicmneaaRegion
namespace Go.Proofs.Ytnddaildicmneaa
open Go.RowKit

section
variable {P : Program} {ops : Array Oper} {Q : Exit → Act → World → Prop} {QN : Act → World → Prop} {S : World → Prop} {F W : List Nat}

/-- what the script has come up to -/
def scriptL (ops : Array Oper) (F W : List Nat) : List Mv → Array Bool → Option (Array Bool)
  | [], L => some L
  | .fs l :: r, L => (chkF ops F W true l L).bind (scriptL ops F W r)
  | .ps l :: r, L => (chkF ops F W false l L).bind (scriptL ops F W r)
  | .es _ _ :: _, _ => none

/-- quiet steps first; what follows is left open -/
def wpQ (P : Program) (ops : Array Oper) (K : (World → Prop) → Act → World → Prop) : List Mv → (World → Prop) → Act → World → Prop
  | [], S, a, w => K S a w
  | .fs l :: r, S, a, w => ∃ S' : World → Prop, (∀ w, S' w → S w) ∧ S' w ∧ quietL P ops S' l (fun a' => wpQ P ops K r S' a' w) a
  | .ps l :: r, S, a, w => quietL P ops (fun _ => True) l (fun a' => wpQ P ops K r S a' w) a
  | .es _ _ :: _, _, _, _ => False

theorem script_Q (hsel : Region.noSelect ops = true) (hQ : ∀ (i : Nat) (o : Oper), ops[i]? = some o → ∀ c a v w, Q (.panic c) (Act.put a o.dst v) w → Q (.panic c) a w) {n : Nat} {L1 : Array Bool} :
    ∀ (s : List Mv) (S : World → Prop) (L : Array Bool) (a : Act) (w : World), scriptL ops F W s L = some L1 → Closed ops L → (need ops F W L = true → S w) →
      wpQ P ops (fun S a w => wpAnyN P ops Q S F W n L1 a w) s S a w → wpAnyN P ops Q S F W ((s.map Mv.len).sum + n) L a w
  | [], S, L, a, w, hc, _, _, h => by
    simp only [scriptL, Option.some.injEq] at hc
    subst hc
    simp only [List.map_nil, List.sum_nil, Nat.zero_add]
    exact h
  | .fs l :: r, S, L, a, w, hc, hcl, hS, h => by
    simp only [scriptL, Option.bind_eq_some_iff] at hc
    obtain ⟨L', hL', hc⟩ := hc
    obtain ⟨S', hS', hw, hq⟩ := h
    rw [List.map_cons, List.sum_cons, Nat.add_assoc]
    exact wpAnyN_mono hS' _ _ _ _ (script_F hsel hQ hw l L L' a hL' hcl (fun a' hcl' hK => script_Q hsel hQ r S' L' a' w hc hcl' (fun _ => hw) hK) hq)
  | .ps l :: r, S, L, a, w, hc, hcl, hS, h => by
    simp only [scriptL, Option.bind_eq_some_iff] at hc
    obtain ⟨L', hL', hc⟩ := hc
    rw [List.map_cons, List.sum_cons, Nat.add_assoc]
    exact script_P hsel hQ l L L' a hL' hcl hS (fun a' hcl' hS' hK => script_Q hsel hQ r S L' a' w hc hcl' hS' hK) h
  | .es l nd :: r, S, L, a, w, hc, hcl, hS, h => by cases hc

/-- THE RULE: quiet steps by a script, then a tree of `n` steps from `L1` on. -/
theorem wp_region_tree {id : Nat} {a : Act} {w : World} (F W : List Nat) (s : List Mv) (n : Nat) (L1 : Array Bool) (S : World → Prop) (hm : P.follows .mixedOrders = true)
    (hc : (Region.noSelect ops && (s.map Mv.len).sum + n == ops.size) = true) (hL : scriptL ops F W s (Array.replicate ops.size false) = some L1)
    (h : wpQ P ops (fun S a w => wpAnyN P ops (NoPanic Q) S F W n L1 a w) s S a w.drew) : (Code.region id ops true).wp P Q a w := by
  simp only [Bool.and_eq_true, beq_iff_eq] at hc
  obtain ⟨h1, h4⟩ := hc
  refine wp_region_noPanic (wp_region_any hm (wpAny_of_N (S := S) (F := F) (W := W) _ _ _ _ ?_))
  have h0 : need ops F W (Array.replicate ops.size false) = true → S w.drew := fun hn => by
    unfold need at hn
    obtain ⟨f, _, hf⟩ := List.any_eq_true.1 hn
    have : (Array.replicate ops.size false).getD f false = false := by
      rw [Array.getD_eq_getD_getElem?]
      by_cases hk : f < ops.size <;> simp [hk]
    rw [this] at hf
    cases hf
  have := script_Q (P := P) (Q := NoPanic Q) h1 (fun _ _ _ c a v w h => h.elim) s S _ a w.drew hL (closed_start _) h0 h
  rw [h4] at this
  exact this

theorem tree_end {L : Array Bool} {a : Act} {w : World} (hR : Region.ready .any ops L = []) (h : Q .normal a w) : wpAnyN P ops Q S F W 0 L a w := ⟨hR, h⟩
theorem tree_fin {L : Array Bool} {a : Act} {w : World} (hR : Region.ready .any ops L = []) (h : Q .normal a w) : wpAnyN P ops (NoPanic Q) S F W 0 L a w := ⟨hR, h⟩
/-- one step of the tree: each operation that may come next; `nd`: whether the condition on the world is wanted behind it -/
theorem tree_step {n : Nat} {L : Array Bool} {a : Act} {w : World} (R : List (Nat × Bool)) (hR : Region.ready .any ops L = R.map (·.1)) (hne : R ≠ []) (hnd : (R.all fun r => need ops F W (L.setIfInBounds r.1 true) == r.2) = true)
    (h : ∀ r ∈ R, wpOps P ops (Exit.then (fun a' w' => (r.2 = true → S w') ∧ wpAnyN P ops Q S F W n (L.setIfInBounds r.1 true) a' w') Q) [r.1] a w) : wpAnyN P ops Q S F W (n + 1) L a w := by
  refine ⟨fun h0 => ?_, fun j hj => ?_⟩
  · rw [h0] at hR
    cases R with
    | nil => exact absurd rfl hne
    | cons x l => cases hR
  · rw [hR] at hj
    obtain ⟨r, hr, rfl⟩ := List.mem_map.1 hj
    have hn := List.all_eq_true.1 hnd r hr
    simp only [beq_iff_eq] at hn
    have h := h r hr
    rw [wpOps_cons] at h
    have hstep : wpOp P ops Q r.1 (wpOps P ops (Exit.then (fun a' w' => (r.2 = true → S w') ∧ wpAnyN P ops Q S F W n (L.setIfInBounds r.1 true) a' w') Q) []) a w := by
      unfold wpOp at h ⊢
      cases ho : ops[r.1]? with
      | none => simp only [ho] at h ⊢; exact h
      | some o =>
        simp only [ho] at h ⊢
        by_cases hw : Region.wanted o (yielded ops a.tmps) = true
        · rw [if_pos hw] at h ⊢
          rcases h with h | ⟨h1, h2⟩
          · refine .inl ?_
            unfold Oper.wp at h ⊢
            generalize (execOp a.eval _).run P w = r at *
            cases r with
            | ok nx w' =>
              cases nx <;> simp only [Oper.upon] at h ⊢ <;> first | exact h | (refine Calls.mono h fun e w'' he => ?_; cases e <;> exact he)
            | halt x w' => cases x <;> simp only [Oper.upon] at h ⊢ <;> exact h
          · exact .inr ⟨h1, h2⟩
        · rw [if_neg hw] at h ⊢
          exact h
    refine wpOp_mono (fun a' w' h' => ?_) hstep
    simp only [wpOps, Exit.then] at h'
    rw [hn]
    exact h'

theorem wpQ_ps {K : (World → Prop) → Act → World → Prop} {r : List Mv} {l : List Nat} {a : Act} {w : World} (hl : l.all (fun i => (ops[i]?).isSome) = true) (h : ∀ K' : Act → Prop, (∀ a', wpQ P ops K r S a' w → K' a') → quietO P ops (fun _ => True) (l.map fun i => (ops[i]?).getD default) K' a) : wpQ P ops K (.ps l :: r) S a w :=
  quietL_of_O l a hl (h _ fun _ h => h)
theorem wpQ_fs {K : (World → Prop) → Act → World → Prop} {r : List Mv} {l : List Nat} {a : Act} {w : World} (hl : l.all (fun i => (ops[i]?).isSome) = true) (hS : S w) (h : ∀ K' : Act → Prop, (∀ a', wpQ P ops K r S a' w → K' a') → quietO P ops S (l.map fun i => (ops[i]?).getD default) K' a) : wpQ P ops K (.fs l :: r) S a w :=
  ⟨S, fun _ h => h, hS, quietL_of_O l a hl (h _ fun _ h => h)⟩
theorem wpQ_nil {K : (World → Prop) → Act → World → Prop} {a : Act} {w : World} (h : K S a w) : wpQ P ops K [] S a w := h
/-- one operation of the tree, for the walk -/
theorem tree_op {nd : Bool} {n i : Nat} {L L' : Array Bool} {a : Act} {w : World} (hL : L.setIfInBounds i true = L') (hl : (ops[i]?).isSome = true)
    (h : ∀ K : Act → World → Prop, (∀ a' w', (nd = true → S w') → wpAnyN P ops Q S F W n L' a' w' → K a' w') → wpList P ops (Exit.then K Q) [(ops[i]?).getD default] a w) :
    wpOps P ops (Exit.then (fun a' w' => (nd = true → S w') ∧ wpAnyN P ops Q S F W n (L.setIfInBounds i true) a' w') Q) [i] a w := by
  subst hL
  exact wpOps_pick [i] a w (by simp only [List.all_cons, hl, List.all_nil, Bool.and_self]) (h _ fun _ _ h1 h2 => ⟨h1, h2⟩)
end
end Go.Proofs.Ytnddaildicmneaa
