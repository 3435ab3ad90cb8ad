/-
  A region that draws its order, by a script: quiet operations are taken as soon as they may come up, the others come one by one, and a condition on the world need hold only as long as a quiet one may still be waiting.
  No program in sight. It stands on the library's law that an operation which yields one value in every world of a class may be taken first.
-/
import Derived.Test.YtnddaildicmneaaBase
import Derived.OrdersHeld
import Derived.Deep.RegionHeld3
namespace Go.Proofs.Ytnddaildicmneaa
open Go.RowKit

section
variable {P : Program} {ops : Array Oper} {Q : Exit → Act → World → Prop} {S : World → Prop}

/-- operation `k` waits for `f` -/
def waits (ops : Array Oper) (k f : Nat) : Bool := ((ops[k]?).map (·.after.any fun e => Region.binds .any e && e.on == f)).getD false
/-- `f` must have come up: one that waits for it has -/
def usedBy (ops : Array Oper) (F : List Nat) (listed : Array Bool) : Nat → Nat → Bool
  | 0, _ => false
  | n + 1, f => (List.range ops.size).any fun k => waits ops k f && (if F.contains k then usedBy ops F listed n k else listed.getD k false)
/-- the condition on the world is still wanted -/
def need (ops : Array Oper) (F W : List Nat) (listed : Array Bool) : Bool := W.any fun f => listed.getD f false && !usedBy ops F listed ops.size f

/-- with an operation all that it waits for has come up -/
def Closed (ops : Array Oper) (L : Array Bool) : Prop := ∀ k o, ops[k]? = some o → L.getD k false = true → ∀ e ∈ o.after, Region.binds .any e = true → L.getD e.on false = true

theorem closed_start (n : Nat) : Closed ops (Array.replicate n false) := by
  intro k o _ h
  rw [Array.getD_eq_getD_getElem?] at h
  by_cases hk : k < n
  · simp [hk] at h
  · simp [hk] at h

theorem Closed.set {L : Array Bool} {i : Nat} (h : Closed ops L) (hr : i ∈ Region.ready .any ops L) : Closed ops (L.setIfInBounds i true) := by
  obtain ⟨_, o, ho, hall⟩ := mem_ready.1 hr
  intro k ok hk hl e he hb
  by_cases hki : k = i
  · subst hki
    rw [ho] at hk
    injection hk with hk
    subst hk
    exact getD_set_true (hall e he hb)
  · rw [getD_set_ne false (Ne.symm hki)] at hl
    exact getD_set_true (h k ok hk hl e he hb)

theorem usedBy_listed {F : List Nat} {L L' : Array Bool} (hc : Closed ops L) (hl : ∀ k, F.contains k = false → L'.getD k false = true → L.getD k false = true) :
    ∀ (n f : Nat), usedBy ops F L' n f = true → L.getD f false = true
  | 0, _, h => by cases h
  | n + 1, f, h => by
    simp only [usedBy, List.any_eq_true, List.mem_range, Bool.and_eq_true] at h
    obtain ⟨k, _, hw, hk⟩ := h
    have hkl : L.getD k false = true := by
      split at hk
      · exact usedBy_listed hc hl n k hk
      · rename_i hF
        exact hl k (by simpa using hF) hk
    unfold waits at hw
    cases ho : ops[k]? with
    | none => rw [ho] at hw; cases hw
    | some o =>
      rw [ho] at hw
      simp only [Option.map_some, Option.getD_some] at hw
      obtain ⟨e, he, hb⟩ := Array.any_eq_true'.1 hw
      simp only [Bool.and_eq_true, beq_iff_eq] at hb
      have := hc k o ho hkl e he hb.1
      rwa [hb.2] at this

/-- Whatever order is picked; the condition on the world holds behind each operation behind which it is wanted. -/
def wpAnyN (P : Program) (ops : Array Oper) (Q : Exit → Act → World → Prop) (S : World → Prop) (F W : List Nat) : Nat → Array Bool → Act → World → Prop
  | 0, L, a, w => Region.ready .any ops L = [] ∧ Q .normal a w
  | n + 1, L, a, w => (Region.ready .any ops L = [] → Q .normal a w) ∧
    ∀ i ∈ Region.ready .any ops L, wpOp P ops Q i (fun a' w' => (need ops F W (L.setIfInBounds i true) = true → S w') ∧ wpAnyN P ops Q S F W n (L.setIfInBounds i true) a' w') a w

theorem wpAny_of_N {F W : List Nat} : ∀ (n : Nat) (L : Array Bool) (a : Act) (w : World), wpAnyN P ops Q S F W n L a w → wpAny P .any ops Q n L a w
  | 0, _, _, _, h => h
  | n + 1, _, _, _, h => ⟨h.1, fun i hi => wpOp_mono (fun a' w' h' => wpAny_of_N n _ a' w' h'.2) (h.2 i hi)⟩

theorem wpAnyN_first {F W : List Nat} {i : Nat} {oi : Oper} {v : Value} (hi : ops[i]? = some oi) (hF : F.contains i = true) (hWi : W.contains i = true) (hsel : ∀ (j : Nat) (o : Oper) cs b, ops[j]? = some o → o.op ≠ .select cs b)
    (hQ : ∀ c a w, Q (.panic c) (a.put oi.dst v) w → Q (.panic c) a w) :
    ∀ (n : Nat) (L : Array Bool) (a : Act) (w : World),
      (∀ j oj, ops[j]? = some oj → j ≠ i → L.getD j true = false → (∀ e ∈ oj.after, Region.binds .any e = true → e.on ≠ i) → oi.apart ops oj = true) →
      Closed ops L → i ∈ Region.ready .any ops L → YieldsIf P ops S oi v a → S w →
      wpAnyN P ops Q S F W n (L.setIfInBounds i true) (a.put oi.dst v) w → wpAnyN P ops Q S F W (n + 1) L a w := by
  intro n
  induction n with
  | zero =>
    intro L a w hfree hcl hr hy hS H
    refine ⟨fun h => (by rw [h] at hr; cases hr), fun j hj => ?_⟩
    by_cases hji : j = i
    · subst hji; exact hy.wpOp hi hS ⟨fun _ => hS, H⟩
    · have := ready_mono hj hji
      rw [H.1] at this
      cases this
  | succ n ih =>
    intro L a w hfree hcl hr hy hS H
    refine ⟨fun h => (by rw [h] at hr; cases hr), fun j hj => ?_⟩
    by_cases hji : j = i
    · subst hji; exact hy.wpOp hi hS ⟨fun _ => hS, H⟩
    · have h1 := H.2 j (ready_mono hj hji)
      obtain ⟨hjun, oj, hoj, hall⟩ := mem_ready.1 hj
      have hiun := (mem_ready.1 hr).1
      have hilt : i < L.size := by
        rcases Nat.lt_or_ge i L.size with h' | h'
        · exact h'
        · simp [Array.getElem?_eq_none h'] at hiun
      have hif : L.getD i false = false := by simpa [hilt] using hiun
      have hnot : ∀ e ∈ oj.after, Region.binds .any e = true → e.on ≠ i := fun e he hb heq => by
        have h1 := hall e he hb
        rw [heq, hif] at h1
        cases h1
      have h2 := wpOp_putIf hoj (hfree j oj hoj hji hjun hnot) (fun cs b => hsel i oi cs b hi) (fun cs b => hsel j oj cs b hoj) hQ hy h1
      have hcl' : Closed ops (L.setIfInBounds j true) := hcl.set hj
      have hneed : need ops F W ((L.setIfInBounds i true).setIfInBounds j true) = true := by
        unfold need
        rw [List.any_eq_true]
        refine ⟨i, by simpa using hWi, ?_⟩
        have e1 : ((L.setIfInBounds i true).setIfInBounds j true).getD i false = true := by
          rw [getD_set_ne false hji]
          simp [hilt]
        rw [e1, Bool.true_and, Bool.not_eq_true']
        cases hu : usedBy ops F ((L.setIfInBounds i true).setIfInBounds j true) ops.size i with
        | false => rfl
        | true =>
          have := usedBy_listed (L := L.setIfInBounds j true) hcl' (fun k hk hl => ?_) _ _ hu
          · rw [getD_set_ne false hji, hif] at this
            cases this
          · have hki : k ≠ i := fun e => by rw [e, hF] at hk; cases hk
            rw [Array.setIfInBounds_comm _ _ (Ne.symm hji), getD_set_ne false (Ne.symm hki)] at hl
            exact hl
      have hfree' : ∀ k ok, ops[k]? = some ok → k ≠ i → (L.setIfInBounds j true).getD k true = false →
          (∀ e ∈ ok.after, Region.binds .any e = true → e.on ≠ i) → oi.apart ops ok = true := fun k ok hk hki hun hno => by
        refine hfree k ok hk hki ?_ hno
        by_cases hjk : j = k
        · subst hjk; exact hjun
        · rw [getD_set_ne true hjk] at hun; exact hun
      refine wpOp_mono (fun a' w' h3 => ⟨fun _ => h3.2.1 hneed, ih (L.setIfInBounds j true) a' w' hfree' hcl' (ready_mono hr (Ne.symm hji)) h3.1 (h3.2.1 hneed) ?_⟩) h2
      rw [Array.setIfInBounds_comm _ _ hji]
      exact h3.2.2

theorem usedBy_set {F : List Nat} {i : Nat} {L : Array Bool} (hF : F.contains i = true) : ∀ (n f : Nat), usedBy ops F (L.setIfInBounds i true) n f = usedBy ops F L n f
  | 0, _ => rfl
  | n + 1, f => by
    simp only [usedBy]
    congr 1
    funext k
    congr 1
    split
    · exact usedBy_set hF n k
    · rename_i hk
      have hki : i ≠ k := fun e => hk (by rw [← e]; exact hF)
      exact getD_set_ne false hki

theorem need_set {F W : List Nat} {i : Nat} {L : Array Bool} (hF : F.contains i = true) (hW : W.contains i = false) : need ops F W (L.setIfInBounds i true) = need ops F W L := by
  unfold need
  rw [Bool.eq_iff_iff, List.any_eq_true, List.any_eq_true]
  have key : ∀ f ∈ W, ((L.setIfInBounds i true).getD f false && !usedBy ops F (L.setIfInBounds i true) ops.size f) = (L.getD f false && !usedBy ops F L ops.size f) := fun f hf => by
    have hfi : i ≠ f := fun e => by rw [← e] at hf; simp [hf] at hW
    rw [getD_set_ne false hfi, usedBy_set hF]
  constructor
  · rintro ⟨f, hf, h⟩; exact ⟨f, hf, by rw [← key f hf]; exact h⟩
  · rintro ⟨f, hf, h⟩; exact ⟨f, hf, by rw [key f hf]; exact h⟩

theorem wpAnyN_pure {F W : List Nat} {i : Nat} {oi : Oper} {v : Value} (hi : ops[i]? = some oi) (hF : F.contains i = true) (hWi : W.contains i = false) (hsel : ∀ (j : Nat) (o : Oper) cs b, ops[j]? = some o → o.op ≠ .select cs b)
    (hQ : ∀ c a w, Q (.panic c) (a.put oi.dst v) w → Q (.panic c) a w) :
    ∀ (n : Nat) (L : Array Bool) (a : Act) (w : World),
      (∀ j oj, ops[j]? = some oj → j ≠ i → L.getD j true = false → (∀ e ∈ oj.after, Region.binds .any e = true → e.on ≠ i) → oi.apart ops oj = true) →
      i ∈ Region.ready .any ops L → YieldsIf P ops (fun _ => True) oi v a → (need ops F W L = true → S w) →
      wpAnyN P ops Q S F W n (L.setIfInBounds i true) (a.put oi.dst v) w → wpAnyN P ops Q S F W (n + 1) L a w := by
  intro n
  induction n with
  | zero =>
    intro L a w hfree hr hy hS H
    refine ⟨fun h => (by rw [h] at hr; cases hr), fun j hj => ?_⟩
    by_cases hji : j = i
    · subst hji; exact hy.wpOp hi trivial ⟨fun h => hS (by rwa [need_set hF hWi] at h), H⟩
    · have := ready_mono hj hji
      rw [H.1] at this
      cases this
  | succ n ih =>
    intro L a w hfree hr hy hS H
    refine ⟨fun h => (by rw [h] at hr; cases hr), fun j hj => ?_⟩
    by_cases hji : j = i
    · subst hji; exact hy.wpOp hi trivial ⟨fun h => hS (by rwa [need_set hF hWi] at h), H⟩
    · have h1 := H.2 j (ready_mono hj hji)
      obtain ⟨hjun, oj, hoj, hall⟩ := mem_ready.1 hj
      have hiun := (mem_ready.1 hr).1
      have hilt : i < L.size := by
        rcases Nat.lt_or_ge i L.size with h' | h'
        · exact h'
        · simp [Array.getElem?_eq_none h'] at hiun
      have hif : L.getD i false = false := by simpa [hilt] using hiun
      have hnot : ∀ e ∈ oj.after, Region.binds .any e = true → e.on ≠ i := fun e he hb heq => by
        have h1 := hall e he hb
        rw [heq, hif] at h1
        cases h1
      have h2 := wpOp_putIf hoj (hfree j oj hoj hji hjun hnot) (fun cs b => hsel i oi cs b hi) (fun cs b => hsel j oj cs b hoj) hQ hy h1
      have hfree' : ∀ k ok, ops[k]? = some ok → k ≠ i → (L.setIfInBounds j true).getD k true = false →
          (∀ e ∈ ok.after, Region.binds .any e = true → e.on ≠ i) → oi.apart ops ok = true := fun k ok hk hki hun hno => by
        refine hfree k ok hk hki ?_ hno
        by_cases hjk : j = k
        · subst hjk; exact hjun
        · rw [getD_set_ne true hjk] at hun; exact hun
      have hn : ∀ {w' : World}, (need ops F W ((L.setIfInBounds i true).setIfInBounds j true) = true → S w') → need ops F W (L.setIfInBounds j true) = true → S w' := fun h hh => h (by
        rw [Array.setIfInBounds_comm _ _ (Ne.symm hji), need_set hF hWi]; exact hh)
      refine wpOp_mono (fun a' w' h3 => ⟨hn h3.2.1, ih (L.setIfInBounds j true) a' w' hfree' (ready_mono hr (Ne.symm hji)) h3.1 (hn h3.2.1) ?_⟩) h2
      rw [Array.setIfInBounds_comm _ _ hji]
      exact h3.2.2

/-- a script's steps: quiet ones that read the world | quiet ones that do not | others, and whether the condition is wanted behind the last of them -/
inductive Mv where
  | fs (l : List Nat)
  | ps (l : List Nat)
  | es (l : List Nat) (nd : Bool)

def Mv.len : Mv → Nat
  | .fs l => l.length
  | .ps l => l.length
  | .es l _ => l.length

def chkF (ops : Array Oper) (F W : List Nat) (rd : Bool) : List Nat → Array Bool → Option (Array Bool)
  | [], L => some L
  | i :: l, L => if F.contains i && (W.contains i == rd) && (Region.ready .any ops L).contains i && Region.free .any ops L i then chkF ops F W rd l (L.setIfInBounds i true) else none
def chkE (ops : Array Oper) (F W : List Nat) (nd : Bool) : List Nat → Array Bool → Option (Array Bool)
  | [], L => some L
  | i :: l, L => if Region.ready .any ops L == [i] && (!need ops F W (L.setIfInBounds i true) || (l.isEmpty && nd)) then chkE ops F W nd l (L.setIfInBounds i true) else none
def chk (ops : Array Oper) (F W : List Nat) : List Mv → Array Bool → Bool
  | [], L => (Region.ready .any ops L).isEmpty
  | .fs l :: r, L => match chkF ops F W true l L with | some L' => chk ops F W r L' | none => false
  | .ps l :: r, L => match chkF ops F W false l L with | some L' => chk ops F W r L' | none => false
  | .es l nd :: r, L => match chkE ops F W nd l L with | some L' => chk ops F W r L' | none => false

/-- quiet operations, each with its one value -/
def quietL (P : Program) (ops : Array Oper) (S : World → Prop) : List Nat → (Act → Prop) → Act → Prop
  | [], K, a => K a
  | i :: l, K, a => ∃ o, ops[i]? = some o ∧ ∃ v, YieldsIf P ops S o v a ∧ quietL P ops S l K (a.put o.dst v)

/-- the walk along a script; the condition may be made stronger wherever the world is read -/
def wpS (P : Program) (ops : Array Oper) (QN : Act → World → Prop) (Q : Exit → Act → World → Prop) : List Mv → (World → Prop) → Act → World → Prop
  | [], _, a, w => QN a w
  | .fs l :: r, S, a, w => ∃ S' : World → Prop, (∀ w, S' w → S w) ∧ S' w ∧ quietL P ops S' l (fun a' => wpS P ops QN Q r S' a' w) a
  | .ps l :: r, S, a, w => quietL P ops (fun _ => True) l (fun a' => wpS P ops QN Q r S a' w) a
  | .es l nd :: r, S, a, w => wpOps P ops (Exit.then (fun a' w' => (nd = true → S w') ∧ wpS P ops QN Q r S a' w') Q) l a w

theorem wpAnyN_mono {S' : World → Prop} {F W : List Nat} (hS : ∀ w, S' w → S w) : ∀ (n : Nat) (L : Array Bool) (a : Act) (w : World), wpAnyN P ops Q S' F W n L a w → wpAnyN P ops Q S F W n L a w
  | 0, _, _, _, h => h
  | n + 1, _, _, _, h => ⟨h.1, fun i hi => wpOp_mono (fun a' w' h' => ⟨fun hn => hS _ (h'.1 hn), wpAnyN_mono hS n _ a' w' h'.2⟩) (h.2 i hi)⟩

theorem script_F {F W : List Nat} (hsel : Region.noSelect ops = true) (hQ : ∀ (i : Nat) (o : Oper), ops[i]? = some o → ∀ c a v w, Q (.panic c) (Act.put a o.dst v) w → Q (.panic c) a w) {n : Nat} {K : Act → Prop} {w : World} (hS : S w) :
    ∀ (l : List Nat) (L L' : Array Bool) (a : Act), chkF ops F W true l L = some L' → Closed ops L →
      (∀ a', Closed ops L' → K a' → wpAnyN P ops Q S F W n L' a' w) → quietL P ops S l K a → wpAnyN P ops Q S F W (l.length + n) L a w
  | [], L, L', a, hc, hcl, hK, h => by
    simp only [chkF, Option.some.injEq] at hc
    subst hc
    rw [List.length_nil, Nat.zero_add]
    exact hK a hcl h
  | i :: l, L, L', a, hc, hcl, hK, h => by
    simp only [chkF] at hc
    split at hc
    · rename_i hcond
      simp only [Bool.and_eq_true, beq_iff_eq] at hcond
      obtain ⟨⟨⟨h1, h0⟩, h2⟩, h3⟩ := hcond
      obtain ⟨o, ho, v, hy, hrest⟩ := h
      have hr : i ∈ Region.ready .any ops L := by simpa using h2
      have := script_F hsel hQ hS l _ L' (a.put o.dst v) hc (hcl.set hr) hK hrest
      rw [List.length_cons, Nat.add_right_comm]
      exact wpAnyN_first ho h1 h0 (Region.noSelect_spec hsel) (fun c a w => hQ _ _ ho c a _ w) _ L a w (Region.free_spec ho h3) hcl hr hy hS this
    · cases hc

theorem script_P {F W : List Nat} (hsel : Region.noSelect ops = true) (hQ : ∀ (i : Nat) (o : Oper), ops[i]? = some o → ∀ c a v w, Q (.panic c) (Act.put a o.dst v) w → Q (.panic c) a w) {n : Nat} {K : Act → Prop} {w : World} :
    ∀ (l : List Nat) (L L' : Array Bool) (a : Act), chkF ops F W false l L = some L' → Closed ops L → (need ops F W L = true → S w) →
      (∀ a', Closed ops L' → (need ops F W L' = true → S w) → K a' → wpAnyN P ops Q S F W n L' a' w) → quietL P ops (fun _ => True) l K a → wpAnyN P ops Q S F W (l.length + n) L a w
  | [], L, L', a, hc, hcl, hS, hK, h => by
    simp only [chkF, Option.some.injEq] at hc
    subst hc
    rw [List.length_nil, Nat.zero_add]
    exact hK a hcl hS h
  | i :: l, L, L', a, hc, hcl, hS, hK, h => by
    simp only [chkF] at hc
    split at hc
    · rename_i hcond
      simp only [Bool.and_eq_true, beq_iff_eq] at hcond
      obtain ⟨⟨⟨h1, h0⟩, h2⟩, h3⟩ := hcond
      obtain ⟨o, ho, v, hy, hrest⟩ := h
      have hr : i ∈ Region.ready .any ops L := by simpa using h2
      have := script_P hsel hQ l _ L' (a.put o.dst v) hc (hcl.set hr) (fun h => hS (by rwa [need_set h1 h0] at h)) hK hrest
      rw [List.length_cons, Nat.add_right_comm]
      exact wpAnyN_pure ho h1 h0 (Region.noSelect_spec hsel) (fun c a w => hQ _ _ ho c a _ w) _ L a w (Region.free_spec ho h3) hr hy hS this
    · cases hc

theorem script_E {F W : List Nat} {nd : Bool} {n : Nat} {K : Act → World → Prop} :
    ∀ (l : List Nat) (L L' : Array Bool) (a : Act) (w : World), chkE ops F W nd l L = some L' → Closed ops L → l ≠ [] →
      (∀ a' w', Closed ops L' → (need ops F W L' = true → S w') → K a' w' → wpAnyN P ops Q S F W n L' a' w') →
      wpOps P ops (Exit.then (fun a' w' => (nd = true → S w') ∧ K a' w') Q) l a w → wpAnyN P ops Q S F W (l.length + n) L a w
  | [], L, L', a, w, hc, hcl, hne, hK, h => absurd rfl hne
  | i :: l, L, L', a, w, hc, hcl, _, hK, h => by
    simp only [chkE] at hc
    split at hc
    · rename_i hcond
      simp only [Bool.and_eq_true, Bool.or_eq_true, Bool.not_eq_true', beq_iff_eq] at hcond
      obtain ⟨hr, hnd⟩ := hcond
      have hri : i ∈ Region.ready .any ops L := by rw [hr]; simp
      rw [List.length_cons, Nat.add_right_comm]
      refine ⟨fun h0 => (by rw [hr] at h0; cases h0), fun j hj => ?_⟩
      have hji : j = i := by rw [hr] at hj; simpa using hj
      subst hji
      rw [wpOps_cons] at h
      -- the same operation under the post without its end
      have hstep : wpOp P ops Q j (wpOps P ops (Exit.then (fun a' w' => (nd = true → S w') ∧ K a' w') Q) l) a w := by
        unfold wpOp at h ⊢
        cases ho : ops[j]? with
        | none => simp only [ho] at h ⊢; exact h
        | some o =>
          simp only [ho] at h ⊢
          by_cases hw : Region.wanted o (yielded ops a.tmps) = true
          · rw [if_pos hw] at h ⊢
            rcases h with h | ⟨h1, h2⟩
            · refine .inl ?_
              unfold Oper.wp at h ⊢
              generalize (execOp a.eval _).run P w = r at *
              cases r with
              | ok nx w' =>
                cases nx <;> simp only [Oper.upon] at h ⊢ <;> first | exact h | (refine Calls.mono h fun e w'' he => ?_; cases e <;> exact he)
              | halt x w' => cases x <;> simp only [Oper.upon] at h ⊢ <;> exact h
            · exact .inr ⟨h1, h2⟩
          · rw [if_neg hw] at h ⊢
            exact h
      refine wpOp_mono (fun a' w' h' => ?_) hstep
      cases l with
      | nil =>
        simp only [chkE, Option.some.injEq] at hc
        subst hc
        simp only [wpOps, Exit.then] at h'
        have hS : need ops F W (L.setIfInBounds j true) = true → S w' := fun hn => by
          rcases hnd with hnd | hnd
          · rw [hnd] at hn; cases hn
          · exact h'.1 hnd.2
        refine ⟨hS, ?_⟩
        rw [List.length_nil, Nat.zero_add]
        exact hK a' w' (hcl.set hri) hS h'.2
      | cons k l =>
        have hn0 : need ops F W (L.setIfInBounds j true) = false := by
          rcases hnd with hnd | hnd
          · exact hnd
          · simp at hnd
        exact ⟨fun hn => (by rw [hn0] at hn; cases hn), script_E (k :: l) _ L' a' w' hc (hcl.set hri) (by simp) hK h'⟩
    · cases hc

def Mv.full : Mv → Bool
  | .es l _ => !l.isEmpty
  | _ => true

theorem script_all {F W : List Nat} {QN : Act → World → Prop} (hsel : Region.noSelect ops = true) (hQ : ∀ (i : Nat) (o : Oper), ops[i]? = some o → ∀ c a v w, Q (.panic c) (Act.put a o.dst v) w → Q (.panic c) a w) (hN : ∀ a w, QN a w → Q .normal a w) :
    ∀ (s : List Mv) (S : World → Prop) (L : Array Bool) (a : Act) (w : World), chk ops F W s L = true → s.all Mv.full = true → Closed ops L → (need ops F W L = true → S w) → wpS P ops QN Q s S a w → wpAnyN P ops Q S F W ((s.map Mv.len).sum) L a w
  | [], S, L, a, w, hc, _, _, _, h => by
    simp only [chk, List.isEmpty_iff] at hc
    exact ⟨hc, hN a w h⟩
  | .fs l :: r, S, L, a, w, hc, hf, hcl, hS, h => by
    simp only [chk] at hc
    split at hc
    · rename_i L' hL'
      have hf' : r.all Mv.full = true := by simp only [List.all_cons, Bool.and_eq_true] at hf; exact hf.2
      obtain ⟨S', hS', hw, hq⟩ := h
      exact wpAnyN_mono hS' _ _ _ _ (script_F hsel hQ hw l L L' a hL' hcl (fun a' hcl' hK => script_all hsel hQ hN r S' L' a' w hc hf' hcl' (fun _ => hw) hK) hq)
    · cases hc
  | .ps l :: r, S, L, a, w, hc, hf, hcl, hS, h => by
    simp only [chk] at hc
    split at hc
    · rename_i L' hL'
      have hf' : r.all Mv.full = true := by simp only [List.all_cons, Bool.and_eq_true] at hf; exact hf.2
      exact script_P hsel hQ l L L' a hL' hcl hS (fun a' hcl' hS' hK => script_all hsel hQ hN r S L' a' w hc hf' hcl' hS' hK) h
    · cases hc
  | .es l nd :: r, S, L, a, w, hc, hf, hcl, hS, h => by
    simp only [chk] at hc
    split at hc
    · rename_i L' hL'
      simp only [List.all_cons, Bool.and_eq_true, Mv.full, Bool.not_eq_true'] at hf
      exact script_E l L L' a w hL' hcl (by intro e; rw [e] at hf; simp at hf) (fun a' w' hcl' hS' hK => script_all hsel hQ hN r S L' a' w' hc hf.2 hcl' hS' hK) h
    · cases hc

/-- THE RULE: a script that is right (closed facts), the region shown not to panic; the walk goes along the script in the world behind the draw. `F`: the quiet operations, `W`: those of them that read the world. -/
theorem wp_region_script {id : Nat} {a : Act} {w : World} (F W : List Nat) (s : List Mv) (S : World → Prop) (hm : P.follows .mixedOrders = true)
    (hc : (Region.noSelect ops && chk ops F W s (Array.replicate ops.size false) && s.all Mv.full && (s.map Mv.len).sum == ops.size) = true)
    (h : wpS P ops (Q .normal) (NoPanic Q) s S a w.drew) : (Code.region id ops true).wp P Q a w := by
  simp only [Bool.and_eq_true, beq_iff_eq] at hc
  obtain ⟨⟨⟨h1, h2⟩, h3⟩, h4⟩ := hc
  refine wp_region_noPanic (wp_region_any hm (wpAny_of_N (S := S) (F := F) (W := W) _ _ _ _ ?_))
  have h0 : need ops F W (Array.replicate ops.size false) = true → S w.drew := fun hn => by
    unfold need at hn
    obtain ⟨f, _, hf⟩ := List.any_eq_true.1 hn
    have : (Array.replicate ops.size false).getD f false = false := by
      rw [Array.getD_eq_getD_getElem?]
      by_cases hk : f < ops.size <;> simp [hk]
    rw [this] at hf
    cases hf
  have := script_all (P := P) (Q := NoPanic Q) h1 (fun _ _ _ c a v w h => h.elim) (fun a w h => h) s S _ a w.drew h2 h3 (closed_start _) h0 h
  rw [h4] at this
  exact this

/-- THE RULE where a call within the region may panic: `Q` at a panic does not ask for what the region's operations yield. -/
theorem wp_region_script_p {id : Nat} {a : Act} {w : World} (F W : List Nat) (s : List Mv) (S : World → Prop) (hm : P.follows .mixedOrders = true)
    (hQ : ∀ (i : Nat) (o : Oper), ops[i]? = some o → ∀ c a v w, Q (.panic c) (Act.put a o.dst v) w → Q (.panic c) a w)
    (hc : (Region.noSelect ops && chk ops F W s (Array.replicate ops.size false) && s.all Mv.full && (s.map Mv.len).sum == ops.size) = true)
    (h : wpS P ops (Q .normal) Q s S a w.drew) : (Code.region id ops true).wp P Q a w := by
  simp only [Bool.and_eq_true, beq_iff_eq] at hc
  obtain ⟨⟨⟨h1, h2⟩, h3⟩, h4⟩ := hc
  refine wp_region_any hm (wpAny_of_N (S := S) (F := F) (W := W) _ _ _ _ ?_)
  have h0 : need ops F W (Array.replicate ops.size false) = true → S w.drew := fun hn => by
    unfold need at hn
    obtain ⟨f, _, hf⟩ := List.any_eq_true.1 hn
    have : (Array.replicate ops.size false).getD f false = false := by
      rw [Array.getD_eq_getD_getElem?]
      by_cases hk : f < ops.size <;> simp [hk]
    rw [this] at hf
    cases hf
  have := script_all (P := P) (Q := Q) h1 hQ (fun a w h => h) s S _ a w.drew h2 h3 (closed_start _) h0 h
  rw [h4] at this
  exact this

/-- quiet operations, as a list of operations -/
def quietO (P : Program) (ops : Array Oper) (S : World → Prop) : List Oper → (Act → Prop) → Act → Prop
  | [], K, a => K a
  | o :: l, K, a => ∃ v, YieldsIf P ops S o v a ∧ quietO P ops S l K (a.put o.dst v)
theorem quietL_of_O {K : Act → Prop} : ∀ (l : List Nat) (a : Act), l.all (fun i => (ops[i]?).isSome) = true → quietO P ops S (l.map fun i => (ops[i]?).getD default) K a → quietL P ops S l K a
  | [], _, _, h => h
  | i :: l, a, hl, h => by
    simp only [List.all_cons, Bool.and_eq_true] at hl
    obtain ⟨o, ho⟩ := Option.isSome_iff_exists.1 hl.1
    rw [List.map_cons, ho, Option.getD_some] at h
    obtain ⟨v, hy, h⟩ := h
    exact ⟨o, ho, v, hy, quietL_of_O l _ hl.2 h⟩
theorem quietO_cons {l : List Oper} {K : Act → Prop} {a : Act} {o : Oper} (v : Value) (hw : Region.wanted o (yielded ops a.tmps) = true)
    (hr : ∀ w, S w → (execOp a.eval o).run P w = .ok (.value v) w) (h : quietO P ops S l K (a.put o.dst v)) : quietO P ops S (o :: l) K a :=
  ⟨v, .inl ⟨hw, hr⟩, h⟩
theorem quietO_skip {l : List Oper} {K : Act → Prop} {a : Act} {o : Oper} (hw : Region.wanted o (yielded ops a.tmps) = false)
    (h : quietO P ops S l K (a.put o.dst undef)) : quietO P ops S (o :: l) K a :=
  ⟨undef, .inr ⟨hw, rfl⟩, h⟩
theorem quietO_nil {K : Act → Prop} {a : Act} (h : K a) : quietO P ops S [] K a := h
/-- the others, as a list for the walk -/
theorem wpOps_pick : ∀ (l : List Nat) (a : Act) (w : World), l.all (fun i => (ops[i]?).isSome) = true → wpList P ops Q (l.map fun i => (ops[i]?).getD default) a w → wpOps P ops Q l a w
  | [], _, _, _, h => h
  | i :: l, a, w, hl, h => by
    simp only [List.all_cons, Bool.and_eq_true] at hl
    obtain ⟨o, ho⟩ := Option.isSome_iff_exists.1 hl.1
    rw [List.map_cons, ho, Option.getD_some] at h
    simp only [wpOps, ho]
    unfold wpList at h
    split
    · rename_i hw
      rw [if_pos hw] at h
      rcases h with h | h
      · exact .inl (Oper.wp_mono (fun a w h' => wpOps_pick l a w hl.2 h') h)
      · exact .inr h
    · rename_i hw
      rw [if_neg hw] at h
      exact wpOps_pick l _ w hl.2 h

section
variable {QN : Act → World → Prop} {r : List Mv} {l : List Nat} {a : Act} {w : World} {nd : Bool}
theorem wpS_ps (hl : l.all (fun i => (ops[i]?).isSome) = true) (h : ∀ K : Act → Prop, (∀ a', wpS P ops QN Q r S a' w → K a') → quietO P ops (fun _ => True) (l.map fun i => (ops[i]?).getD default) K a) : wpS P ops QN Q (.ps l :: r) S a w :=
  quietL_of_O l a hl (h _ fun _ h => h)
theorem wpS_fs (hl : l.all (fun i => (ops[i]?).isSome) = true) (hS : S w) (h : ∀ K : Act → Prop, (∀ a', wpS P ops QN Q r S a' w → K a') → quietO P ops S (l.map fun i => (ops[i]?).getD default) K a) : wpS P ops QN Q (.fs l :: r) S a w :=
  ⟨S, fun _ h => h, hS, quietL_of_O l a hl (h _ fun _ h => h)⟩
theorem wpS_fx (hl : l.all (fun i => (ops[i]?).isSome) = true) (S' : World → Prop) (hS' : ∀ w, S' w → S w) (hS : S' w) (h : ∀ K : Act → Prop, (∀ a', wpS P ops QN Q r S' a' w → K a') → quietO P ops S' (l.map fun i => (ops[i]?).getD default) K a) : wpS P ops QN Q (.fs l :: r) S a w :=
  ⟨S', hS', hS, quietL_of_O l a hl (h _ fun _ h => h)⟩
theorem wpS_es (hl : l.all (fun i => (ops[i]?).isSome) = true) (h : ∀ K : Act → World → Prop, (∀ a' w', (nd = true → S w') → wpS P ops QN Q r S a' w' → K a' w') → wpList P ops (Exit.then K Q) (l.map fun i => (ops[i]?).getD default) a w) : wpS P ops QN Q (.es l nd :: r) S a w :=
  wpOps_pick l a w hl (h _ fun _ _ h1 h2 => ⟨h1, h2⟩)
theorem wpS_nil (h : QN a w) : wpS P ops QN Q [] S a w := h
end
end
end Go.Proofs.Ytnddaildicmneaa
