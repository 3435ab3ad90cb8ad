/-
  A region that draws its order, in the body of a range over a function: the script's rule, at the wide fence. No program in sight.
-/
import Derived.Test.YtnddaildicmneaaRegion
import Derived.OrdersIn
namespace Go.Proofs.Ytnddaildicmneaa
open Go.RowKit

section
variable {P : Program} {ops : Array Oper} {Q : Exit → Act → World → Prop} {l n : Nat}
theorem rowsIn_of {row : String} {args : Array Value} {w : World} {R : Value → World → Prop} (h : Rows P row args w R) : RowsIn (Fence.wide.inRound l) n P row args w R := fun c cs _ =>
  let ⟨v, w', r, s⟩ := h c cs
  ⟨v, w', r, stepsIn_wide.2 s⟩
theorem callsIn_of {f : FuncId} {args : Array Value} {w : World} {R : Ending → World → Prop} (h : Calls P f args w R) : CallsIn (Fence.wide.inRound l) n P f args w R := (callsIn_wide (n := n)).2 h
theorem uponIn_of {o : Oper} {a : Act} {K : Act → World → Prop} (r : Result Next) (h : o.upon P a K Q r) : o.uponIn (Fence.wide.inRound l) n P a K Q r := by
  cases r with
  | ok x w' =>
    cases x <;> simp only [Oper.upon, Oper.uponIn] at h ⊢ <;>
      first
        | exact h
        | exact ⟨(fun hd => by cases hd), callsIn_of h⟩
        | exact ⟨(fun hd => by cases hd), rowsIn_of h⟩
        | exact h.elim
  | halt x w' => cases x <;> simp only [Oper.upon, Oper.uponIn] at h ⊢ <;> exact h
theorem wpOpIn_of {i : Nat} {a : Act} {w : World} {K : Act → World → Prop} (hd : ∀ (i : Nat) (o : Oper), ops[i]? = some o → ∀ c, o.op ≠ .defer c) (hQ : ¬ LetsOut Q) (h : wpOp P ops Q i K a w) : wpOpIn (Fence.wide.inRound l) n P ops Q i K a w := by
  unfold wpOp at h
  unfold wpOpIn
  cases ho : ops[i]? with
  | none => rw [ho] at h; exact h
  | some o =>
    rw [ho] at h
    simp only at h ⊢
    split
    · rename_i hw
      rw [if_pos hw] at h
      rcases h with h | ⟨-, h⟩
      · refine ⟨fun _ _ => trivial, ?_⟩
        rw [show (Fence.wide.inRound l).round = some l from rfl, Oper.semAt_some l _ o (hd i o ho)]
        exact uponIn_of _ h
      · exact absurd h hQ
    · rename_i hw
      rw [if_neg hw] at h
      exact ⟨fun _ _ => trivial, h⟩
theorem wpAnyIn_of (hd : ∀ (i : Nat) (o : Oper), ops[i]? = some o → ∀ c, o.op ≠ .defer c) (hQ : ¬ LetsOut Q) : ∀ (k : Nat) (L : Array Bool) (a : Act) (w : World), wpAny P .any ops Q k L a w → wpAnyIn (Fence.wide.inRound l) n P .any ops Q k L a w
  | 0, _, _, _, h => h
  | k + 1, L, a, w, h => ⟨h.1, fun i hi => wpOpIn_mono (fun a w h' => wpAnyIn_of hd hQ k _ a w h') (wpOpIn_of hd hQ (h.2 i hi))⟩
def notDefer : Op → Bool
  | .defer _ => false
  | _ => true
theorem notDefer_spec (h : ops.all (fun o => notDefer o.op) = true) : ∀ (i : Nat) (o : Oper), ops[i]? = some o → ∀ c, o.op ≠ .defer c := fun i o ho c e => by
  rw [Array.all_eq_true'] at h
  have := h o (Array.mem_of_getElem? ho)
  rw [e] at this
  cases this
/-- THE RULE, in a round -/
theorem wpIn_region_script {id : Nat} {a : Act} {w : World} (F W : List Nat) (s : List Mv) (S : World → Prop) (hm : P.follows .mixedOrders = true) (hQ : ¬ LetsOut Q)
    (hc : (Region.noSelect ops && chk ops F W s (Array.replicate ops.size false) && s.all Mv.full && (s.map Mv.len).sum == ops.size && ops.all (fun o => notDefer o.op)) = true)
    (h : wpS P ops (Q .normal) (NoPanic Q) s S a w.drew) : (Code.region id ops true).wpIn (Fence.wide.inRound l) n P Q a w := by
  simp only [Bool.and_eq_true, beq_iff_eq] at hc
  obtain ⟨⟨⟨⟨h1, h2⟩, h3⟩, h4⟩, h5⟩ := hc
  have hQ' : ¬ LetsOut (NoPanic Q) := fun ⟨a, w, h⟩ => hQ ⟨a, w, NoPanic.imp _ _ _ h⟩
  refine wpIn_mono (wpIn_region_any hm (wpAnyIn_of (notDefer_spec h5) hQ' _ _ _ _ (wpAny_of_N (S := S) (F := F) (W := W) _ _ _ _ ?_))) (fun e a w h => NoPanic.imp e a w h)
  have h0 : need ops F W (Array.replicate ops.size false) = true → S w.drew := fun hn => by
    unfold need at hn
    obtain ⟨f, _, hf⟩ := List.any_eq_true.1 hn
    have : (Array.replicate ops.size false).getD f false = false := by
      rw [Array.getD_eq_getD_getElem?]
      by_cases hk : f < ops.size <;> simp [hk]
    rw [this] at hf
    cases hf
  have := script_all (P := P) (Q := NoPanic Q) h1 (fun _ _ _ c a v w h => h.elim) (fun a w h => h) s S _ a w.drew h2 h3 (closed_start _) h0 h
  rw [h4] at this
  exact this
end
end Go.Proofs.Ytnddaildicmneaa
