/-
  A send and a select in the midst of a walk: 'Code.wp' with the frame known to be no early one. No program in sight.
-/
import Derived.WalkKit
import Derived.ProofKit
import Derived.Conc.LoneCalls
import Derived.Conc.LoneSelectN
namespace Go.Proofs.Ytnccgmffgmfinaa
open Go.RowKit Go.Conc

section
variable {P : Program} {Q : Exit → Act → World → Prop} {a : Act} {w : World}

def WpN (P : Program) (c : Code) (Q : Exit → Act → World → Prop) (a : Act) (w : World) : Prop :=
  ∀ b : Frame, b.kind ≠ .early → ∀ (k : List Item) (cs : List Frame), ∃ e a' w', Q e a' w' ∧ Arrives P (lone (b.at a (.code c :: k)) cs w) b k cs e a' w'
def RegN (P : Program) (ops : Array Oper) (l : List Nat) (Q : Exit → Act → World → Prop) (a : Act) (w : World) : Prop :=
  ∀ b : Frame, b.kind ≠ .early → ∀ (k : List Item) (cs : List Frame), ∃ e a' w', Q e a' w' ∧ Arrives P (lone (b.at a (.inRegion ops l :: k)) cs w) b k cs e a' w'

theorem wpN_of {c : Code} (h : c.wp P Q a w) : WpN P c Q a w := fun b _ k cs => h b k cs
theorem wpN_seq {x y : Code} (h : WpN P x (fun e a w => e = .normal ∧ WpN P y Q a w) a w) : WpN P (.seq x y) Q a w := by
  intro b hb k cs
  obtain ⟨e, a1, w1, ⟨rfl, hy⟩, harr⟩ := h b hb (.code y :: k) cs
  obtain ⟨e2, a2, w2, hq, harr2⟩ := hy b hb k cs
  exact ⟨e2, a2, w2, hq, .of_steps (.head step_seq harr) harr2⟩
theorem wpN_cond {c : Operand} {x y : Code} {t : Bool} (hc : a.eval c = .bool t) (h : WpN P (if t then x else y) Q a w) : WpN P (.cond c x y) Q a w := fun b hb k cs => by
  obtain ⟨e, a', w', q, r⟩ := h b hb k cs
  exact ⟨e, a', w', q, .of_steps (.one (step_cond hc)) r⟩
theorem wpN_region {id : Nat} {ops : Array Oper} (h : RegN P ops (List.range ops.size) Q a w) : WpN P (.region id ops false) Q a w := fun b hb k cs => by
  obtain ⟨e, a', w', q, r⟩ := h b hb k cs
  exact ⟨e, a', w', q, .of_steps (.one step_region) r⟩
theorem regN_nil {ops : Array Oper} (h : Q .normal a w) : RegN P ops [] Q a w := fun _ _ _ _ => ⟨.normal, a, w, h, .one step_region_end⟩
theorem regN_value {ops : Array Oper} {i : Nat} {rest : List Nat} {o : Oper} {v : Value} {w' : World} (ho : ops[i]? = some o) (hw : Region.wanted o (yielded ops a.tmps) = true)
    (hr : (execOp a.eval o).run P w = .ok (.value v) w') (h : RegN P ops rest Q (a.put o.dst v) w') : RegN P ops (i :: rest) Q a w := fun b hb k cs => by
  obtain ⟨e, a', w2, hq, harr⟩ := h b hb k cs
  refine ⟨e, a', w2, hq, .of_steps (.one (step_lone_go ?_)) harr⟩
  have hfin : (b.at a (.inRegion ops (i :: rest) :: k)).finish v = b.at (a.put o.dst v) (.inRegion ops rest :: k) := by rw [Frame.finish_at, ho]; rfl
  rw [stepG_op ho hw, ← hfin]
  simp [stepG.apply, hr]
theorem regN_step {ops : Array Oper} {i : Nat} {rest : List Nat} {o : Oper} {v : Value} {w' : World} (ho : ops[i]? = some o)
    (hs : ∀ b : Frame, b.kind ≠ .early → ∀ k cs, step P (lone (b.at a (.inRegion ops (i :: rest) :: k)) cs w) = .next (lone ((b.at a (.inRegion ops (i :: rest) :: k)).finish v) cs w')) (h : RegN P ops rest Q (a.put o.dst v) w') : RegN P ops (i :: rest) Q a w := fun b hb k cs => by
  obtain ⟨e, a', w2, hq, harr⟩ := h b hb k cs
  refine ⟨e, a', w2, hq, .of_steps (.one ((hs b hb k cs).trans ?_)) harr⟩
  rw [Frame.finish_at, ho]; rfl
theorem regN_send {ops : Array Oper} {i : Nat} {rest : List Nat} {o : Oper} {w1 : World} {c cap s r : Nat} {buf : Array Value} {v z : Value} {tm : Bool} (ho : ops[i]? = some o) (hw : Region.wanted o (yielded ops a.tmps) = true)
    (hr : (execOp a.eval o).run P w = .ok (.comm #[scase c v z] true .send) w1) (hc : w1.heap[c]? = some (.chan cap buf false s r tm)) (hroom : buf.size < cap)
    (h : RegN P ops rest Q (a.put o.dst undef) (w1.setChan c cap (buf.push v) false (s + 1) r tm)) : RegN P ops (i :: rest) Q a w :=
  regN_step ho (fun _ hb _ _ => step_lone_send_room (stepG_comm ho hw hb hr) hc hroom) h
theorem regN_select {ops : Array Oper} {i : Nat} {rest : List Nat} {o : Oper} {w1 : World} {c cap s r : Nat} {buf : Array Value} {z : Value} {tm closed : Bool} (ho : ops[i]? = some o) (hw : Region.wanted o (yielded ops a.tmps) = true)
    (hr : (execOp a.eval o).run P w = .ok (.comm #[rcase c z] false .select) w1) (hc : w1.heap[c]? = some (.chan cap buf closed s r tm)) (hsome : 0 < buf.size)
    (h : RegN P ops rest Q (a.put o.dst (.tuple #[goInt 0, .bool true, buf.getD 0 undef])) (w1.setChan c cap (buf.extract 1 buf.size) closed s (r + 1) tm)) : RegN P ops (i :: rest) Q a w := by
  refine regN_step (v := commResult #[rcase c z] .select ((0 : Nat) : Int) (buf.getD 0 undef) true) (w' := w1.setChan c cap (buf.extract 1 buf.size) closed s (r + 1) tm) ho (fun b hb k cs => ?_) ?_
  · exact step_lone_sel_recv_buf (k := 0) (z := z) (c := c) (stepG_comm ho hw hb hr) (by simp) (fun m c' hm hc' => by
      rcases m with _ | m
      · exact absurd rfl hm
      · simp at hc') hc hsome
  · rw [show commResult #[rcase c z] .select ((0 : Nat) : Int) (buf.getD 0 undef) true = .tuple #[goInt 0, .bool true, buf.getD 0 undef] by simp [commResult, rcase, List.zipIdx_cons]]
    exact h
theorem regN_default {ops : Array Oper} {i : Nat} {rest : List Nat} {o : Oper} {w1 : World} {c cap s r : Nat} {z : Value} {tm : Bool} (ho : ops[i]? = some o) (hw : Region.wanted o (yielded ops a.tmps) = true)
    (hr : (execOp a.eval o).run P w = .ok (.comm #[rcase c z] false .select) w1) (hc : w1.heap[c]? = some (.chan cap #[] false s r tm))
    (h : RegN P ops rest Q (a.put o.dst (.tuple #[goInt (-1), .bool false, z])) w1) : RegN P ops (i :: rest) Q a w :=
  regN_step ho (fun _ hb _ _ => step_lone_select_default (stepG_comm ho hw hb hr) hc) h
theorem calls_of_wpN {f : FuncId} {fn : Func} {c : Code} {args : Array Value} {R : Ending → World → Prop} (hf : P.funcs[f]? = some fn) (hb : fn.body = some c)
    (h : WpN P c (fun e a w => e = .ret ∧ bodyPost P fn R e a w) { tmps := args ++ Array.replicate (fn.ntmps - args.size) undef, defers := [] } w) : Calls P f args w R := by
  intro cs
  let b : Frame := { (default : Frame) with fn := f, kind := .normal }
  have henter : Frame.enter P f args .normal = b.at { tmps := args ++ Array.replicate (fn.ntmps - args.size) undef, defers := [] } [.code c] := by
    simp [Frame.enter, Frame.at, hf, hb, b]
  obtain ⟨e, a', w', ⟨rfl, hd, v, hr, hR⟩, todo, hs⟩ := h b (by simp [b]) [] cs
  rw [← henter] at hs
  exact ⟨.returned v, w', _, hR, hs, rfl, rfl, hd, rfl, fn, hf, hr⟩
end
end Go.Proofs.Ytnccgmffgmfinaa
