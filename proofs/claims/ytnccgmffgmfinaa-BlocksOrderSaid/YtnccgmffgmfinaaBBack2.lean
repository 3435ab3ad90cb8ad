/-
  blocks.Back: the byte that a road leads to.
-/
import Derived.Test.YtnccgmffgmfinaaBBack
namespace Go.Proofs.Ytnccgmffgmfinaa
open Go.RowKit

set_option maxHeartbeats 400000 in
theorem back_idle (p q : Nat) (w : World) :
    CallsD Try.prog 43 #[.pointer (some ⟨p, 0, none⟩), .pointer (some ⟨q, 0, none⟩)] .returning w fun e u' w' => e = .returned (.tuple #[]) ∧ u' = .returning ∧ w' = w := by
  refine callsD_of_wpS Try.func43 rfl fun c₀ cs hu => ?_
  apply wpS_seq
  apply wpS_region
  simp [wpOpsS, go_sem, recoverD, hu, Try.ntmps43, Exit.thenS, Array.replicate_succ]
  refine wpS_of_wp ?_
  go_wp2
  cases c₀
  simp_all [bodyPostS, results, Try.results43]

set_option maxRecDepth 4000 in
set_option maxHeartbeats 400000 in
theorem back_caught (p q : Nat) (x y : Value) (older : List PanicEntry) (w : World) (hb : Blk w p 22 #[x]) (hq : Blk w q 26 #[y]) :
    CallsD Try.prog 43 #[.pointer (some ⟨p, 0, none⟩), .pointer (some ⟨q, 0, none⟩)] (.panicking ({ v := .iface 81 (.agg #[]), recovered := false } :: older)) w fun e u' w' =>
      e = .returned (.tuple #[]) ∧ u' = .panicking ({ v := .iface 81 (.agg #[]), recovered := true } :: older) ∧ w' = (w.setCell ⟨p, 0, none⟩ (.int .u64 0)).setCell ⟨q, 0, none⟩ (.int .i64 1) := by
  have hc1 := hb.cell 0
  have hf1 := hb.frozen 0
  have hc2 := hq.cell 0
  have hf2 := hq.frozen 0
  have hq2 := hq.far (p := ⟨p, 0, none⟩) (fun e => hb.ne_ hq (by decide) e.symm) (.int .u64 0)
  have hc3 := hq2.cell 0
  simp at hc1 hc2
  rw [show (#[y] : Array Value)[0]? = some y from rfl] at hc3
  clear hb hq hq2
  have hmi : ∀ w, (Instr.makeInterface 81 (.agg #[])).run Try.prog w = .ok (.iface 81 (.agg #[])) w := fun _ => by kernel_rfl
  have hne : ∀ w, (binOp .neq 20 (.iface 81 (.agg #[])) (.iface 81 (.agg #[]))).run Try.prog w = .ok (.bool false) w := fun _ => by kernel_rfl
  refine callsD_of_wpS Try.func43 rfl fun c₀ cs hu => ?_
  apply wpS_seq
  apply wpS_region
  simp [wpOpsS, go_sem, recoverD, hu, Try.ntmps43, Exit.thenS, Array.replicate_succ]
  refine wpS_of_wp ?_
  go_wp2
  simp [bodyPostS, results, Try.results43]
end Go.Proofs.Ytnccgmffgmfinaa
