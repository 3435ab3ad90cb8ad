/-
  num.In's deferred 'caught', and 'cut'.
-/
import Derived.Test.YtblmbchjafffbaaNumIn
namespace Go.Proofs.Ytblmbchjafffbaa
open Go.RowKit

set_option maxHeartbeats 400000 in
theorem caught_idle (p : Nat) (w : World) :
    CallsD Try.prog 63 #[.pointer (some ⟨p, 0, none⟩)] .returning w fun e u' w' => e = .returned (.tuple #[]) ∧ u' = .returning ∧ w' = w := by
  refine callsD_of_wpS Try.func63 rfl fun c₀ cs hu => ?_
  apply wpS_seq
  apply wpS_region
  simp [wpOpsS, go_sem, recoverD, hu, Try.ntmps63, Exit.thenS, Array.replicate_succ]
  refine wpS_of_wp ?_
  go_wp2
  cases c₀
  simp_all [bodyPostS, results, Try.results63]

set_option maxHeartbeats 400000 in
theorem caught_panic (p : Nat) (x : Int) (v : Value) (y : Int) (older : List PanicEntry) (w : World) (hb : Blk w p 109 #[v, .int .i64 y]) :
    CallsD Try.prog 63 #[.pointer (some ⟨p, 0, none⟩)] (.panicking ({ v := .iface 25 (.int .i64 x), recovered := false } :: older)) w fun e u' w' =>
      e = .returned (.tuple #[]) ∧ u' = .panicking ({ v := .iface 25 (.int .i64 x), recovered := true } :: older) ∧ w' = w.setCell ⟨p, 1, none⟩ (.int .i64 x) := by
  have hc1 := hb.cell 1
  have hf1 := hb.frozen 1
  simp at hc1
  clear hb
  have hta : ∀ w, (Instr.typeAssert (.iface 25 (.int .i64 x)) 20 25 true).run Try.prog w = .ok (.tuple #[.int .i64 x, .bool true]) w := fun _ => by kernel_rfl
  refine callsD_of_wpS Try.func63 rfl fun c₀ cs hu => ?_
  apply wpS_seq
  apply wpS_region
  simp [wpOpsS, go_sem, recoverD, hu, Try.ntmps63, Exit.thenS, Array.replicate_succ]
  refine wpS_of_wp ?_
  go_wp2
  simp [bodyPostS, results, Try.results63]

/-- a panic with an error of the program's own -/
def panicErr (x : Int) : Ending := .panicked [{ v := .iface 25 (.int .i64 x), recovered := false }]

def RetCut (w : World) (p : Nat) (g : Option Nat) (L : List UInt8) (n : Nat) (err : Int) : Ending → World → Prop := fun e w' =>
  ∃ v', e = .returned v' ∧ Rd w' v' g ((L.take n).map bv) ∧ InAt w' p g (L.drop n) err ∧ Keeps (only p) w w'

set_option maxHeartbeats 400000 in
theorem cut_short (p : Nat) (g : Option Nat) (L : List UInt8) (err : Int) (n : Int) (w : World) (h : InAt w p g L err) (hn : L.length < n) :
    Calls Try.prog 64 #[.pointer (some ⟨p, 0, none⟩), .int .i64 n] w fun e w' => e = panicErr 4 ∧ w = w' := by
  obtain ⟨v, hb, hr, _⟩ := h
  have hc0 := hb.cell 0
  simp at hc0
  obtain ⟨A, c, rfl, _⟩ := hr.form
  rw [List.length_map] at hc0
  have hmi : ∀ w, (Instr.makeInterface 25 (.int .i64 4)).run Try.prog w = .ok (.iface 25 (.int .i64 4)) w := fun _ => by kernel_rfl
  clear hr hb
  go_enter Try.func64, Try.ntmps64
  go_wp2
  exact ⟨rfl, rfl, rfl⟩

set_option maxHeartbeats 400000 in
theorem cut_ok (p : Nat) (g : Option Nat) (L : List UInt8) (err : Int) (n : Nat) (w : World) (h : InAt w p g L err) (hn : n ≤ L.length) :
    Calls Try.prog 64 #[.pointer (some ⟨p, 0, none⟩), .int .i64 n] w (RetCut w p g L n err) := by
  obtain ⟨v, hb, hr, hgp⟩ := h
  have hc0 := hb.cell 0
  have hf0 := hb.frozen 0
  simp at hc0
  obtain ⟨A, c, rfl, hlc, hcm⟩ := hr.form
  have hk := (Keeps.refl (only p) w).setCell (p := ⟨p, 0, none⟩) (fun _ => rfl) (.slice (if c = n then A else A.map (·.add (n * 1))) (L.length - n) (c - n))
  have ht := (hr.take n (by simpa using hn) A _ c rfl).keep hk (fun b hb e => hgp (by rw [hb]; exact congrArg some e))
  have hd := (hr.drop n (by simpa using hn) A _ c rfl).keep hk (fun b hb e => hgp (by rw [hb]; exact congrArg some e))
  have hset := hb.set_ 0 (.slice (if c = n then A else A.map (·.add (n * 1))) (L.length - n) (c - n))
  have hfin : RetCut w p g L n err (.returned (.slice A n c)) (w.setCell ⟨p, 0, none⟩ (.slice (if c = n then A else A.map (·.add (n * 1))) (L.length - n) (c - n))) := by
    refine ⟨_, rfl, by rw [List.map_take]; exact ht, ⟨_, by simpa using hset, ?_, hgp⟩, hk⟩
    rw [List.map_drop]
    simpa using hd
  rw [List.length_map] at hc0 hlc
  have Hfin := Lib.hid hfin
  unfold maxLen at hcm
  clear hr hb ht hd hset hk hfin
  have hn1 : ¬ (L.length : Int) < n := by omega
  have hn2 : (n : Int) ≤ L.length := by omega
  have hn3 : (n : Int) ≤ c := by omega
  by_cases hcn : c = n
  · subst hcn
    go_enter Try.func64, Try.ntmps64
    go_wp2
    go_ret
    have h0 : L.length - c = 0 := by omega
    have hf := Hfin.out
    simp only [if_true, Nat.sub_self, h0] at hf
    exact hf
  · go_enter Try.func64, Try.ntmps64
    go_wp2
    go_ret
    have hf := Hfin.out
    simp only [if_neg hcn, Nat.mul_one] at hf
    exact hf
end Go.Proofs.Ytblmbchjafffbaa
