/-
  geom: Decode.
-/
import Derived.Test.YtblmbchjafffbaaG5
import Derived.Test.YtblmbchjafffbaaI5
namespace Go.Proofs.Ytblmbchjafffbaa
open Go.RowKit

def zcG : Array Value := #[.int .i64 0, .int .i64 0, .int .i64 0]
def zeroG : Geo := ⟨0, 0, 0⟩
set_option maxHeartbeats 800000 in
set_option maxRecDepth 20000 in
theorem gdec_idle (p q : Nat) (w : World) :
    CallsD Try.prog 53 #[.pointer (some ⟨p, 0, none⟩), .pointer (some ⟨q, 0, none⟩)] .returning w fun e u' w' => e = .returned (.tuple #[]) ∧ u' = .returning ∧ w' = w := by
  have hn0 : ∀ w, (binOp .neq 20 .nilIface .nilIface).run Try.prog w = .ok (.bool false) w := fun _ => by kernel_rfl
  refine callsD_of_wpS Try.func53 rfl fun c₀ cs hu => ?_
  apply wpS_seq
  apply wpS_region
  simp [wpOpsS, go_sem, recoverD, hu, Try.ntmps53, Exit.thenS, Array.replicate_succ]
  refine wpS_of_wp ?_
  go_wp2
  cases c₀
  simp_all [bodyPostS, results, Try.results53]

set_option maxHeartbeats 800000 in
set_option maxRecDepth 20000 in
theorem gdec_panic (p q : Nat) (x : Value) (older : List PanicEntry) (w : World) (hb : Blk w p 60 zcG) (hq : Blk w q 25 #[x]) (hne : p ≠ q) :
    CallsD Try.prog 53 #[.pointer (some ⟨p, 0, none⟩), .pointer (some ⟨q, 0, none⟩)] (.panicking ({ v := .iface 95 (.agg #[]), recovered := false } :: older)) w fun e u' w' =>
      e = .returned (.tuple #[]) ∧ u' = .panicking ({ v := .iface 95 (.agg #[]), recovered := true } :: older) ∧ Blk w' p 60 zcG ∧ Blk w' q 25 #[.int .i64 2] ∧ Keeps (fun k => k = p ∨ k = q) w w' := by
  have hn1 : ∀ w, (binOp .neq 20 (.iface 95 (.agg #[])) .nilIface).run Try.prog w = .ok (.bool true) w := fun _ => by kernel_rfl
  have hn2 : ∀ w, (binOp .neq 20 (.iface 95 (.agg #[])) (.iface 95 (.agg #[]))).run Try.prog w = .ok (.bool false) w := fun _ => by kernel_rfl
  have hmi : ∀ w, (Instr.makeInterface 95 (.agg #[])).run Try.prog w = .ok (.iface 95 (.agg #[])) w := fun _ => by kernel_rfl
  have z0 : w.cell? ⟨p, 0, none⟩ = some (.int .i64 0) := hb.cell 0
  have z1 : w.cell? ⟨p, 1, none⟩ = some (.int .i64 0) := hb.cell 1
  have z2 : w.cell? ⟨p, 2, none⟩ = some (.int .i64 0) := hb.cell 2
  have fz : ∀ k, w.frozen? ⟨p, k, none⟩ = false := fun k => hb.frozen k
  have cq : w.cell? ⟨q, 0, none⟩ = some x := hq.cell 0
  have fq := hq.frozen 0
  have hbz := fillG_blk (g := zeroG) hb
  have hqz := hq.keep (fillG_keeps (g := zeroG) (b := p) (Keeps.refl (only p) w) (fun _ => rfl)) (fun e => hne e.symm)
  have hkz := fillG_keeps (g := zeroG) (b := p) (Keeps.refl (fun k => k = p ∨ k = q) w) (fun _ => .inl rfl)
  have Hbz := Lib.hid hbz
  have Hqz := Lib.hid hqz
  have Hkz := Lib.hid hkz
  have Hb := Lib.hid hb
  have Hq := Lib.hid hq
  clear hbz hqz hkz hb hq
  refine callsD_of_wpS Try.func53 rfl fun c₀ cs hu => ?_
  apply wpS_seq
  apply wpS_region
  simp [wpOpsS, go_sem, recoverD, hu, Try.ntmps53, Exit.thenS, Array.replicate_succ]
  refine wpS_of_wp ?_
  go_wp2
  simp [bodyPostS, results, Try.results53]
  have hfin : Blk ((fillG w p zeroG).setCell ⟨q, 0, none⟩ (.int .i64 2)) p 60 zcG ∧ Blk ((fillG w p zeroG).setCell ⟨q, 0, none⟩ (.int .i64 2)) q 25 #[.int .i64 2] ∧ Keeps (fun k => k = p ∨ k = q) w ((fillG w p zeroG).setCell ⟨q, 0, none⟩ (.int .i64 2)) :=
    ⟨Hbz.out.far hne _, by simpa using Hqz.out.set_ 0 (.int .i64 2), Hkz.out.setCell (fun _ => .inr rfl) _⟩
  exact hfin

def decGo (L : List UInt8) : Geo := if goodG L then rdG L else zeroG
def decGe (L : List UInt8) : Int := if goodG L then 0 else 2
def RetDecG (w : World) (L : List UInt8) : Ending → World → Prop := fun e w' =>
  e = .returned (.tuple #[(decGo L).val, .int .i64 (decGe L)]) ∧ Keeps nowhere w w'

set_option maxHeartbeats 1600000 in
set_option maxRecDepth 20000 in
theorem gdecode (v0 : Value) (g0 : Option Nat) (L : List UInt8) (w : World) (hr : Rd w v0 g0 (L.map bv)) (hb : L.length ≤ 1099511627776) :
    Calls Try.prog 35 #[v0] w (RetDecG w L) := by
  have hmf : ∀ (fn : Fn) (first cap : Array Value) (w : World), (Instr.makeFunc fn first cap).run Try.prog w = .ok (.func fn first cap) w := fun _ _ _ _ => rfl
  obtain ⟨w1, hw1⟩ : ∃ w1, w1 = (w.alloc (.cells zcG 60)).alloc (.cells #[.int .i64 0] 25) := ⟨_, rfl⟩
  have hk1 : Keeps nowhere w w1 := by rw [hw1]; exact ((Keeps.refl _ _).alloc _).alloc _
  have hb1 : Blk w1 w.heap.size 60 zcG := by rw [hw1]; exact (Blk.new _ _ _).alloc _
  have hq1 : Blk w1 (w.heap.size + 1) 25 #[.int .i64 0] := by
    have := Blk.new (w.alloc (.cells zcG 60)) 25 #[.int .i64 0]
    rw [hw1]
    simpa using this
  have hr1 := hr.keep hk1 (fun _ _ h => h)
  unfold zcG at hw1
  have Hr := Lib.hid hr
  have Hw1 := Lib.hid hw1
  have Hk1 := Lib.hid hk1
  have Hb1 := Lib.hid hb1
  have Hq1 := Lib.hid hq1
  have Hr1 := Lib.hid hr1
  clear hr hw1 hk1 hb1 hq1 hr1
  go_enter_defers Try.func35, Try.ntmps35
  go_wp2_with fail
  rw [← Hw1.out]
  refine (gread _ _ L _ Hr1.out hb).mono ?_
  rintro e w2 ⟨he, hk2⟩
  have hb2 := Hb1.out.keep hk2 (fun h => h)
  have hq2 := Hq1.out.keep hk2 (fun h => h)
  have hkw2 := Hk1.out.more hk2
  by_cases hg : goodG L
  · rw [if_pos hg] at he
    subst he
    have z0 : w2.cell? ⟨w.heap.size, 0, none⟩ = some (.int .i64 0) := hb2.cell 0
    have z1 : w2.cell? ⟨w.heap.size, 1, none⟩ = some (.int .i64 0) := hb2.cell 1
    have z2 : w2.cell? ⟨w.heap.size, 2, none⟩ = some (.int .i64 0) := hb2.cell 2
    have fz : ∀ k, w2.frozen? ⟨w.heap.size, k, none⟩ = false := fun k => hb2.frozen k
    have cq : w2.cell? ⟨w.heap.size + 1, 0, none⟩ = some (.int .i64 0) := hq2.cell 0
    have fq := hq2.frozen 0
    obtain ⟨i, hi⟩ : ∃ i, i = rdG L := ⟨_, rfl⟩
    have hdi : (decGo L).val = i.val ∧ decGe L = 0 := by rw [hi, decGo, decGe, if_pos hg, if_pos hg]; exact ⟨rfl, rfl⟩
    rw [← hi]
    have hbz := (fillG_blk (g := i) hb2).far (p := ⟨w.heap.size + 1, 0, none⟩) (by simp) (.int .i64 0)
    have hqz := (hq2.keep (fillG_keeps (g := i) (b := w.heap.size) (Keeps.refl (only w.heap.size) w2) (fun _ => rfl)) (fun e => by unfold only at e; omega)).set_ 0 (.int .i64 0)
    have hkz := (fillG_keeps (g := i) (b := w.heap.size) hkw2 (fun h => absurd h (Nat.lt_irrefl _))).setCell (p := ⟨w.heap.size + 1, 0, none⟩) (fun h => by simp only at h; omega) (.int .i64 0)
    unfold Geo.val
    have Hb2 := Lib.hid hb2
    have Hq2 := Lib.hid hq2
    have Hk2 := Lib.hid hk2
    have Hkw2 := Lib.hid hkw2
    have Hg := Lib.hid hg
    have Hi := Lib.hid hi
    have Hdi := Lib.hid hdi
    have Hbz := Lib.hid hbz
    have Hqz := Lib.hid hqz
    have Hkz := Lib.hid hkz
    clear hb2 hq2 hk2 hkw2 hg hi hdi hbz hqz hkz
    go_wp2_with fail
    obtain ⟨wz, hwz⟩ : ∃ wz, wz = (fillG w2 w.heap.size i).setCell ⟨w.heap.size + 1, 0, none⟩ (.int .i64 0) := ⟨_, rfl⟩
    have hwz' := hwz
    unfold fillG at hwz'
    rw [← hwz']
    have hbz := Hbz.out
    have hqz := Hqz.out
    have hkz := Hkz.out
    rw [← hwz] at hbz hqz hkz
    clear hwz hwz' z0 z1 z2 fz cq fq Hbz Hqz Hkz
    refine leaves_cons (f := 53) (args := #[.pointer (some ⟨w.heap.size, 0, none⟩), .pointer (some ⟨w.heap.size + 1, 0, none⟩)]) (by simp) (by simp [go_sem]) ?_
    refine (gdec_idle w.heap.size (w.heap.size + 1) wz).mono ?_
    rintro e u' w'' ⟨rfl, rfl, rfl⟩
    have c0 := hbz.cell 0
    have c1 := hbz.cell 1
    have c2 := hbz.cell 2
    simp [zcG] at c0 c1 c2
    have cq : w''.cell? ⟨w.heap.size + 1, 0, none⟩ = some (.int .i64 0) := by simpa using hqz.cell 0
    simp [Leaves, settle, results, Try.results35, go_sem, c0, c1, c2, cq]
    exact ⟨by rw [Hdi.out.1, Hdi.out.2]; rfl, hkz⟩
  · rw [if_neg hg] at he
    subst he
    have hdi : (decGo L).val = zeroG.val ∧ decGe L = 2 := by rw [decGo, decGe, if_neg hg, if_neg hg]; exact ⟨rfl, rfl⟩
    refine leaves_cons (f := 53) (args := #[.pointer (some ⟨w.heap.size, 0, none⟩), .pointer (some ⟨w.heap.size + 1, 0, none⟩)]) (by simp) (by simp [go_sem]) ?_
    refine (gdec_panic w.heap.size (w.heap.size + 1) (.int .i64 0) [] w2 hb2 hq2 (by omega)).mono ?_
    rintro e u' w'' ⟨rfl, rfl, hb3, hq3, hk3⟩
    have c0 := hb3.cell 0
    have c1 := hb3.cell 1
    have c2 := hb3.cell 2
    simp [zcG] at c0 c1 c2
    have cq : w''.cell? ⟨w.heap.size + 1, 0, none⟩ = some (.int .i64 2) := by simpa using hq3.cell 0
    simp [Leaves, settle, results, Try.results35, go_sem, c0, c1, c2, cq]
    refine ⟨by rw [hdi.1, hdi.2]; rfl, hkw2.trans hk3 fun x hx e => ?_⟩
    rcases e with e | e <;> omega
end Go.Proofs.Ytblmbchjafffbaa
