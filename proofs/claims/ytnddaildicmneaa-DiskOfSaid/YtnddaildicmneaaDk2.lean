/-
  disk: the row of the pending writes; the small methods; the deferred 'caught'.
-/
import Derived.Test.YtnddaildicmneaaDk1
import Derived.Test.YtnddaildicmneaaClone
namespace Go.Proofs.Ytnddaildicmneaa
open Go.Proofs Go.RowKit Go.Sort Go.Maps

theorem row_low {α : Type} {R : RecT α} {w : World} {base : Nat} {v : Value} {l : List α} (h : w.ownsRow base R.t R.n v l.length (R.cells l)) : R.Row w v l :=
  ⟨h.1, h.2.imp id fun ⟨g, cap, cur, h1, _, h3⟩ => ⟨g, cap, cur, h1, Nat.zero_le _, h3⟩⟩

/-- the keys of the pending writes, gathered: in some order -/
theorem pcollect_any (w : World) (b : Nat) (ms : List ((Int × Int) × Value)) (h : KMap keyP w b ms) (hl : ms.length ≤ 100000) :
    Calls Try.prog 96 #[.func (.func 98) #[] #[.pointer (some ⟨w.heap.size, 0, none⟩)]] (w.alloc (.cells #[.map (some b)] 94))
      fun e w' => ∃ v ps, e = .returned v ∧ ps.Perm (ms.map (·.1)) ∧ recP.Row w' v ps ∧ Above w.heap.size v.ownBlock ∧ Keeps nowhere w w' := by
  have hka := (Keeps.refl nowhere w).alloc (.cells #[.map (some b)] 94)
  obtain ⟨D, hown, hsz, hhas⟩ := (h.same hka).has
  have hseq := Itp.keys_gives Fence.wide 3 trivial rfl (by omega) w.heap.size b _ _ (w.alloc (.cells #[.map (some b)] 94)) (by simp) ((Blk.new w _ _).cell 0) hown
  refine Calls.mono ((callsIn_wide (n := 5)).1 (Itp.collect_in Fence.wide 5 trivial trivial rfl (by omega) 98 _ trivial (enters_of Try.func98 (by kernel_rfl) rfl) _ _
    (by rw [hsz]; unfold maxLen; omega) (by rw [hsz]; omega) _ hseq)) ?_
  rintro e w' ⟨v, ss, rfl, hk, hrow, -, hb⟩
  refine ⟨v, ss, rfl, hk.perm h.ok h.nd hhas, row_low (R := recP) hrow, fun b hb' => ?_, hka.more (_root_.Go.Proofs.Ytnddaildicmneaa.Below.keeps hb)⟩
  have := (hrow.lt b hb').1
  simp at this
  omega

set_option maxHeartbeats 1000000 in
theorem prow_any (w : World) (d b n : Nat) (sec : Nat → Int) (ms : List ((Int × Int) × Value)) (c2 : w.cell? ⟨d, 2, none⟩ = some (.map (some b))) (h : KMap keyP w b ms) (hms : ms.map (·.1) = (List.range n).map (plc sec)) (hn : n ≤ 100000) :
    Calls Try.prog 59 #[.pointer (some ⟨d, 0, none⟩)] w fun e w' => ∃ v, e = .returned v ∧ recP.Row w' v ((List.range n).map (plc sec)) ∧ Above w.heap.size v.ownBlock ∧ Keeps nowhere w w' := by
  have hml : ms.length = n := by have := congrArg List.length hms; simpa using this
  have hK : Calls Try.prog 79 #[.map (some b)] w fun e w' => e = .returned (.func (.func 98) #[] #[.pointer (some ⟨w.heap.size, 0, none⟩)]) ∧ w' = w.alloc (.cells #[.map (some b)] 94) :=
    (callsIn_wide (n := 6)).1 (Itp.keys_in Fence.wide 6 trivial rfl (some b) w)
  have hC := pcollect_any w b ms h (by omega)
  rw [hms] at hC
  have hS : Calls Try.prog 78 #[.func (.func 98) #[] #[.pointer (some ⟨w.heap.size, 0, none⟩)], .func (.func 80) #[] #[]] (w.alloc (.cells #[.map (some b)] 94))
      fun e w' => ∃ v, e = .returned v ∧ recP.Row w' v ((List.range n).map (plc sec)) ∧ Above w.heap.size v.ownBlock ∧ Keeps nowhere w w' := by
    obtain ⟨W, hW⟩ : ∃ W, W = w.alloc (.cells #[.map (some b)] 94) := ⟨_, rfl⟩
    rw [← hW] at hC ⊢
    clear hK h c2
    have HC := Lib.hid hC
    have Hms := Lib.hid hms
    have HW := Lib.hid hW
    clear hC hms hW
    go_enter Try.func78, Try.ntmps78
    go_wp2_with fail
    refine HC.out.mono ?_
    rintro e w1 ⟨v, ps, rfl, hp, hrow, hab, hk⟩
    have hs := psort_any sec n (by omega) v ps hp w1 hrow
    have Hp := Lib.hid hp
    have Hrow := Lib.hid hrow
    have Hab := Lib.hid hab
    have Hk := Lib.hid hk
    have Hs := Lib.hid hs
    clear hp hrow hab hk hs
    go_wp2_with fail
    refine Hs.out.mono ?_
    rintro e w2 ⟨rfl, hrow2, hk2⟩
    have Hrow2 := Lib.hid hrow2
    have Hk2 := Lib.hid hk2
    clear hrow2 hk2
    go_wp2_with fail
    go_ret
    exact ⟨v, rfl, Hrow2.out, Hab.out, Hk.out.trans Hk2.out (fun b hb e => absurd (Hab.out b e) (by omega))⟩
  clear hC
  have HS := Lib.hid hS
  have HK := Lib.hid hK
  have H := Lib.hid h
  have Hms := Lib.hid hms
  clear hS hK h hms
  go_enter Try.func59, Try.ntmps59
  go_wp2_with fail
  refine HK.out.mono ?_
  rintro e w1 ⟨rfl, rfl⟩
  go_wp2_with fail
  refine HS.out.mono ?_
  rintro e w2 ⟨v, rfl, hrow, hab, hk2⟩
  have Hrow := Lib.hid hrow
  have Hab := Lib.hid hab
  have Hk2 := Lib.hid hk2
  clear hrow hab hk2
  go_wp2_with fail
  go_ret
  exact ⟨v, rfl, Hrow.out, Hab.out, Hk2.out⟩

/-! ### small methods -/
theorem right_any (s z : Int) (w : World) : Calls Try.prog 50 #[.int .i64 s, .int .i64 z] w fun e w' => e = .returned (.bool (decide (1 ≤ s) && decide (s ≤ 16384) && decide (64 ≤ z) && decide (z ≤ 1024))) ∧ w = w' := by
  by_cases h1 : 1 ≤ s
  · by_cases h2 : s ≤ 16384
    · by_cases h3 : 64 ≤ z
      · by_cases h4 : z ≤ 1024
        · go_enter Try.func50, Try.ntmps50
          go_wp2
          go_ret
          simp [h1, h2, h3, h4]
        · go_enter Try.func50, Try.ntmps50
          go_wp2
          go_ret
          simp [h1, h2, h3, h4]
      · go_enter Try.func50, Try.ntmps50
        go_wp2
        go_ret
        simp [h1, h2, h3]
        omega
    · go_enter Try.func50, Try.ntmps50
      go_wp2
      go_ret
      simp [h1, h2]
      omega
  · go_enter Try.func50, Try.ntmps50
    go_wp2
    go_ret
    simp [h1]
    omega

set_option maxHeartbeats 400000 in
theorem dcaught_idle (p : Nat) (w : World) :
    CallsD Try.prog 52 #[.pointer (some ⟨p, 0, none⟩)] .returning w fun e u' w' => e = .returned (.tuple #[]) ∧ u' = .returning ∧ w' = w := by
  refine callsD_of_wpS Try.func52 rfl fun c₀ cs hu => ?_
  apply wpS_seq
  apply wpS_region
  simp [wpOpsS, go_sem, recoverD, hu, Try.ntmps52, Exit.thenS, Array.replicate_succ]
  refine wpS_of_wp ?_
  go_wp2
  cases c₀
  simp_all [bodyPostS, results, Try.results52]

set_option maxHeartbeats 400000 in
theorem dcaught_panic (p : Nat) (x : Int) (y : Value) (older : List PanicEntry) (w : World) (hb : Blk w p 34 #[y]) :
    CallsD Try.prog 52 #[.pointer (some ⟨p, 0, none⟩)] (.panicking ({ v := .iface 34 (.int .i64 x), recovered := false } :: older)) w fun e u' w' =>
      e = .returned (.tuple #[]) ∧ u' = .panicking ({ v := .iface 34 (.int .i64 x), recovered := true } :: older) ∧ w' = w.setCell ⟨p, 0, none⟩ (.int .i64 x) := by
  have hc1 := hb.cell 0
  have hf1 := hb.frozen 0
  simp at hc1
  clear hb
  have hta : ∀ w, (Instr.typeAssert (.iface 34 (.int .i64 x)) 20 34 true).run Try.prog w = .ok (.tuple #[.int .i64 x, .bool true]) w := fun _ => by kernel_rfl
  have heq : ∀ w, (binOp .eql 20 (.iface 34 (.int .i64 x)) .nilIface).run Try.prog w = .ok (.bool false) w := fun _ => by kernel_rfl
  refine callsD_of_wpS Try.func52 rfl fun c₀ cs hu => ?_
  apply wpS_seq
  apply wpS_region
  simp [wpOpsS, go_sem, recoverD, hu, Try.ntmps52, Exit.thenS, Array.replicate_succ]
  refine wpS_of_wp ?_
  go_wp2
  simp [bodyPostS, results, Try.results52]
end Go.Proofs.Ytnddaildicmneaa
