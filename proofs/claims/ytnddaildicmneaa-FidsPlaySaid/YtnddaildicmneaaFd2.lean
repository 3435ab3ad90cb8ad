/-
  fid: All: the keys of the map, collected, sorted, clipped.
-/
import Derived.Test.YtnddaildicmneaaFd1
import Derived.Test.YtnddaildicmneaaIts1
import Derived.Test.YtnddaildicmneaaSrt8
namespace Go.Proofs.Ytnddaildicmneaa
open Go.Proofs Go.RowKit Go.Maps Go.Sort

theorem fd_sorts (m : Nat) : Its.SortsIn Fence.wide m :=
  ⟨fun blk off cap ss W hH hblk hsz => callsIn_wide.2 (Srt.slices_Sort_int blk off cap ss W hH hblk hsz),
   fun p cap W => callsIn_wide.2 (Srt.Sort_int_nil p cap W)⟩
theorem keysL_map (l : List (Nat × FidV)) : keysL (mapD l) = l.map fun p => (p.1 : Int) := by
  simp [keysL, mapD, lkU, litOf]
theorem sorted_keys {l : List (Nat × FidV)} (hr : Rising l) {ss : List Int} (h : ss.Perm (keysL (mapD l))) : ss.mergeSort (fun x y => decide (x ≤ y)) = l.map fun p => (p.1 : Int) := by
  rw [keysL_map] at h
  rw [show ss.mergeSort (fun x y => decide (x ≤ y)) = (l.map fun p => (p.1 : Int)).mergeSort (fun x y => decide (x ≤ y)) from mergeSort_of_perm_i h]
  refine List.mergeSort_of_pairwise ?_
  rw [List.pairwise_map]
  exact hr.imp fun {p q} h => by simp only [decide_eq_true_eq]; omega
theorem ownsRow_low {w : World} {base : Nat} {e : TypeId} {size n : Nat} {v : Value} {xs : List Value} (h : w.ownsRow base e size v n xs) : w.ownsRow 0 e size v n xs :=
  ⟨h.1, h.2.imp id fun ⟨g, cap, cur, h1, _, h3⟩ => ⟨g, cap, cur, h1, Nat.zero_le _, h3⟩⟩
theorem cellsU4 (l : List Nat) : recU4.cells l = l.map fun x : Nat => Value.int .u32 (x : Int) := by
  unfold RecT.cells recU4
  induction l with
  | nil => rfl
  | cons x l ih => simp [ih]

set_option maxRecDepth 8000 in
theorem u4clip_any (v : Value) (l : List Nat) (w : World) (hr : recU4.Row w v l) : Calls Try.prog 47 #[v] w fun e w' => ∃ v' gb, e = .returned v' ∧ recU4.Rd w' v' gb l ∧ (∀ b, gb = some b → v.ownBlock = some b) ∧ w' = w := by
  have hrd := hr.rd
  obtain ⟨A, c, rfl, h1, h2, h4⟩ := hr.form
  have hRd : recU4.Rd w (.slice A l.length l.length) (Value.ownBlock (.slice A l.length c)) l := by
    obtain ⟨A', c', hv, k1, k2, k3, k4, k5⟩ := hrd
    injection hv with e1 e2 e3
    subst e1 e3
    exact ⟨A, _, rfl, Nat.le_refl _, Nat.le_trans k1 k2, k3, k4, fun h => by have := k5 h; omega⟩
  have h1' : (l.length : Int) ≤ c := by omega
  clear h4
  obtain ⟨L, hL⟩ : ∃ L, L = l.length := ⟨_, rfl⟩
  rw [← hL] at hRd h1' h1 ⊢
  have Hr := Lib.hid hr
  have Hrd := Lib.hid hrd
  have HRd := Lib.hid hRd
  have HL := Lib.hid hL
  clear hr hrd hRd hL
  go_enter Try.func47, Try.ntmps47
  go_wp2_with fail
  go_ret
  exact ⟨_, _, rfl, HRd.out, fun b hb => hb, rfl⟩

theorem fall_any (w : World) (p b : Nat) (l : List (Nat × FidV)) (t : FTab w p b l) (hl : l.length ≤ 100000) :
    Calls Try.prog 19 #[fp p] w fun e w' => ∃ v gb, e = .returned v ∧ recU4.Rd w' v gb (l.map (·.1)) ∧ Keeps nowhere w w' := by
  have c0 : w.cell? ⟨p, 0, none⟩ = some (.map (some b)) := t.1.cell 0
  have hK : Calls Try.prog 49 #[.map (some b)] w fun e w' => e = .returned (.func (.func 77) #[] #[.pointer (some ⟨w.heap.size, 0, none⟩)]) ∧ w' = w.alloc (.cells #[.map (some b)] 84) :=
    (callsIn_wide (n := 6)).1 (Its.keys_in Fence.wide 6 trivial rfl (some b) w)
  have hka := (Keeps.refl nowhere w).alloc (.cells #[.map (some b)] 84)
  have hown := (t.2.keep hka (fun h => h)).1
  have hseq := Its.keys_gives Fence.wide 2 trivial rfl (by omega) w.heap.size b _ _ (w.alloc (.cells #[.map (some b)] 84)) (by simp) ((Blk.new w _ _).cell 0) hown
  have hS : Calls Try.prog 48 #[.func (.func 77) #[] #[.pointer (some ⟨w.heap.size, 0, none⟩)]] (w.alloc (.cells #[.map (some b)] 84))
      fun e w' => ∃ v, e = .returned v ∧ recU4.Row w' v (l.map (·.1)) ∧ Keeps nowhere w w' := by
    refine Calls.mono ((callsIn_wide (n := 5)).1 (Its.sorted_in Fence.wide 5 trivial trivial trivial trivial rfl (by omega) (fd_sorts _) (enters_of Try.func76 (by kernel_rfl) rfl) 77 _ trivial (enters_of Try.func77 (by kernel_rfl) rfl) _ _
      (by rw [mapD_size]; unfold maxLen; omega) (by rw [mapD_size]; omega) _ hseq)) ?_
    rintro e w' ⟨v, ss, rfl, hp, hrow, -, hb⟩
    rw [sorted_keys t.2.2 hp] at hrow
    refine ⟨v, rfl, ?_, hka.more (_root_.Go.Proofs.Ytnddaildicmneaa.Below.keeps hb)⟩
    have hlen : ss.length = (l.map (·.1)).length := by rw [hp.length_eq, keysL_map]; simp
    unfold RecT.Row
    rw [cellsU4, ← hlen]
    have := ownsRow_low hrow
    simpa [List.map_map, Function.comp_def, encSrt, recU4] using this
  clear hseq hown hka
  unfold fp
  obtain ⟨ks, hks⟩ : ∃ ks, ks = l.map (·.1) := ⟨_, rfl⟩
  rw [← hks] at hS ⊢
  have HS := Lib.hid hS
  have HK := Lib.hid hK
  have T := Lib.hid t
  have Hks := Lib.hid hks
  clear hS hK t hks
  go_enter Try.func19, Try.ntmps19
  go_wp2_with fail
  refine HK.out.mono ?_
  rintro e w1 ⟨rfl, rfl⟩
  go_wp2_with fail
  refine HS.out.mono ?_
  rintro e w2 ⟨v, rfl, hrow, hk2⟩
  have hc := u4clip_any v ks w2 hrow
  have Hrow := Lib.hid hrow
  have Hk2 := Lib.hid hk2
  have Hc := Lib.hid hc
  clear hrow hk2 hc
  go_wp2_with fail
  refine Hc.out.mono ?_
  rintro e w3 ⟨v', gb, rfl, hrd, -, rfl⟩
  have Hrd := Lib.hid hrd
  clear hrd
  go_wp2_with fail
  go_ret
  exact ⟨v', gb, rfl, Hrd.out, Hk2.out⟩
end Go.Proofs.Ytnddaildicmneaa
