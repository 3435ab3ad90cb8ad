/-
  loggialaw25.without: a row of jobs without one.
-/
import Derived.Test.YtnccgmffgmfinaaQL1
namespace Go.Proofs.Ytnccgmffgmfinaa
open Go.RowKit Go.Shelf

theorem JRd.drop {w : World} {b off n cap : Nat} {g : Option Nat} {l : List J} (h : JRd w (.slice (some ⟨b, off, none⟩) n cap) g l) (k : Nat) (hk : k ≤ l.length) : JRd w (.slice (some ⟨b, off + k * 4, none⟩) (n - k) (cap - k)) g (l.drop k) := by
  obtain ⟨A', cap', hv, h1, h2, hu, h3, h4⟩ := h
  injection hv with ha hn hc
  subst ha hc
  refine ⟨_, cap - k, by rw [List.length_drop, ← hn], by rw [List.length_drop]; omega, by omega, hu, fun hp => ?_, fun h => by cases h⟩
  rw [List.length_drop] at hp
  obtain ⟨b', off', hA, hg, hc⟩ := h3 (by omega)
  injection hA with hA
  injection hA with hb ho
  subst hb ho
  refine ⟨b, _, rfl, hg, fun i t hi => ?_⟩
  rw [List.getElem?_drop] at hi
  have := hc _ t hi
  rw [show off + (k + i) * 4 = off + k * 4 + i * 4 by rw [Nat.add_mul]; omega] at this
  exact this
theorem JRd.nothing {w : World} {A : Option Addr} {n cap : Nat} {g : Option Nat} {l : List J} (h : JRd w (.slice A n cap) g l) (c : Nat) (hc : c ≤ maxLen) (hA : A ≠ none) : JRd w (.slice A 0 c) g [] := by
  obtain ⟨A', cap', hv, h1, h2, hu, h3, h4⟩ := h
  exact ⟨A, c, rfl, Nat.zero_le _, hc, hu, fun hp => absurd hp (by simp), fun h => absurd h hA⟩
theorem JRow.empty (w : World) : JRow (w.alloc (.cells #[] 45)) (.slice (some ⟨w.heap.size, 0, none⟩) 0 0) [] := World.ownsRow_made w #[] 0 (Nat.zero_le _) (Nat.zero_le _) rfl

def RetRowJ (l : List J) (w : World) : Ending → World → Prop := fun e w' => ∃ v, e = .returned v ∧ JRow w' v l ∧ Above w.heap.size v.ownBlock ∧ Keeps nowhere w w'

set_option maxRecDepth 8000 in
set_option maxHeartbeats 2000000 in
theorem lwithout_any (v : Value) (g : Option Nat) (l : List J) (i : Nat) (w : World) (hr : JRd w v g l) (hl : l.length ≤ 512) (hi : i < l.length) : Calls Try.prog 26 #[v, .int .i64 i] w (RetRowJ (l.eraseIdx i) w) := by
  have hr0 := hr
  obtain ⟨A, cap, rfl, h1, h2, hu, h3, -⟩ := hr
  obtain ⟨b, off, rfl, hgb, -⟩ := h3 (by omega)
  have hwd : w.drew.heap.size = w.heap.size := rfl
  have hka : Keeps nowhere w (w.drew.alloc (.cells #[] 45)) := (Keeps.refl nowhere w).drew.alloc _
  have hra := hr0.keep hka (fun _ _ h => h)
  have hrt := hra.take i (by omega)
  have hrow0 := JRow.empty w.drew
  obtain ⟨L, hL⟩ : ∃ L, L = l.length := ⟨_, rfl⟩
  have hdrop : ∀ w', Keeps nowhere w w' → ∃ v', (v' = if cap = i + 1 then Value.slice (some ⟨b, off, none⟩) (L - (i + 1)) (cap - (i + 1)) else .slice (some ⟨b, off + (i + 1) * 4, none⟩) (L - (i + 1)) (cap - (i + 1))) ∧ JRd w' v' g (l.drop (i + 1)) := fun w' hk => by
    refine ⟨_, rfl, ?_⟩
    have hr1 := hr0.keep hk (fun _ _ h => h)
    rw [← hL] at hr1
    split
    · rename_i hc
      rw [show L - (i + 1) = 0 by omega, List.drop_eq_nil_of_le (by omega)]
      exact hr1.nothing _ (by omega) (by simp)
    · exact hr1.drop (i + 1) (by omega)
  rw [← hL] at hl hi h1 ⊢
  have hi0 : (0 : Int) ≤ i := by omega
  have hi1 : (i : Int) ≤ i + 1 := by omega
  have hi2 : (i : Int) + 1 ≤ L := by omega
  have hi3 : (i : Int) ≤ cap := by omega
  have hi4 : (i : Int) + 1 ≤ cap := by omega
  have hi5 : ((i : Int) + 1).toNat = i + 1 := by omega
  have hi6 : IntKind.i64.wrap ((i : Int) + 1) = i + 1 := IntWalk.i64_in _ (by omega)
  have hLc : (L : Int) ≤ cap := by omega
  have htl : (l.take i).length = i := by rw [List.length_take]; omega
  have Hr0 := Lib.hid hr0
  have Hu := Lib.hid hu
  have HL := Lib.hid hL
  have Hra := Lib.hid hra
  have Hrt := Lib.hid hrt
  have Hrow0 := Lib.hid hrow0
  have Hdrop := Lib.hid hdrop
  have Hka := Lib.hid hka
  have Htl := Lib.hid htl
  have H3 := Lib.hid h3
  clear hr0 hu hL hra hrt hrow0 hdrop hka htl h3
  by_cases hcc : cap = i + 1
  · subst hcc
    obtain rfl : L = i + 1 := by omega
    go_enter Try.func26, Try.ntmps26
    go_wp2_with fail
    refine wp_region_script [1, 2, 3, 5, 6, 7, 8] [] [.ps [1, 2, 3, 5, 6, 7, 8], .es [0, 4, 9, 10] false] (fun _ => True) rfl (by kernel_rfl) ?_
    refine wpS_ps rfl fun K hK => ?_
    simp only [List.map_cons, List.map_nil, Option.getD_some, List.getElem?_toArray, List.getElem?_cons_zero, List.getElem?_cons_succ]
    iterate 7 (first | (apply quietO_cons _ rfl; (intro w' _; go_simp; rfl)) | apply quietO_skip rfl)
    refine hK _ ?_
    clear hK K
    simp only [Act.put, List.setIfInBounds_toArray, List.set_cons_zero, List.set_cons_succ]
    refine wpS_es rfl fun K hK => ?_
    have HK := Lib.hid hK
    clear hK
    simp only [List.map_cons, List.map_nil, Option.getD_some, List.getElem?_toArray, List.getElem?_cons_zero, List.getElem?_cons_succ]
    go_wp2_with (at_builtin; go_must (refine wpList_append_jobs rfl (.tmp 5) (.tmp 8) rfl _ [] rfl Hrow0.out _ _ (l.take i) rfl Hrt.out (by rw [Htl.out]; simp; omega) ?_))
    intro v5 w5 hrow5 hk5 hf5
    have hk6 : Keeps nowhere w w5 := Hka.out.trans hk5 (fun b hb e => by simp [Value.ownBlock] at e; omega)
    have hab5 : Above w.heap.size v5.ownBlock := fun b hb => by
      rcases hf5 b hb with h | h
      · simp [Value.ownBlock] at h; omega
      · omega
    obtain ⟨src, hsrc, hrd⟩ := Hdrop.out w5 hk6
    simp only [if_true, Nat.sub_self] at hsrc
    subst hsrc
    clear hk5 hf5
    have Hrow5 := Lib.hid hrow5
    have Hk6 := Lib.hid hk6
    have Hab5 := Lib.hid hab5
    have Hrd := Lib.hid hrd
    clear hrow5 hk6 hab5 hrd
    go_wp2_with (at_builtin; go_must (refine wpList_append_jobs rfl (.tmp 9) (.tmp 13) rfl _ (l.take i) rfl Hrow5.out _ _ (l.drop (i + 1)) rfl Hrd.out (by rw [Htl.out, List.length_drop, ← HL.out]; omega) ?_))
    intro v7 w7 hrow7 hk7 hf7
    rw [erase_eq] at hrow7
    have hk8 : Keeps nowhere w w7 := Hk6.out.trans hk7 (fun b hb e => absurd (Hab5.out b e) (by omega))
    have hab7 : Above w.heap.size v7.ownBlock := fun b hb => by
      rcases hf7 b hb with h | h
      · exact Hab5.out b h
      · exact Nat.le_trans Hk6.out.size h
    clear hk7 hf7
    have Hrow7 := Lib.hid hrow7
    have Hk8 := Lib.hid hk8
    have Hab7 := Lib.hid hab7
    clear hrow7 hk8 hab7
    go_wp2_with fail
    go_wp2_with fail
    refine HK.out _ _ (fun h => by cases h) ?_
    clear HK K
    refine wpS_nil ?_
    go_wp2_with fail
    go_ret
    exact ⟨_, rfl, Hrow7.out, Hab7.out, Hk8.out⟩
  · skip
    go_enter Try.func26, Try.ntmps26
    go_wp2_with fail
    refine wp_region_script [1, 2, 3, 5, 6, 7, 8] [] [.ps [1, 2, 3, 5, 6, 7, 8], .es [0, 4, 9, 10] false] (fun _ => True) rfl (by kernel_rfl) ?_
    refine wpS_ps rfl fun K hK => ?_
    simp only [List.map_cons, List.map_nil, Option.getD_some, List.getElem?_toArray, List.getElem?_cons_zero, List.getElem?_cons_succ]
    iterate 7 (first | (apply quietO_cons _ rfl; (intro w' _; go_simp; rfl)) | apply quietO_skip rfl)
    refine hK _ ?_
    clear hK K
    simp only [Act.put, List.setIfInBounds_toArray, List.set_cons_zero, List.set_cons_succ]
    refine wpS_es rfl fun K hK => ?_
    have HK := Lib.hid hK
    clear hK
    simp only [List.map_cons, List.map_nil, Option.getD_some, List.getElem?_toArray, List.getElem?_cons_zero, List.getElem?_cons_succ]
    go_wp2_with (at_builtin; go_must (refine wpList_append_jobs rfl (.tmp 5) (.tmp 8) rfl _ [] rfl Hrow0.out _ _ (l.take i) rfl Hrt.out (by rw [Htl.out]; simp; omega) ?_))
    intro v5 w5 hrow5 hk5 hf5
    have hk6 : Keeps nowhere w w5 := Hka.out.trans hk5 (fun b hb e => by simp [Value.ownBlock] at e; omega)
    have hab5 : Above w.heap.size v5.ownBlock := fun b hb => by
      rcases hf5 b hb with h | h
      · simp [Value.ownBlock] at h; omega
      · omega
    obtain ⟨src, hsrc, hrd⟩ := Hdrop.out w5 hk6
    rw [if_neg hcc] at hsrc
    subst hsrc
    clear hk5 hf5
    have Hrow5 := Lib.hid hrow5
    have Hk6 := Lib.hid hk6
    have Hab5 := Lib.hid hab5
    have Hrd := Lib.hid hrd
    clear hrow5 hk6 hab5 hrd
    go_wp2_with (at_builtin; go_must (refine wpList_append_jobs rfl (.tmp 9) (.tmp 13) rfl _ (l.take i) rfl Hrow5.out _ _ (l.drop (i + 1)) rfl Hrd.out (by rw [Htl.out, List.length_drop, ← HL.out]; omega) ?_))
    intro v7 w7 hrow7 hk7 hf7
    rw [erase_eq] at hrow7
    have hk8 : Keeps nowhere w w7 := Hk6.out.trans hk7 (fun b hb e => absurd (Hab5.out b e) (by omega))
    have hab7 : Above w.heap.size v7.ownBlock := fun b hb => by
      rcases hf7 b hb with h | h
      · exact Hab5.out b h
      · exact Nat.le_trans Hk6.out.size h
    clear hk7 hf7
    have Hrow7 := Lib.hid hrow7
    have Hk8 := Lib.hid hk8
    have Hab7 := Lib.hid hab7
    clear hrow7 hk8 hab7
    go_wp2_with fail
    go_wp2_with fail
    refine HK.out _ _ (fun h => by cases h) ?_
    clear HK K
    refine wpS_nil ?_
    go_wp2_with fail
    go_ret
    exact ⟨_, rfl, Hrow7.out, Hab7.out, Hk8.out⟩
end Go.Proofs.Ytnccgmffgmfinaa
