/-
  slices.Delete at jobs; sched's Cut.
-/
import Derived.Test.YtnccgmffgmfinaaQ3
import Derived.OwnWalk
import Derived.Laws.IdiomCopy
namespace Go.Proofs.Ytnccgmffgmfinaa
open Go.RowKit Go.Shelf

theorem blk_setCells {b : Nat} {T : TypeId} : ∀ (vs : List Value) (o : Nat) (w : World) (cs : Array Value), Blk w b T cs → ∃ cs', Blk (w.setCells b o vs) b T cs' ∧ cs'.size = cs.size ∧ (∀ j, j < o → cs'[j]? = cs[j]?) ∧ Keeps (only b) w (w.setCells b o vs)
  | [], o, w, cs, h => ⟨cs, h, rfl, fun _ _ => rfl, Keeps.refl _ _⟩
  | v :: vs, o, w, cs, h => by
    obtain ⟨cs', h1, h2, h3, h4⟩ := blk_setCells vs (o + 1) (w.setCell ⟨b, o, none⟩ v) _ (h.set_ o v)
    refine ⟨cs', h1, by rw [h2]; simp, fun j hj => ?_, ?_⟩
    · rw [h3 j (by omega), Array.getElem?_setIfInBounds, if_neg (by omega)]
    · exact ((Keeps.refl (only b) w).setCell (p := ⟨b, o, none⟩) (fun _ => rfl) v).trans h4 (fun _ _ h => h)

theorem row_clear (w : World) (b cap n c : Nat) (l : List J) (hr : JRow w (.slice (some ⟨b, 0, none⟩) l.length cap) l) (hn : 0 < n) (hle : l.length + n ≤ cap) :
    ∃ w', (∀ ty, (Builtin.clear_ #[42] ty #[.slice (some ⟨b, l.length * 4, none⟩) n c]).run Try.prog w = .ok (.tuple #[]) w') ∧ JRow w' (.slice (some ⟨b, 0, none⟩) l.length cap) l ∧ Keeps (only b) w w' := by
  rcases hr.blk with ⟨h, _⟩ | ⟨b', cap', rest, hv, hb, h1, h2, h3⟩
  · cases h
  · injection hv with ha _ hc
    injection ha with ha
    injection ha with ha
    subst ha hc
    obtain ⟨Z, hZ⟩ : ∃ Z, Z = (Builtin.zeroCells (Value.cells (.agg #[.int .i64 0, .int .u16 0, .int .u16 0, .bool false])) n).toList := ⟨_, rfl⟩
    have hZl : Z.length = n * 4 := by rw [hZ]; simp [Builtin.zeroCells, Value.cells]
    have hsz : (cellsJ l ++ rest).toArray.size = cap * 4 := by simp [cellsJ_len]; omega
    have hcell : ∀ j, j < Z.length → (w.cell? ⟨b, l.length * 4 + j, none⟩).isSome = true := fun j hj => by
      rw [hb.cell, Array.getElem?_eq_getElem (by rw [hsz]; omega)]; rfl
    have hst := run_storeCells_cells (P := Try.prog) b (l.length * 4) Z 0 w (by simpa using hcell) (fun j _ => by simpa using hb.frozen _) (by
      intro v hv
      rw [hZ] at hv
      simp [Builtin.zeroCells, Value.cells] at hv
      obtain ⟨a, _, rfl⟩ := hv
      have ha : a % 4 < 4 := Nat.mod_lt _ (by omega)
      generalize a % 4 = k at ha
      rcases (by omega : k = 0 ∨ k = 1 ∨ k = 2 ∨ k = 3) with rfl | rfl | rfl | rfl <;> rfl)
    simp only [Nat.add_zero] at hst
    obtain ⟨cs', h4, h5, h6, h7⟩ := blk_setCells Z (l.length * 4) w _ hb
    refine ⟨w.setCells b (l.length * 4) Z, fun ty => ?_, ?_, h7⟩
    · obtain ⟨m, rfl⟩ : ∃ m, n = m + 1 := ⟨n - 1, by omega⟩
      simp [Builtin.clear_, run_underlying Try.underlying42, Try.zeroValue45, ← hZ, hst]
    · have hcs : cs' = (cellsJ l ++ cs'.toList.drop (l.length * 4)).toArray := by
        apply Array.ext'
        show cs'.toList = cellsJ l ++ cs'.toList.drop (l.length * 4)
        have ht : cs'.toList.take (l.length * 4) = cellsJ l := by
          apply List.ext_getElem?
          intro j
          by_cases hj : j < l.length * 4
          · rw [List.getElem?_take, if_pos hj, Array.getElem?_toList, h6 j hj, List.getElem?_toArray, List.getElem?_append_left (by rw [cellsJ_len]; exact hj)]
          · rw [List.getElem?_eq_none (by simp; omega), List.getElem?_eq_none (by rw [cellsJ_len]; omega)]
        conv => lhs; rw [← List.take_append_drop (l.length * 4) cs'.toList, ht]
      rw [hcs] at h4
      refine JRow.of_blk h4 ?_ h3
      rw [List.length_drop, show cs'.toList.length = cap * 4 by rw [Array.length_toList, h5, hsz]]
      omega

theorem erase_eq (l : List J) (i : Nat) : l.take i ++ l.drop (i + 1) = l.eraseIdx i := by rw [List.eraseIdx_eq_take_drop_succ]
def RetDel (b cap : Nat) (l : List J) (w : World) : Ending → World → Prop := fun e w' => e = .returned (.slice (some ⟨b, 0, none⟩) l.length cap) ∧ JRow w' (.slice (some ⟨b, 0, none⟩) l.length cap) l ∧ Keeps (only b) w w'

set_option maxRecDepth 8000 in
set_option maxHeartbeats 1000000 in
theorem jdelete_any (w : World) (b cap i : Nat) (l : List J) (hr : JRow w (.slice (some ⟨b, 0, none⟩) l.length cap) l) (hi : i < l.length) (hl : l.length ≤ 1000000) :
    Calls Try.prog 46 #[.slice (some ⟨b, 0, none⟩) l.length cap, .int .i64 i, .int .i64 (i + 1 : Nat)] w (RetDel b cap (l.eraseIdx i) w) := by
  have hel : (l.eraseIdx i).length = l.length - 1 := List.length_eraseIdx_of_lt hi
  have hcap : l.length ≤ cap ∧ cap ≤ maxLen := by
    obtain ⟨A, c, hv, h1, h2, _⟩ := hr.rd
    injection hv with _ _ hc
    subst hc
    exact ⟨h1, h2⟩
  have hcap2 : cap ≤ 9223372036854775807 := by have := hcap.2; unfold maxLen at this; omega
  have hblk := hr.blk
  have hpre : (w.drew).ownsRow 0 45 4 (.slice (some ⟨b, 0, none⟩) i cap) i (cellsJ (l.take i)) := by
    rcases hr.blk with ⟨h, _⟩ | ⟨b', cap', rest, hv, hb, h1, h2, h3⟩
    · cases h
    · injection hv with ha _ hc
      injection ha with ha
      injection ha with ha
      subst ha hc
      have hb' : Blk w b 45 (cellsJ (l.take i) ++ (cellsJ (l.drop i) ++ rest)).toArray := by
        rw [← List.append_assoc, ← cellsJ_app, List.take_append_drop]; exact hb
      have hti : (l.take i).length = i := by simp; omega
      have := JRow.of_blk (w := w) (l := l.take i) (cap := cap) hb' (by rw [List.length_append, cellsJ_len, List.length_drop, hti]; omega) h3
      unfold JRow at this
      rw [hti] at this
      exact this.drew
  have hsrc : ∀ j u, (cellsJ (l.drop (i + 1)))[j]? = some u → w.drew.cell? ((⟨b, (i + 1) * 4, none⟩ : Addr).add j) = some u := fun j u hj => by
    obtain ⟨b', off, cap', hv, hc⟩ : ∃ b' off cap', (Value.slice (some ⟨b, 0, none⟩) l.length cap) = .slice (some ⟨b', off, none⟩) l.length cap' ∧ ∀ j u, (cellsJ l)[j]? = some u → w.cell? ((⟨b', off, none⟩ : Addr).add j) = some u := ⟨b, 0, cap, rfl, hr.rd.cells⟩
    injection hv with ha _ hc'
    injection ha with ha
    injection ha with ha hb
    subst ha hb
    rw [← cellsJ_drop, List.getElem?_drop] at hj
    have := hc _ u hj
    rw [Addr.add_lit] at this ⊢
    rw [Nat.zero_add] at this
    exact this
  obtain ⟨i0, hin, hz0, hz1, hz2⟩ := info_parts infoJob
  obtain ⟨L, hL⟩ : ∃ L, L = l.length := ⟨_, rfl⟩
  rw [← hL] at hi hl hcap hel ⊢
  have hi0 : (0 : Int) ≤ i := by omega
  have hi1 : (i : Int) ≤ i + 1 := by omega
  have hi2 : (i : Int) + 1 ≤ L := by omega
  have hi3 : (i : Int) ≤ cap := by omega
  have hi4 : (i : Int) + 1 ≤ cap := by omega
  have hi5 : ((i : Int) + 1).toNat = i + 1 := by omega
  have hi6 : ((i : Int) == (i : Int) + 1) = false := by simp; omega
  have hi7 : ¬ (i : Int) = (i : Int) + 1 := by omega
  have hsum : i + (L - (i + 1)) = L - 1 := by omega
  have hn : (cellsJ (l.drop (i + 1))).length = (L - (i + 1)) * 4 := by rw [cellsJ_len, List.length_drop, hL]
  have hs1 : ((L : Int) - 1).toNat = L - 1 := by omega
  have hcl : ¬ cap = L - 1 := by omega
  have hll : L - 1 ≤ L := by omega
  have hll1 : L - (L - 1) = 1 := by omega
  have hLc : (L : Int) ≤ cap := by omega
  have hL1c : ((L - 1 : Nat) : Int) ≤ L := by omega
  have HL := Lib.hid hL
  have Hblk := Lib.hid hblk
  have Hpre := Lib.hid hpre
  have Hsrc := Lib.hid hsrc
  have Hel := Lib.hid hel
  have Hn := Lib.hid hn
  clear hL hblk hpre hsrc hel hn
  by_cases hcc : cap = i + 1
  · have hLi : L = i + 1 := by omega
    subst hcc
    subst hLi
    have hnil : l.drop (i + 1) = [] := List.drop_eq_nil_of_le (by rw [← HL.out]; exact Nat.le_refl _)
    have Hnil := Lib.hid hnil
    clear hnil
    go_enter Try.func46, Try.ntmps46
    go_wp2_with fail
    refine wp_region_script [0, 1, 2, 3] [] [.ps [0, 1, 2, 3], .es [4, 5, 6, 7] false] (fun _ => True) rfl (by kernel_rfl) ?_
    refine wpS_ps rfl fun K hK => ?_
    simp only [List.map_cons, List.map_nil, Option.getD_some, List.getElem?_toArray, List.getElem?_cons_zero, List.getElem?_cons_succ]
    iterate 4 (first | (apply quietO_cons _ rfl; (intro w' _; go_simp; rfl)) | apply quietO_skip rfl)
    refine hK _ ?_
    clear hK K
    simp only [Act.put, List.setIfInBounds_toArray, List.set_cons_zero, List.set_cons_succ]
    refine wpS_es rfl fun K hK => ?_
    have HK := Lib.hid hK
    clear hK
    simp only [List.map_cons, List.map_nil, Option.getD_some, List.getElem?_toArray, List.getElem?_cons_zero, List.getElem?_cons_succ]
    go_wp2_with (at_builtin; go_must (refine wpList_append_fits_any _ rfl (.tmp 22) (.tmp 25) 42 rfl 0 45 i0 4 Try.underlying42 hin hz1 b i (i + 1) (cellsJ (l.take i)) rfl Hpre.out (some ⟨b, 0, none⟩) 0 _ (cellsJ (l.drop (i + 1))) rfl (by rw [Hnil.out]; rfl) (fun h => by cases h) (fun ad h j u hj => by rw [Hnil.out] at hj; simp [cellsJ] at hj) (cellsJ_one _) (by omega) ?_))
    intro w1 hown hgrow
    have hrow : JRow w1 (.slice (some ⟨b, 0, none⟩) (l.eraseIdx i).length (i + 1)) (l.eraseIdx i) := by
      unfold JRow
      rw [← erase_eq, cellsJ_app, erase_eq, Hel.out]
      exact hown
    have hk1 : Keeps (only b) w w1 := (Keeps.refl (only b) w).drew.grown hgrow (fun k e _ => by cases e; rfl)
    obtain ⟨w2, hclear, hr2, hk2⟩ := row_clear w1 b (i + 1) 1 1 (l.eraseIdx i) hrow (by omega) (by rw [Hel.out]; omega)
    have hk3 := hk1.trans hk2 (fun _ _ h => h)
    rw [Hel.out] at hclear hr2
    clear hown hgrow hrow hk1 hk2
    have Hr2 := Lib.hid hr2
    have Hk3 := Lib.hid hk3
    clear hr2 hk3
    simp at hclear
    go_wp2_with fail
    refine HK.out _ _ (fun h => by cases h) ?_
    clear HK K
    refine wpS_nil ?_
    go_wp2_with fail
    go_ret
    exact ⟨by rw [Hel.out]; rfl, by rw [Hel.out]; exact Hr2.out, Hk3.out⟩
  · go_enter Try.func46, Try.ntmps46
    go_wp2_with fail
    refine wp_region_script [0, 1, 2, 3] [] [.ps [0, 1, 2, 3], .es [4, 5, 6, 7] false] (fun _ => True) rfl (by kernel_rfl) ?_
    refine wpS_ps rfl fun K hK => ?_
    simp only [List.map_cons, List.map_nil, Option.getD_some, List.getElem?_toArray, List.getElem?_cons_zero, List.getElem?_cons_succ]
    iterate 4 (first | (apply quietO_cons _ rfl; (intro w' _; go_simp; rfl)) | apply quietO_skip rfl)
    refine hK _ ?_
    clear hK K
    simp only [Act.put, List.setIfInBounds_toArray, List.set_cons_zero, List.set_cons_succ]
    refine wpS_es rfl fun K hK => ?_
    have HK := Lib.hid hK
    clear hK
    simp only [List.map_cons, List.map_nil, Option.getD_some, List.getElem?_toArray, List.getElem?_cons_zero, List.getElem?_cons_succ]
    go_wp2_with (at_builtin; go_must (refine wpList_append_fits_any _ rfl (.tmp 22) (.tmp 25) 42 rfl 0 45 i0 4 Try.underlying42 hin hz1 b i cap (cellsJ (l.take i)) rfl Hpre.out (some ⟨b, (i + 1) * 4, none⟩) (L - (i + 1)) _ (cellsJ (l.drop (i + 1))) rfl Hn.out (fun h => by cases h) (fun ad h => by cases h; exact Hsrc.out) (cellsJ_one _) (by omega) ?_))
    intro w1 hown hgrow
    have hrow : JRow w1 (.slice (some ⟨b, 0, none⟩) (l.eraseIdx i).length cap) (l.eraseIdx i) := by
      unfold JRow
      rw [← erase_eq, cellsJ_app, erase_eq, Hel.out]
      exact hown
    have hk1 : Keeps (only b) w w1 := (Keeps.refl (only b) w).drew.grown hgrow (fun k e _ => by cases e; rfl)
    obtain ⟨w2, hclear, hr2, hk2⟩ := row_clear w1 b cap 1 (cap - (L - 1)) (l.eraseIdx i) hrow (by omega) (by rw [Hel.out]; omega)
    have hk3 := hk1.trans hk2 (fun _ _ h => h)
    rw [Hel.out] at hclear hr2
    clear hown hgrow hrow hk1 hk2
    have Hr2 := Lib.hid hr2
    have Hk3 := Lib.hid hk3
    clear hr2 hk3
    go_wp2_with fail
    refine HK.out _ _ (fun h => by cases h) ?_
    clear HK K
    refine wpS_nil ?_
    go_wp2_with fail
    go_ret
    exact ⟨by rw [Hel.out]; rfl, by rw [Hel.out]; exact Hr2.out, Hk3.out⟩
end Go.Proofs.Ytnccgmffgmfinaa
