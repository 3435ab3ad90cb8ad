/-
  The reference's In: Take's number, Raw.
-/
import Derived.Test.YtbckbnmpeedodaaRefIn
import Derived.Test.YtbckbnmpeedodaaNumRawIn
namespace Go.Proofs.Ytbckbnmpeedodaa
open Go.RowKit

set_option maxHeartbeats 800000 in
theorem rtake_ok (p : Nat) (g : Option Nat) (L : List UInt8) (n : Nat) (w : World) (h : RIn w p g L 0) (h1 : 1 ≤ n) (h8 : n ≤ 8) (hn : n ≤ L.length) :
    Calls Try.prog 31 #[.pointer (some ⟨p, 0, none⟩), .int .i64 n] w (RetRTake w p g L 0 n) := by
  obtain ⟨v, B, a, hb, hr, hg, ha, rfl, hB⟩ := h
  have c0 := hb.cell 0
  have c1 := hb.cell 1
  have c2 := hb.cell 2
  have f1 := hb.frozen 1
  simp at c0 c1 c2
  have hnl : a + n ≤ B.length := by simp at hn; omega
  have hfin : ∀ k, RetRTake w p g (B.drop a) 0 n (.returned (.int .u64 (le ((B.drop a).take n)))) ((w.drewN k).setCell ⟨p, 1, none⟩ (.int .i64 ((a : Int) + n))) := by
    intro k
    refine ⟨?_, ?_, ((Keeps.refl (only p) w).drewN k).setCell (p := ⟨p, 1, none⟩) (fun _ => rfl) (.int .i64 ((a : Int) + n))⟩
    · rw [takeVal, if_pos (by omega)]; simp
    · rw [takeLeft, if_pos (by omega), takeErr, if_neg (by simp), if_neg (by omega), if_neg (by omega), Int.toNat_natCast, List.drop_drop]
      exact RIn.set (w := w.drewN k) hb hr hg 1 _ (a + n) 0 (by simp) hnl hB
  obtain ⟨b, off, cap, rfl, rfl, _, hl, hm, hc⟩ := hr.plain (by simp; omega)
  rw [List.length_map] at c0 hl
  obtain ⟨T, hT⟩ : ∃ T, T = (B.drop a).take n := ⟨_, rfl⟩
  have hTn : T.length = n := by rw [hT]; simp; omega
  have hTk : ∀ k (hk : k < n), T[k]? = B[a + k]? := fun k hk => by rw [hT, List.getElem?_take, if_pos hk, List.getElem?_drop]
  rw [← hT] at hfin
  have hw : IntKind.i64.wrap ((B.length : Int) - a) = B.length - a := IntWalk.i64_in _ (by omega)
  have hl' : ¬ (B.length : Int) - a < n := by omega
  have hdl : decide ((B.length : Int) - a < n) = false := decide_eq_false hl'
  have Hfin := Lib.hid hfin
  have HTn := Lib.hid hTn
  have HTk := Lib.hid hTk
  have Hc := Lib.hid hc
  have HT := Lib.hid hT
  clear hfin hTn hTk hc hT
  clear hb hn
  have h1' : ¬ (n : Int) < 1 := by omega
  have h8' : ¬ (8 : Int) < n := by omega
  go_enter Try.func31, Try.ntmps31
  go_wp2
  go_quiet (fail)
  go_wp2
  go_loopw [5, 6] (fun x i wr => ∃ k m : Nat, k ≤ n ∧ i = .int .i64 k ∧ x = .int .u64 (le (T.take k)) ∧ wr = w.drewN m) (fun _ i _ => n - (intOf i).toNat)
  case atStart => exact ⟨0, _, Nat.zero_le _, rfl, by simp [le], rfl⟩
  case round =>
    obtain ⟨k, m, hkn, rfl, rfl, rfl⟩ := hrel
    by_cases hlt : k < n
    · have hkT : k < T.length := by rw [HTn.out]; exact hlt
      have hkB : B[a + k]? = some T[k] := by rw [← HTk.out k hlt]; exact List.getElem?_eq_getElem hkT
      have hcell : w.cell? ⟨b, off + (a + k), none⟩ = some (.int .u8 (T[k].toNat : Int)) := Hc.out (a + k) (bv T[k]) (by rw [List.getElem?_map, hkB]; rfl)
      have hw8 : IntKind.i64.wrap (8 * (k : Int)) = 8 * k := IntWalk.i64_in _ (by omega)
      have hw8' : IntKind.u64.wrap (8 * (k : Int)) = 8 * k := by rw [IntKind.wrap_u64]; omega
      have h80 : (0 : Int) ≤ 8 * k := by omega
      have hak : IntKind.i64.wrap ((a : Int) + k) = a + k := IntWalk.i64_in _ (by omega)
      have hak0 : (0 : Int) ≤ a + k := by omega
      have hak1 : (a : Int) + k < B.length := by omega
      have hakn : ((a : Int) + k).toNat = a + k := by omega
      have hor := or_byte (le (T.take k)) k T[k] (by omega) (by have := le_lt (T.take k); rwa [show (T.take k).length = k from by simp; omega] at this)
      have hsn : le (T.take (k + 1)) = le (T.take k) + T[k].toNat * 256 ^ k := by
        rw [List.take_succ_eq_append_getElem hkT, le_snoc, show (T.take k).length = k from by simp; omega]
      clear hkB
      have Hor := Lib.hid hor
      have Hsn := Lib.hid hsn
      clear hor hsn
      go_wp2_with fail
      go_quiet (fail)
      rw [Hor.out, ← Hsn.out]
      go_wp2_with fail
      go_roundw
      case rel => exact ⟨k + 1, _, by omega, by go_num, rfl, rfl⟩
      case measure => simp [intOf]; omega
    · obtain rfl : k = n := by omega
      have hfull : T.take k = T := List.take_of_length_le (by rw [HTn.out]; exact Nat.le_refl _)
      rw [hfull]
      clear hfull
      go_wp2_with fail
      go_ret
      exact Hfin.out m

theorem rtake_any (p : Nat) (g : Option Nat) (L : List UInt8) (err n : Int) (w : World) (h : RIn w p g L err) :
    Calls Try.prog 31 #[.pointer (some ⟨p, 0, none⟩), .int .i64 n] w (RetRTake w p g L err n) := by
  by_cases he : err = 0
  · subst he
    by_cases h1 : n < 1 ∨ 8 < n
    · exact rtake_arg p g L n w h h1
    · by_cases h2 : L.length < n
      · exact rtake_short p g L n w h (by omega) (by omega) h2
      · obtain ⟨m, rfl⟩ := Int.eq_ofNat_of_zero_le (show 0 ≤ n by omega)
        exact rtake_ok p g L m w h (by omega) (by omega) (by omega)
  · exact rtake_bad p g L err n w h he

def RetRRaw (w : World) (p : Nat) (g : Option Nat) (L : List UInt8) (err n : Int) : Ending → World → Prop := fun e w' =>
  ∃ v' g', e = .returned v' ∧ Rd w' v' g' ((rawVal L err n).map bv) ∧ Above w.heap.size g' ∧ RIn w' p g (rawLeft L err n) (rawErr L err n) ∧ Keeps (only p) w w'

set_option maxHeartbeats 400000 in
theorem rraw_bad (p : Nat) (g : Option Nat) (L : List UInt8) (err n : Int) (w : World) (h : RIn w p g L err) (he : err ≠ 0) :
    Calls Try.prog 30 #[.pointer (some ⟨p, 0, none⟩), .int .i64 n] w (RetRRaw w p g L err n) := by
  have hfin : RetRRaw w p g L err n (.returned (.slice none 0 0)) w := ⟨_, none, rfl, by simp [rawVal, he, Rd], Above.none _, by simpa [rawLeft, rawErr, he] using h, Keeps.refl _ _⟩
  obtain ⟨v, B, a, hb, hr, _, ha, rfl, hB⟩ := h
  have c2 := hb.cell 2
  simp at c2
  have he' : (err != 0) = true := by simpa using he
  have Hfin := Lib.hid hfin
  clear hfin
  clear hr hb he
  go_enter Try.func30, Try.ntmps30
  go_wp2
  go_ret
  exact Hfin.out

set_option maxHeartbeats 400000 in
theorem rraw_arg (p : Nat) (g : Option Nat) (L : List UInt8) (n : Int) (w : World) (h : RIn w p g L 0) (hn : n < 0) :
    Calls Try.prog 30 #[.pointer (some ⟨p, 0, none⟩), .int .i64 n] w (RetRRaw w p g L 0 n) := by
  obtain ⟨v, B, a, hb, hr, hg, ha, rfl, hB⟩ := h
  have c2 := hb.cell 2
  have f2 := hb.frozen 2
  simp at c2
  have hfin : RetRRaw w p g (B.drop a) 0 n (.returned (.slice none 0 0)) (w.setCell ⟨p, 2, none⟩ (.int .i64 1)) := by
    refine ⟨_, none, rfl, ?_, Above.none _, ?_, (Keeps.refl (only p) w).setCell (p := ⟨p, 2, none⟩) (fun _ => rfl) (.int .i64 1)⟩
    · rw [rawVal, if_neg (by omega)]; exact Rd.nil _
    · rw [rawLeft, if_neg (by omega), rawErr, if_neg (by simp), if_pos hn]
      exact RIn.set hb hr hg 2 _ a 1 rfl ha hB
  have Hfin := Lib.hid hfin
  clear hfin
  clear hr hb
  go_enter Try.func30, Try.ntmps30
  go_wp2
  go_ret
  exact Hfin.out

set_option maxHeartbeats 400000 in
theorem rraw_short (p : Nat) (g : Option Nat) (L : List UInt8) (n : Int) (w : World) (h : RIn w p g L 0) (h1 : 0 ≤ n) (hn : L.length < n) :
    Calls Try.prog 30 #[.pointer (some ⟨p, 0, none⟩), .int .i64 n] w (RetRRaw w p g L 0 n) := by
  obtain ⟨v, B, a, hb, hr, hg, ha, rfl, hB⟩ := h
  have c0 := hb.cell 0
  have c1 := hb.cell 1
  have c2 := hb.cell 2
  have f2 := hb.frozen 2
  simp at c0 c1 c2
  have hfin : ∀ k, RetRRaw w p g (B.drop a) 0 n (.returned (.slice none 0 0)) ((w.drewN k).setCell ⟨p, 2, none⟩ (.int .i64 4)) := by
    intro k
    refine ⟨_, none, rfl, ?_, Above.none _, ?_, ((Keeps.refl (only p) w).drewN k).setCell (p := ⟨p, 2, none⟩) (fun _ => rfl) (.int .i64 4)⟩
    · rw [rawVal, if_neg (by omega)]; exact Rd.nil _
    · rw [rawLeft, if_neg (by omega), rawErr, if_neg (by simp), if_neg (by omega), if_pos hn]
      exact RIn.set (w := w.drewN k) hb hr hg 2 _ a 4 rfl ha hB
  obtain ⟨A, c, rfl, _⟩ := hr.form
  rw [List.length_map] at c0
  have hl : (B.length : Int) - a < n := by simp at hn; omega
  have hw : IntKind.i64.wrap ((B.length : Int) - a) = B.length - a := IntWalk.i64_in _ (by omega)
  have Hfin := Lib.hid hfin
  clear hfin
  clear hr hb hn
  have h1' : ¬ n < 0 := by omega
  go_enter Try.func30, Try.ntmps30
  go_wp2
  go_quiet (fail)
  go_wp2
  go_ret
  exact Hfin.out _

set_option maxHeartbeats 1000000 in
theorem rraw_ok (p : Nat) (g : Option Nat) (L : List UInt8) (n : Nat) (w : World) (h : RIn w p g L 0) (hn : n ≤ L.length) :
    Calls Try.prog 30 #[.pointer (some ⟨p, 0, none⟩), .int .i64 n] w (RetRRaw w p g L 0 n) := by
  obtain ⟨v, B, a, hb, hr, hg, ha, rfl, hB⟩ := h
  have hnl : a + n ≤ B.length := by simp at hn; omega
  have hplt := hb.lt
  obtain ⟨A, c, rfl, hlc, hcm⟩ := hr.form
  have hrd := (hr.drop a (by simp; omega) A _ c rfl)
  have hrt := hrd.take n (by simp; omega) _ _ _ rfl
  rw [← List.map_drop, ← List.map_take, Nat.mul_one] at hrt
  rw [List.length_map] at hlc
  have hglt := hr.lt
  have hw : IntKind.i64.wrap ((B.length : Int) - a) = B.length - a := IntWalk.i64_in _ (by omega)
  have hl' : ¬ (B.length : Int) - a < n := by omega
  have hdl : decide ((B.length : Int) - a < n) = false := decide_eq_false hl'
  have han : IntKind.i64.wrap ((a : Int) + n) = a + n := IntWalk.i64_in _ (by omega)
  have ha0 : (0 : Int) ≤ a := by omega
  have han1 : (a : Int) ≤ a + n := by omega
  have han2 : (a : Int) + n ≤ c := by omega
  have h1' : ¬ (n : Int) < 0 := by omega
  unfold maxLen at hcm
  have c0 := hb.cell 0
  have c1 := hb.cell 1
  have c2 := hb.cell 2
  simp at c0 c1 c2
  have Hb := Lib.hid hb
  have Hr := Lib.hid hr
  have Hrt := Lib.hid hrt
  have Hn := Lib.hid hn
  clear hb hr hrt hn
  clear hrd
  go_enter Try.func30, Try.ntmps30
  go_wp2
  go_quiet (fail)
  go_wp2_with fail
  have cell0 : ∀ w', Keeps nowhere (w.drewN nq).drew w' → w'.cell? ⟨p, 0, none⟩ = some (.slice A B.length c) := fun w' hs => by simpa using (Blk.keep (w := (w.drewN nq).drew) Hb.out hs (fun h => h)).cell 0
  have cell1 : ∀ w', Keeps nowhere (w.drewN nq).drew w' → w'.cell? ⟨p, 1, none⟩ = some (.int .i64 a) := fun w' hs => by simpa using (Blk.keep (w := (w.drewN nq).drew) Hb.out hs (fun h => h)).cell 1
  obtain ⟨X, hX⟩ : ∃ X, X = (if c = a then A else A.map fun x => x.add a) := ⟨_, rfl⟩
  rw [← hX] at Hrt
  have hsl : ∀ w', (Instr.slice 28 (.slice A B.length c) (some (.int .i64 a)) (some (.int .i64 ((a : Int) + n))) none).run Try.prog w' = .ok (.slice X n (c - a)) w' := by
    intro w'
    rw [hX]
    go_simp
    omega
  have Cell0 := Lib.hid cell0
  have Cell1 := Lib.hid cell1
  have HX := Lib.hid hX
  clear cell0 cell1 hX
  clear c0 c1 c2
  refine wp_region_script [1, 2, 3, 4, 5, 6, 7, 8, 9, 10, 11, 12, 13, 14, 15] [4, 8, 12] [.ps [1, 2, 3], .fs [4], .ps [5, 6, 7], .fs [8], .ps [9, 10, 11], .fs [12], .ps [13, 14, 15], .es [0] true, .es [16, 17] false] (Keeps nowhere (w.drewN nq).drew) rfl (by kernel_rfl) ?_
  refine wpS_ps rfl fun K hK => ?_
  simp only [List.map_cons, List.map_nil, Option.getD_some, List.getElem?_toArray, List.getElem?_cons_zero, List.getElem?_cons_succ]
  iterate 3 (first | (apply quietO_cons _ rfl; (intro w' _; go_simp; rfl)) | apply quietO_skip rfl)
  refine hK _ ?_
  clear hK K
  simp only [Act.put, List.setIfInBounds_toArray, List.set_cons_zero, List.set_cons_succ]
  refine wpS_fs rfl (Keeps.refl _ _) fun K hK => ?_
  simp only [List.map_cons, List.map_nil, Option.getD_some, List.getElem?_toArray, List.getElem?_cons_zero, List.getElem?_cons_succ]
  iterate 1 (first | (apply quietO_cons _ rfl; (intro w' hs; have c_0 := Cell0.out w' hs; go_simp; rfl)) | apply quietO_skip rfl)
  refine hK _ ?_
  clear hK K
  simp only [Act.put, List.setIfInBounds_toArray, List.set_cons_zero, List.set_cons_succ]
  refine wpS_ps rfl fun K hK => ?_
  simp only [List.map_cons, List.map_nil, Option.getD_some, List.getElem?_toArray, List.getElem?_cons_zero, List.getElem?_cons_succ]
  iterate 3 (first | (apply quietO_cons _ rfl; (intro w' _; go_simp; rfl)) | apply quietO_skip rfl)
  refine hK _ ?_
  clear hK K
  simp only [Act.put, List.setIfInBounds_toArray, List.set_cons_zero, List.set_cons_succ]
  refine wpS_fs rfl (Keeps.refl _ _) fun K hK => ?_
  simp only [List.map_cons, List.map_nil, Option.getD_some, List.getElem?_toArray, List.getElem?_cons_zero, List.getElem?_cons_succ]
  iterate 1 (first | (apply quietO_cons _ rfl; (intro w' hs; have c_0 := Cell1.out w' hs; go_simp; rfl)) | apply quietO_skip rfl)
  refine hK _ ?_
  clear hK K
  simp only [Act.put, List.setIfInBounds_toArray, List.set_cons_zero, List.set_cons_succ]
  refine wpS_ps rfl fun K hK => ?_
  simp only [List.map_cons, List.map_nil, Option.getD_some, List.getElem?_toArray, List.getElem?_cons_zero, List.getElem?_cons_succ]
  iterate 3 (first | (apply quietO_cons _ rfl; (intro w' _; go_simp; rfl)) | apply quietO_skip rfl)
  refine hK _ ?_
  clear hK K
  simp only [Act.put, List.setIfInBounds_toArray, List.set_cons_zero, List.set_cons_succ]
  refine wpS_fs rfl (Keeps.refl _ _) fun K hK => ?_
  simp only [List.map_cons, List.map_nil, Option.getD_some, List.getElem?_toArray, List.getElem?_cons_zero, List.getElem?_cons_succ]
  iterate 1 (first | (apply quietO_cons _ rfl; (intro w' hs; have c_0 := Cell1.out w' hs; go_simp; rfl)) | apply quietO_skip rfl)
  refine hK _ ?_
  clear hK K
  simp only [Act.put, List.setIfInBounds_toArray, List.set_cons_zero, List.set_cons_succ]
  refine wpS_ps rfl fun K hK => ?_
  simp only [List.map_cons, List.map_nil, Option.getD_some, List.getElem?_toArray, List.getElem?_cons_zero, List.getElem?_cons_succ]
  iterate 3 (first | (apply quietO_cons _ rfl; (intro w' _; go_simp; rfl)) | apply quietO_skip rfl)
  refine hK _ ?_
  clear hK K
  simp only [Act.put, List.setIfInBounds_toArray, List.set_cons_zero, List.set_cons_succ]
  refine wpS_es rfl fun K hK => ?_
  have HK := Lib.hid hK
  clear hK
  simp only [List.map_cons, List.map_nil, Option.getD_some, List.getElem?_toArray, List.getElem?_cons_zero, List.getElem?_cons_succ]
  go_wp2_with fail
  refine HK.out _ _ (fun _ => (Keeps.refl nowhere _).alloc _) ?_
  clear HK K
  refine wpS_es rfl fun K hK => ?_
  have HK := Lib.hid hK
  clear hK
  simp only [List.map_cons, List.map_nil, Option.getD_some, List.getElem?_toArray, List.getElem?_cons_zero, List.getElem?_cons_succ]
  have hlT : ((B.drop a).take n).length = n := by simp; omega
  have HlT := Lib.hid hlT
  clear hlT
  go_wp2_with (at_builtin; go_must (refine wpList_append_bytes rfl (.tmp 34) (.tmp 49) rfl _ [] rfl (OwnB.empty (w.drewN (nq + 1))) _ g ((B.drop a).take n) rfl (Hrt.out.keep (((Keeps.refl nowhere w).drewN (nq + 1)).alloc (.cells #[] 5)) (fun _ _ h => h)) (by rw [HlT.out]; simp; omega) ?_))
  intro v1 w1 ho1 hk1 hf1
  have hk1' : Keeps nowhere w w1 := (((Keeps.refl nowhere w).drewN (nq + 1)).alloc (.cells #[] 5)).trans hk1 (fun b hb h => by have h2 : w.heap.size = b := (by injection h); exact absurd hb (by omega))
  have ha1 : Above w.heap.size v1.ownBlock := fun b hb => by rcases hf1 b hb with h | h; exact Nat.le_of_eq (by injection h); exact Nat.le_trans (Nat.le_succ _) (by simpa using h)
  have hb1 := Hb.out.keep hk1' (fun h => h)
  have hr1 := Hr.out.keep hk1' (fun _ _ h => h)
  rw [List.length_map] at hb1 hr1
  have c0 := hb1.cell 0
  have c1 := hb1.cell 1
  have c2 := hb1.cell 2
  have f1 := hb1.frozen 1
  simp at c0 c1 c2
  have hvp : ∀ b, v1.ownBlock = some b → ¬ only p b := fun b hb e => by have := ha1 b hb; unfold only at e; omega
  have hfin : RetRRaw w p g (B.drop a) 0 n (.returned v1) (w1.setCell ⟨p, 1, none⟩ (.int .i64 ((a : Int) + n))) := by
    have hk2 := (Keeps.refl (only p) w1).setCell (p := ⟨p, 1, none⟩) (fun _ => rfl) (.int .i64 ((a : Int) + n))
    refine ⟨v1, v1.ownBlock, rfl, ?_, ha1, ?_, (Keeps.mono hk1' (fun _ _ h => h.elim)).trans hk2 (fun _ _ h => h)⟩
    · rw [rawVal, if_pos (by have := Hn.out; omega), Int.toNat_natCast]
      have := (OwnB.rd ho1).keep hk2 hvp
      simpa using this
    · rw [rawLeft, if_pos (by have := Hn.out; omega), rawErr, if_neg (by simp), if_neg (by omega), if_neg (by have := Hn.out; omega), Int.toNat_natCast, List.drop_drop]
      exact RIn.set hb1 hr1 hg 1 _ (a + n) 0 (by simp) hnl hB
  have Hfin := Lib.hid hfin
  clear hfin
  clear hb1 hr1 ho1 hk1 hf1 hvp ha1 hsl
  go_wp2_with fail
  refine HK.out _ _ (fun h => by cases h) ?_
  clear HK K
  refine wpS_nil ?_
  go_wp2_with fail
  go_ret
  exact Hfin.out

theorem rraw_any (p : Nat) (g : Option Nat) (L : List UInt8) (err n : Int) (w : World) (h : RIn w p g L err) :
    Calls Try.prog 30 #[.pointer (some ⟨p, 0, none⟩), .int .i64 n] w (RetRRaw w p g L err n) := by
  by_cases he : err = 0
  · subst he
    by_cases h1 : n < 0
    · exact rraw_arg p g L n w h h1
    · by_cases h2 : L.length < n
      · exact rraw_short p g L n w h (by omega) h2
      · obtain ⟨m, rfl⟩ := Int.eq_ofNat_of_zero_le (show 0 ≤ n by omega)
        exact rraw_ok p g L m w h (by omega)
  · exact rraw_bad p g L err n w h he
end Go.Proofs.Ytbckbnmpeedodaa
