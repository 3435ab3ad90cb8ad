/-
  bitmap: Bytes, Twin, Load.
-/
import Derived.Test.YtbckbnmpeedodaaMap2
namespace Go.Proofs.Ytbckbnmpeedodaa
open Go.RowKit

theorem map_rd {w : World} {g n cap : Nat} {f : Nat → Bool} {rest : List Value} (h : Blk w g 5 ((bytesOf n f).map bv ++ rest).toArray) (h3 : (n + 7) / 8 ≤ cap) (h4 : cap ≤ maxLen) :
    Rd w (.slice (some ⟨g, 0, none⟩) ((n + 7) / 8) cap) (some g) ((bytesOf n f).map bv) := by
  refine .inr ⟨⟨g, 0, none⟩, cap, by simp [bytesOf_len], fun b hb => by cases hb; exact h.lt, fun _ => ⟨rfl, rfl⟩, by simp [bytesOf_len]; omega, h4, fun j u hj => ?_⟩
  rw [Addr.add_lit, Nat.zero_add, h.cell j, List.getElem?_toArray, List.getElem?_append_left (List.getElem?_eq_some_iff.1 hj).1]
  exact hj

theorem bytes_any (w : World) (p g n : Nat) (f : Nat → Bool) (h : MapAt w p g n f) : Calls Try.prog 36 #[mp p] w (RetBytes w (bytesOf n f)) := by
  obtain ⟨n1, n2, hoff, cap, rest, h1, h2, h3, h4⟩ := h
  have hr := map_rd h2 h3 h4
  have hlen : (bytesOf n f).length ≤ 1099511627776 := by rw [bytesOf_len]; omega
  have c1 := h1.cell 1
  simp at c1
  clear h1 h2 hoff h3 h4
  unfold mp
  have Hr := Lib.hid hr
  clear hr
  go_enter Try.func36, Try.ntmps36
  go_wp2_with fail
  refine (clone_any _ _ _ _ Hr.out hlen).mono ?_
  rintro e w1 ⟨v1, g1, rfl, hr1, hg1, hk1⟩
  have Hr1 := Lib.hid hr1
  have Hg1 := Lib.hid hg1
  have Hk1 := Lib.hid hk1
  clear hr1 hg1 hk1
  go_wp2_with fail
  refine (clip_any _ _ _ _ Hr1.out).mono ?_
  rintro e w2 ⟨⟨v2, rfl, hr2⟩, rfl⟩
  have Hr2 := Lib.hid hr2
  clear hr2
  go_wp2_with fail
  go_ret
  exact ⟨_, _, rfl, Hr2.out, Hg1.out, Hk1.out⟩

/-- slices.Clone, as memory of the call's own -/
def RetOwn (w : World) (L : List UInt8) : Ending → World → Prop := fun e w' =>
  ∃ g cap rest, e = .returned (.slice (some ⟨g, 0, none⟩) L.length cap) ∧ Blk w' g 5 (L.map bv ++ rest).toArray ∧ L.length ≤ cap ∧ cap ≤ maxLen ∧ w.heap.size ≤ g ∧ Keeps nowhere w w'

set_option maxHeartbeats 400000 in
theorem clone_own (a : Addr) (c : Nat) (L : List UInt8) (w : World) (hb : L.length ≤ 1099511627776) (hp : 0 < L.length)
    (hc : ∀ j u, (L.map bv)[j]? = some u → w.cell? (a.add j) = some u) (hlt : a.block < w.heap.size) :
    Calls Try.prog 47 #[.slice (some a) L.length c] w (RetOwn w L) := by
  have q22 := fun (w : World) (a : Option Addr) (n c n' c' : Nat) => Lib.run_eql_slice_nil (P := Try.prog) w 28 5 a n c n' c' Try.underlying28
  obtain ⟨i0, hi, hz0, hz1, hz2⟩ := info_parts infoU8
  have Hc := Lib.hid hc
  clear hc
  go_enter Try.func47, Try.ntmps47
  go_wp2_with (at_builtin; refine wpList_append_own _ rfl _ _ 28 rfl w.heap.size 5 i0 (.int .u8 0) 1 1 Try.underlying28 hi hz0 hz1 hz2 rfl (by decide) _ _ _ rfl (World.ownsRow_made w #[] 0 (Nat.le_refl _) (Nat.zero_le _) rfl) a L.length c (L.map bv) rfl ?qc1 ?qc2 ?qc3 ?qc4 ?qc5 ?qc6 ?_)
  case qc1 => simp
  case qc2 =>
    intro j u hj
    have := Hc.out j u hj
    rw [World.cell?_alloc_lt w _ _ (by rw [show (a.add j).block = a.block from by unfold Addr.add; split <;> rfl]; exact hlt)]
    exact this
  case qc3 => exact bv_one L
  case qc4 => unfold maxLen; omega
  case qc5 => omega
  case qc6 => simp
  intro v' w1 hown hgrow hnil
  go_wp2
  go_ret
  have hbel : Below w.heap.size w w1 := ((Below.refl _ w).alloc (Nat.le_refl _) _).grown hgrow (by simp) (by intro k hk; simp [Value.ownBlock] at hk; omega)
  have ho : w1.ownsRow w.heap.size 5 1 v' L.length (L.map bv) := by simpa using hown
  obtain ⟨g, cap, rfl⟩ : ∃ g cap, v' = .slice (some ⟨g, 0, none⟩) L.length cap := by
    rcases ho.2 with ⟨_, h0⟩ | ⟨g, cap, cur, rfl, _⟩
    · omega
    · exact ⟨g, cap, rfl⟩
  obtain ⟨rest, hb1, h1, h2, h3⟩ := own_blk ho
  exact ⟨g, cap, rest, rfl, hb1, h1, h2, h3, Below.keeps hbel⟩

def RetMap (n : Nat) (f : Nat → Bool) (w : World) : Ending → World → Prop := fun e w' =>
  ∃ p g, e = .returned (mp p) ∧ w.heap.size ≤ p ∧ w.heap.size ≤ g ∧ MapAt w' p g n f ∧ Keeps nowhere w w'

set_option maxHeartbeats 1000000 in
theorem twin_any (w : World) (p g n : Nat) (f : Nat → Bool) (h : MapAt w p g n f) : Calls Try.prog 45 #[mp p] w (RetMap n f w) := by
  obtain ⟨n1, n2, hoff, cap, rest, h1, h2, h3, h4⟩ := h
  have hr := map_rd h2 h3 h4
  have hlen : (bytesOf n f).length ≤ 1099511627776 := by rw [bytesOf_len]; omega
  have hpos : 0 < (bytesOf n f).length := by rw [bytesOf_len]; omega
  have c0 : ∀ w', Keeps nowhere w.drew w' → w'.cell? ⟨p, 0, none⟩ = some (.int .i64 n) := fun w' hk => by simpa using (h1.keep (w := w.drew) hk (fun h => h)).cell 0
  have c1 : ∀ w', Keeps nowhere w.drew w' → w'.cell? ⟨p, 1, none⟩ = some (.slice (some ⟨g, 0, none⟩) ((n + 7) / 8) cap) := fun w' hk => by simpa using (h1.keep (w := w.drew) hk (fun h => h)).cell 1
  have c2 : ∀ w', Keeps nowhere w.drew w' → w'.cell? ⟨p, 2, none⟩ = some (.int .i64 (cntF f n)) := fun w' hk => by simpa using (h1.keep (w := w.drew) hk (fun h => h)).cell 2
  have hl := bytesOf_len n f
  have hcl := clone_own ⟨g, 0, none⟩ cap (bytesOf n f) w.drew hlen hpos (fun j u hj => by
    rw [Addr.add_lit, Nat.zero_add]
    show w.cell? _ = _
    rw [h2.cell j, List.getElem?_toArray, List.getElem?_append_left (List.getElem?_eq_some_iff.1 hj).1]
    exact hj) h2.lt
  rw [hl] at hcl
  clear h1 h2 h3 h4
  unfold mp
  have Hr := Lib.hid hr
  have Hcl := Lib.hid hcl
  have Hoff := Lib.hid hoff
  have Hl := Lib.hid hl
  have Hlen := Lib.hid hlen
  have Hpos := Lib.hid hpos
  clear hr hcl hoff hl hlen hpos
  go_enter Try.func45, Try.ntmps45
  go_wp2_with fail
  refine wp_region_script [0, 1, 2, 3, 4, 5, 6, 7, 9, 10, 11, 12, 13] [3, 7, 12] [.ps [0, 1, 2], .fs [3], .ps [4, 5, 6], .fs [7], .ps [9, 10, 11], .fs [12], .es [8] true, .ps [13], .es [14, 15] false] (Keeps nowhere w.drew) rfl (by kernel_rfl) ?_
  refine wpS_ps rfl fun K hK => ?_
  simp only [List.map_cons, List.map_nil, Option.getD_some, List.getElem?_toArray, List.getElem?_cons_zero, List.getElem?_cons_succ]
  iterate 3 (first | (apply quietO_cons _ rfl; (intro w' _; go_simp; rfl)) | apply quietO_skip rfl)
  refine hK _ ?_
  clear hK K
  simp only [Act.put, List.setIfInBounds_toArray, List.set_cons_zero, List.set_cons_succ]
  refine wpS_fs rfl (Keeps.refl _ _) fun K hK => ?_
  simp only [List.map_cons, List.map_nil, Option.getD_some, List.getElem?_toArray, List.getElem?_cons_zero, List.getElem?_cons_succ]
  iterate 1 (first | (apply quietO_cons _ rfl; (intro w' hs; have c_0 := c0 w' hs; go_simp; rfl)) | apply quietO_skip rfl)
  refine hK _ ?_
  clear hK K
  simp only [Act.put, List.setIfInBounds_toArray, List.set_cons_zero, List.set_cons_succ]
  refine wpS_ps rfl fun K hK => ?_
  simp only [List.map_cons, List.map_nil, Option.getD_some, List.getElem?_toArray, List.getElem?_cons_zero, List.getElem?_cons_succ]
  iterate 3 (first | (apply quietO_cons _ rfl; (intro w' _; go_simp; rfl)) | apply quietO_skip rfl)
  refine hK _ ?_
  clear hK K
  simp only [Act.put, List.setIfInBounds_toArray, List.set_cons_zero, List.set_cons_succ]
  refine wpS_fs rfl (Keeps.refl _ _) fun K hK => ?_
  simp only [List.map_cons, List.map_nil, Option.getD_some, List.getElem?_toArray, List.getElem?_cons_zero, List.getElem?_cons_succ]
  iterate 1 (first | (apply quietO_cons _ rfl; (intro w' hs; have c_0 := c1 w' hs; go_simp; rfl)) | apply quietO_skip rfl)
  refine hK _ ?_
  clear hK K
  simp only [Act.put, List.setIfInBounds_toArray, List.set_cons_zero, List.set_cons_succ]
  refine wpS_ps rfl fun K hK => ?_
  simp only [List.map_cons, List.map_nil, Option.getD_some, List.getElem?_toArray, List.getElem?_cons_zero, List.getElem?_cons_succ]
  iterate 3 (first | (apply quietO_cons _ rfl; (intro w' _; go_simp; rfl)) | apply quietO_skip rfl)
  refine hK _ ?_
  clear hK K
  simp only [Act.put, List.setIfInBounds_toArray, List.set_cons_zero, List.set_cons_succ]
  refine wpS_fs rfl (Keeps.refl _ _) fun K hK => ?_
  simp only [List.map_cons, List.map_nil, Option.getD_some, List.getElem?_toArray, List.getElem?_cons_zero, List.getElem?_cons_succ]
  iterate 1 (first | (apply quietO_cons _ rfl; (intro w' hs; have c_0 := c2 w' hs; go_simp; rfl)) | apply quietO_skip rfl)
  refine hK _ ?_
  clear hK K
  simp only [Act.put, List.setIfInBounds_toArray, List.set_cons_zero, List.set_cons_succ]
  clear c0 c1 c2
  refine wpS_es rfl fun K hK => ?_
  have HK := Lib.hid hK
  clear hK
  simp only [List.map_cons, List.map_nil, Option.getD_some, List.getElem?_toArray, List.getElem?_cons_zero, List.getElem?_cons_succ]
  go_wp2_with fail
  refine Hcl.out.mono ?_
  rintro e w2 ⟨g2, cap2, rest2, rfl, hb, h3, h4, h5, hk⟩
  have hm := Blk.new w2 85 #[.int .i64 n, .slice (some ⟨g2, 0, none⟩) ((n + 7) / 8) cap2, .int .i64 (cntF f n)]
  have hb2 := hb.alloc (.cells #[.int .i64 n, .slice (some ⟨g2, 0, none⟩) ((n + 7) / 8) cap2, .int .i64 (cntF f n)] 85)
  have hsz : w.heap.size ≤ w2.heap.size := hk.size
  rw [Hl.out]
  rw [Hl.out] at h3
  have Hb := Lib.hid hb
  have Hk := Lib.hid hk
  have Hm := Lib.hid hm
  have Hb2 := Lib.hid hb2
  have Hsz := Lib.hid hsz
  have H3 := Lib.hid h3
  have H4 := Lib.hid h4
  have H5 := Lib.hid h5
  clear hb hk hm hb2 hsz h3 h4 h5
  go_wp2_with fail
  refine HK.out _ _ (fun _ => Hk.out) ?_
  clear HK K
  refine wpS_ps rfl fun K hK => ?_
  simp only [List.map_cons, List.map_nil, Option.getD_some, List.getElem?_toArray, List.getElem?_cons_zero, List.getElem?_cons_succ]
  iterate 1 (first | (apply quietO_cons _ rfl; (intro w' _; go_simp; rfl)) | apply quietO_skip rfl)
  refine hK _ ?_
  clear hK K
  simp only [Act.put, List.setIfInBounds_toArray, List.set_cons_zero, List.set_cons_succ]
  refine wpS_es rfl fun K hK => ?_
  have HK := Lib.hid hK
  clear hK
  simp only [List.map_cons, List.map_nil, Option.getD_some, List.getElem?_toArray, List.getElem?_cons_zero, List.getElem?_cons_succ]
  go_wp2_with fail
  refine HK.out _ _ (fun h => by cases h) ?_
  clear HK K
  refine wpS_nil ?_
  go_wp2_with fail
  go_ret
  exact ⟨w2.heap.size, g2, rfl, Hsz.out, H5.out, ⟨n1, n2, Hoff.out, _, _, Hm.out, Hb2.out, H3.out, H4.out⟩, ((Keeps.refl nowhere w).drew.more Hk.out).alloc _⟩

/-- mark `i` of a row of bytes -/
def bitF (B : List UInt8) (i : Nat) : Bool := match B[i / 8]? with | some x => decide (x.toNat / 2 ^ (i % 8) % 2 = 1) | none => false
theorem bitF_far (B : List UInt8) (i : Nat) (h : 8 * B.length ≤ i) : bitF B i = false := by
  unfold bitF; rw [List.getElem?_eq_none (by omega)]
theorem bitF_at {B : List UInt8} {i : Nat} {x : UInt8} (h : B[i / 8]? = some x) : x.toNat / 2 ^ (i % 8) % 2 = (bitF B i).toNat := by
  unfold bitF; rw [h]; simp only []
  rcases Nat.mod_two_eq_zero_or_one (x.toNat / 2 ^ (i % 8)) with h | h <;> rw [h] <;> simp
def FormOk (B : List UInt8) (n : Nat) : Prop := B.length = (n + 7) / 8 ∧ ∀ j, n ≤ j → bitF B j = false
def RetLoad (B : List UInt8) (n : Nat) (w : World) : Ending → World → Prop := fun e w' =>
  (FormOk B n ∧ ∃ p g, e = .returned (.tuple #[mp p, .int .i64 0]) ∧ w.heap.size ≤ p ∧ w.heap.size ≤ g ∧ MapAt w' p g n (bitF B) ∧ Keeps nowhere w w') ∨
  (¬ FormOk B n ∧ e = .returned (.tuple #[.pointer none, .int .i64 2]) ∧ Keeps nowhere w w')

/-- the marks that were taken over so far -/
def part (B : List UInt8) (i : Nat) : Nat → Bool := fun j => decide (j < i) && bitF B j
theorem part_zero (B : List UInt8) : part B 0 = fun _ => false := by funext j; simp [part]
theorem part_set {B : List UInt8} {i : Nat} (h : bitF B i = true) : upd (part B i) i true = part B (i + 1) := by
  funext j; unfold upd part
  by_cases e : j = i
  · subst e; simp [h]
  · rw [if_neg e]; congr 1; exact decide_eq_decide.2 (by omega)
theorem part_skip {B : List UInt8} {i : Nat} (h : bitF B i = false) : part B i = part B (i + 1) := by
  funext j; unfold part
  by_cases e : j = i
  · subst e; simp [h]
  · congr 1; exact decide_eq_decide.2 (by omega)
theorem part_all (B : List UInt8) (i : Nat) (h : 8 * B.length ≤ i) : part B i = bitF B := by
  funext j; unfold part
  by_cases e : j < i
  · simp [e]
  · rw [bitF_far B j (by omega)]; simp

theorem load_bad (v : Value) (n : Int) (w : World) (h : n < 1 ∨ (¬ n < 1 ∧ n > 65536)) : Calls Try.prog 34 #[v, .int .i64 n] w (Same (.returned (.tuple #[.pointer none, .int .i64 1])) w) := by
  have hn := new_bad n w h
  have Hn := Lib.hid hn
  clear hn h
  go_enter Try.func34, Try.ntmps34
  go_wp2_with fail
  refine Hn.out.mono ?_
  rintro e w1 ⟨rfl, rfl⟩
  go_wp2_with fail
  go_ret2
  exact ⟨rfl, rfl⟩
end Go.Proofs.Ytbckbnmpeedodaa
