/-
  geom: Encode.
-/
import Derived.Test.YtblmbchjafffbaaG2
import Derived.Test.YtblmbchjafffbaaNumRaw
import Derived.Lib.SmallJoins
namespace Go.Proofs.Ytblmbchjafffbaa
open Go.RowKit

def markB : List UInt8 := [76, 79, 71, 71, 73, 65]
def Geo.nums (g : Geo) : List Nat := [g.b.toNat, g.n.toNat, g.m.toNat]
def encH (g : Geo) : List UInt8 := markB ++ nb 2 1 ++ enc4 g.nums
def encGB (g : Geo) : List UInt8 := encH g ++ zeros (g.b.toNat - 20)
def encG (g : Geo) : List UInt8 := if chkG g = 0 then encGB g else []
theorem encH_len (g : Geo) : (encH g).length = 20 := by simp [encH, enc4_len, nb_len, Geo.nums, markB]
theorem chkG_ok {g : Geo} (h : chkG g = 0) : g.ok := by
  apply Classical.byContradiction
  intro hn
  rw [chkG, if_neg hn] at h
  omega

def RetEncG (w : World) (g : Geo) : Ending → World → Prop := fun e w' =>
  ∃ v gg, e = .returned (.tuple #[v, .int .i64 (chkG g)]) ∧ Rd w' v gg ((encG g).map bv) ∧ Above w.heap.size gg ∧ Keeps nowhere w w'

set_option maxHeartbeats 3200000 in
set_option maxRecDepth 20000 in
theorem gencode (g : Geo) (w : World) : Calls Try.prog 33 #[g.val] w (RetEncG w g) := by
  obtain ⟨w1, hw1⟩ : ∃ w1, w1 = w.alloc (.cells #[.int .i64 g.b, .int .i64 g.n, .int .i64 g.m] 60) := ⟨_, rfl⟩
  have hk0 : Keeps nowhere w w1 := by rw [hw1]; exact (Keeps.refl _ _).alloc _
  have hb1 : Blk w1 w.heap.size 60 #[.int .i64 g.b, .int .i64 g.n, .int .i64 g.m] := by rw [hw1]; exact Blk.new _ _ _
  have hsz1 : w1.heap.size = w.heap.size + 1 := by rw [hw1]; simp
  have hib := gcheck g w1
  obtain ⟨C, hC⟩ : ∃ C, C = chkG g := ⟨_, rfl⟩
  rw [← hC] at hib
  unfold Geo.val at hib ⊢
  have c0 := hb1.cell 0
  have c1 := hb1.cell 1
  have c2 := hb1.cell 2
  simp at c0 c1 c2
  have Hk0 := Lib.hid hk0
  have Hib := Lib.hid hib
  have HC := Lib.hid hC
  have Hb1 := Lib.hid hb1
  have Hsz1 := Lib.hid hsz1
  clear hk0 hib hC hb1 hsz1
  go_enter Try.func33, Try.ntmps33
  go_wp2_with fail
  rw [← hw1]
  refine Hib.out.mono ?_
  rintro e w2 ⟨rfl, hk2⟩
  have hkw2 := Hk0.out.more hk2
  clear c0 c1 c2 
  have Hw1 := Lib.hid hw1
  clear hw1
  by_cases hc : C = 0
  · have hc' : (C != 0) = false := by simp [hc]
    have hok : g.ok := chkG_ok (by rw [← HC.out]; exact hc)
    have hb2 := Hb1.out.keep hk2 (fun h => h)
    have hsz2 := hk2.size
    obtain ⟨w3, hw3⟩ : ∃ w3, w3 = w2.alloc (.cells #[.slice none 0 0] 77) := ⟨_, rfl⟩
    have hk3 : Keeps nowhere w2 w3 := by rw [hw3]; exact (Keeps.refl _ _).alloc _
    have ho3 : OutAt w3 w2.heap.size none [] := by rw [hw3]; exact OutAt.new w2
    have hsz3 : w3.heap.size = w2.heap.size + 1 := by rw [hw3]; simp
    obtain ⟨w4, hw4⟩ : ∃ w4, w4 = w3.alloc (.cells #[.int .u8 76, .int .u8 79, .int .u8 71, .int .u8 71, .int .u8 73, .int .u8 65] 5 (6, 7)) := ⟨_, rfl⟩
    have hk4 : Keeps nowhere w3 w4 := by rw [hw4]; exact (Keeps.refl _ _).alloc _
    have hr4 : Rd w4 (.slice (some ⟨w3.heap.size, 0, none⟩) 6 6) (some w3.heap.size) (markB.map bv) := by
      rw [hw4]
      exact Rd.full (heap_alloc_new w3 (.cells #[.int .u8 76, .int .u8 79, .int .u8 71, .int .u8 71, .int .u8 73, .int .u8 65] 5 (6, 7))) (by simp [maxLen])
    have ho4 := ho3.keep hk4 (fun h => h) (fun _ _ h => h)
    have hb4 := (hb2.keep hk3 (fun h => h)).keep hk4 (fun h => h)
    have hsz4 : w4.heap.size = w3.heap.size + 1 := by rw [hw4]; simp
    have hkw4 := (hkw2.more hk3).more hk4
    have hw4' := hw4
    rw [hw3] at hw4'
    have hput4 := Puts.start ho4
    have Hk2 := Lib.hid hk2
    have Hkw2 := Lib.hid hkw2
    have Hb2 := Lib.hid hb2
    have Hsz2 := Lib.hid hsz2
    have Hw3 := Lib.hid hw3
    have Hk3 := Lib.hid hk3
    have Hw4 := Lib.hid hw4
    have Hw4' := Lib.hid hw4'
    have Hk4 := Lib.hid hk4
    have Hr4 := Lib.hid hr4
    have Ho4 := Lib.hid ho4
    have Ho3 := Lib.hid ho3
    have Hb4 := Lib.hid hb4
    have Hsz3 := Lib.hid hsz3
    have Hsz4 := Lib.hid hsz4
    have Hkw4 := Lib.hid hkw4
    have Hc := Lib.hid hc
    have Hok := Lib.hid hok
    have Hput4 := Lib.hid hput4
    clear hk2 hkw2 hb2 hsz2 hw3 hk3 hw4 hw4' hk4 hr4 ho4 ho3 hb4 hsz3 hsz4 hkw4 hc hok hput4
    have kc := Go.Joins.run_convert_bytes_const_at (P := Try.prog) w3 24 5 #[.int .u8 76, .int .u8 79, .int .u8 71, .int .u8 71, .int .u8 73, .int .u8 65] 6 6 (w2.heap.size + 1) Hsz3.out.symm Try.underlying24 Try.underlying5
    rw [Hw3.out] at kc
    go_wp2_with fail
    rw [← Hw4'.out]
    clear kc
    rw [show w2.heap.size + 1 = w3.heap.size from Hsz3.out.symm] 
    refine (out_raw _ _ _ [] markB _ _ Ho4.out Hr4.out (by simp [markB])).mono ?_
    rintro e w5 hret
    obtain ⟨rfl, hput5⟩ := Hput4.out.step (From.refl _ _) hret
    clear hret
    rw [List.nil_append] at hput5
    obtain ⟨⟨g5, ho5, hfg5⟩, hkp5⟩ := id hput5
    have Hput5 := Lib.hid hput5
    have Ho5 := Lib.hid ho5
    have Hfg5 := Lib.hid hfg5
    have Hkp5 := Lib.hid hkp5
    clear hput5 ho5 hfg5 hkp5
    go_wp2_with fail
    refine (out_put _ g5 _ 2 1 _ Ho5.out (by omega) (by omega) (by omega) (by simp [markB])).mono ?_
    rintro e w6 hret
    obtain ⟨rfl, hput6⟩ := Hput5.out.step Hfg5.out hret
    clear hret
    obtain ⟨⟨g6, ho6, hfg6⟩, hkp6⟩ := id hput6
    have hb6 := Hb4.out.keep hkp6 (fun e => e.elim (fun e => by have := Hsz1.out; have := Hsz2.out; omega) (fun e => by cases e))
    have c0 := hb6.cell 0
    have c1 := hb6.cell 1
    have c2 := hb6.cell 2
    simp at c0 c1 c2
    have holt6 := ho6.lt
    have hkw6 := hput6.up (w := w) Hkw4.out (by have := Hsz2.out; have := Hsz1.out; omega) (Above.none _)
    have hg6 : Above w.heap.size g6 := fun b hb => (hfg6 b hb).elim (fun e => by cases e) (fun h => by have := Hkw4.out.size; omega)
    obtain ⟨xs, hxs⟩ : ∃ xs, xs = g.nums := ⟨_, rfl⟩
    obtain ⟨w7, hw7⟩ : ∃ w7, w7 = w6.alloc (.cells #[.int .i64 g.b, .int .i64 g.n, .int .i64 g.m] 3) := ⟨_, rfl⟩
    have hk7 : Keeps nowhere w6 w7 := by rw [hw7]; exact (Keeps.refl _ _).alloc _
    have hb7 : Blk w7 w6.heap.size 3 #[.int .i64 g.b, .int .i64 g.n, .int .i64 g.m] := by rw [hw7]; exact Blk.new _ _ _
    have ho7 := ho6.keep hk7 (fun h => h) (fun _ _ h => h)
    have hbg7 := hb6.keep hk7 (fun h => h)
    have hkw7 := hkw6.more hk7
    have hsz7 : w7.heap.size = w6.heap.size + 1 := by rw [hw7]; simp
    obtain ⟨k1, k2, k3, k4, k5⟩ := Hok.out
    obtain ⟨l1, l2, -⟩ := gsizes_le k1
    have hcell : ∀ k (hk : k < xs.length), xs[k] < 4294967296 ∧ w7.cell? ⟨w6.heap.size, k, none⟩ = some (.int .i64 (xs[k] : Nat)) := fun k hk => by
      subst hxs
      have e0 : ((g.b.toNat : Nat) : Int) = g.b := Int.toNat_of_nonneg (by omega)
      have e1 : ((g.n.toNat : Nat) : Int) = g.n := Int.toNat_of_nonneg (by omega)
      have e2 : ((g.m.toNat : Nat) : Int) = g.m := Int.toNat_of_nonneg (by omega)
      match k, hk with
      | 0, _ => exact ⟨by show g.b.toNat < _; omega, by show _ = some (Value.int .i64 ((g.b.toNat : Nat) : Int)); rw [e0]; exact hb7.cell 0⟩
      | 1, _ => exact ⟨by show g.n.toNat < _; omega, by show _ = some (Value.int .i64 ((g.n.toNat : Nat) : Int)); rw [e1]; exact hb7.cell 1⟩
      | 2, _ => exact ⟨by show g.m.toNat < _; omega, by show _ = some (Value.int .i64 ((g.m.toNat : Nat) : Int)); rw [e2]; exact hb7.cell 2⟩
    have hxl : xs.length = 3 := by rw [hxs]; rfl
    obtain ⟨L6, hL6⟩ : ∃ L6, L6 = markB ++ nb 2 1 := ⟨_, rfl⟩
    have hL6l : L6.length = 8 := by rw [hL6]; simp [markB, nb_len]
    rw [← hL6] at ho7
    have hput7 := Puts.start ho7
    have Hput6 := Lib.hid hput6
    have Ho6 := Lib.hid ho6
    have Hfg6 := Lib.hid hfg6
    have Hkp6 := Lib.hid hkp6
    have Hb6 := Lib.hid hb6
    have Holt6 := Lib.hid holt6
    have Hkw6 := Lib.hid hkw6
    have Hg6 := Lib.hid hg6
    have Hxs := Lib.hid hxs
    have Hw7 := Lib.hid hw7
    have Hk7 := Lib.hid hk7
    have Hb7 := Lib.hid hb7
    have Ho7 := Lib.hid ho7
    have Hbg7 := Lib.hid hbg7
    have Hkw7 := Lib.hid hkw7
    have Hsz7 := Lib.hid hsz7
    have K1 := Lib.hid k1
    have Hcell := Lib.hid hcell
    have Hxl := Lib.hid hxl
    have HL6 := Lib.hid hL6
    have HL6l := Lib.hid hL6l
    have Hput7 := Lib.hid hput7
    clear hput6 ho6 hfg6 hkp6 hb6 holt6 hkw6 hg6 hxs hw7 hk7 hb7 ho7 hbg7 hkw7 hsz7 k1 hcell hxl hL6 hL6l hput7
    go_wp2_with fail
    rw [← Hw7.out]
    clear c0 c1 c2
    go_loopw [25] (fun iv wr => ∃ k : Nat, k ≤ 3 ∧ iv = .int .i64 k ∧ Puts w7 wr w2.heap.size g6 (L6 ++ enc4 (xs.take k))) (fun iv _ => 3 - (intOf iv).toNat)
    case atStart => exact ⟨0, Nat.zero_le _, rfl, by simpa [enc4] using Hput7.out⟩
    case round =>
      obtain ⟨k, hk, rfl, hput⟩ := hrel
      obtain ⟨⟨gr, ho, hfg⟩, hkp⟩ := id hput
      by_cases hlt : k < 3
      · have hkx : k < xs.length := by rw [Hxl.out]; exact hlt
        obtain ⟨hx32, hcx⟩ := Hcell.out k hkx
        have hcr := (hkp.cell (p := ⟨w6.heap.size, k, none⟩) (by have := Hsz7.out; show w6.heap.size < w7.heap.size; omega) (fun e => e.elim (fun e => by have h := Holt6.out.1; simp only at e; omega) (fun e => absurd (Holt6.out.2 _ e.symm) (Nat.lt_irrefl _)))).trans hcx
        have hsucc := enc4_take hkx
        obtain ⟨x, hx⟩ : ∃ x, x = xs[k] := ⟨_, rfl⟩
        rw [← hx] at hcr hsucc hx32
        have hxw : IntKind.u64.wrap (x : Int) = x := IntWalk.u64_in _ (by omega)
        have hk0 : (0 : Int) ≤ k ∧ (k : Int) < 3 := by omega
        have hlen : (L6 ++ enc4 (xs.take k)).length ≤ 1099511627776 := by rw [List.length_append, enc4_len, List.length_take, HL6l.out]; omega
        clear hcx
        have Hput := Lib.hid hput
        have Ho := Lib.hid ho
        have Hfg := Lib.hid hfg
        have Hkp := Lib.hid hkp
        have Hsucc := Lib.hid hsucc
        have Hx := Lib.hid hx
        have Hlen := Lib.hid hlen
        clear hput ho hfg hkp hsucc hx hlen
        go_wp2_with fail
        refine (out_put _ gr _ 4 x _ Ho.out (by omega) (by omega) (by omega) Hlen.out).mono ?_
        rintro e w9 hret
        obtain ⟨rfl, hput9⟩ := Hput.out.step Hfg.out hret
        rw [List.append_assoc, ← Hsucc.out] at hput9
        clear hret
        have Hput9 := Lib.hid hput9
        clear hput9
        go_wp2_with fail
        go_roundw
        case rel => exact ⟨k + 1, by omega, by go_num, Hput9.out⟩
        case measure => simp [intOf]; omega
      · obtain rfl : k = 3 := by omega
        have hE : L6 ++ enc4 (xs.take 3) = encH g := by
          rw [show xs.take 3 = xs from by rw [← Hxl.out, List.take_length], HL6.out, Hxs.out]
          rfl
        rw [hE] at hput ho
        have hkw9 := hput.up Hkw7.out (by have := Hsz2.out; have := Hsz1.out; omega) Hg6.out
        have hEl := encH_len g
        have hbr := Hbg7.out.keep hkp (fun e => e.elim (fun e => by have := Hsz1.out; have := Hsz2.out; omega) (fun e => (Hfg6.out _ e.symm).elim (fun e => by cases e) (fun h => by have := Hsz1.out; have := Hsz2.out; have := Hsz3.out; have := Hsz4.out; omega)))
        obtain ⟨Y, hY⟩ : ∃ Y, Y = encH g := ⟨_, rfl⟩
        rw [← hY] at ho hEl
        have r0 : ∀ w', Keeps nowhere wr.drew w' → w'.cell? ⟨w.heap.size, 0, none⟩ = some (.int .i64 g.b) := fun w' hs => by simpa using (hbr.drew.keep hs (fun h => h)).cell 0
        have hod := ho.keep (Keeps.refl nowhere wr).drew (fun h => h) (fun _ _ h => h)
        have hwb : IntKind.i64.wrap (g.b - 20) = g.b - 20 := IntWalk.i64_in _ (by omega)
        have hbN : g.b - 20 = ((g.b.toNat - 20 : Nat) : Int) := by omega
        have Hput := Lib.hid hput
        have Ho := Lib.hid ho
        have Hfg := Lib.hid hfg
        have Hkp := Lib.hid hkp
        have HE := Lib.hid hE
        have Hkw9 := Lib.hid hkw9
        have HEl := Lib.hid hEl
        have Hbr := Lib.hid hbr
        have HY := Lib.hid hY
        have Hod := Lib.hid hod
        have HbN := Lib.hid hbN
        clear hput ho hfg hkp hE hkw9 hEl hbr hY hod hbN
        go_wp2_with fail
        refine wp_region_script [1, 2] [2] [.ps [1], .fs [2], .es [0] true, .es [3] true, .es [4] true, .es [5, 6, 7, 8, 9, 10] false] (Keeps nowhere wr.drew) rfl (by kernel_rfl) ?_
        refine wpS_ps rfl fun K hK => ?_
        simp only [List.map_cons, List.map_nil, Option.getD_some, List.getElem?_toArray, List.getElem?_cons_zero, List.getElem?_cons_succ]
        iterate 1 (first | (apply quietO_cons _ rfl; (intro w' _; go_simp; rfl)) | apply quietO_skip rfl)
        refine hK _ ?_
        clear hK K
        simp only [Act.put, List.setIfInBounds_toArray, List.set_cons_zero, List.set_cons_succ]
        refine wpS_fs rfl (Keeps.refl _ _) fun K hK => ?_
        simp only [List.map_cons, List.map_nil, Option.getD_some, List.getElem?_toArray, List.getElem?_cons_zero, List.getElem?_cons_succ]
        iterate 1 (first | (apply quietO_cons _ rfl; (intro w' hs; have c_0 := r0 w' hs; go_simp; rfl)) | apply quietO_skip rfl)
        refine hK _ ?_
        clear hK K
        simp only [Act.put, List.setIfInBounds_toArray, List.set_cons_zero, List.set_cons_succ]
        clear r0
        refine wpS_es rfl fun K hK => ?_
        have HK := Lib.hid hK
        clear hK
        simp only [List.map_cons, List.map_nil, Option.getD_some, List.getElem?_toArray, List.getElem?_cons_zero, List.getElem?_cons_succ]
        go_wp2_with fail
        refine (out_bytes _ gr _ _ Hod.out (by rw [HEl.out]; omega)).mono ?_
        rintro e w10 ⟨v10, g10, rfl, hr10, hf10, hk10⟩
        have ho10 := Hod.out.keep hk10 (fun h => h) (fun _ _ h => h)
        obtain ⟨A10, c10, rfl, -⟩ := hr10.form
        rw [List.length_map, HEl.out] at hr10 ⊢
        have Hr10 := Lib.hid hr10
        have Hf10 := Lib.hid hf10
        have Hk10 := Lib.hid hk10
        have Ho10 := Lib.hid ho10
        clear hr10 hf10 hk10 ho10
        go_wp2_with fail
        refine HK.out _ _ (fun _ => Hk10.out) ?_
        clear HK K
        refine wpS_es rfl fun K hK => ?_
        have HK := Lib.hid hK
        clear hK
        simp only [List.map_cons, List.map_nil, Option.getD_some, List.getElem?_toArray, List.getElem?_cons_zero, List.getElem?_cons_succ]
        go_wp2_with fail
        refine (out_bytes _ gr _ _ Ho10.out (by rw [HEl.out]; omega)).mono ?_
        rintro e w11 ⟨v11, g11, rfl, hr11, hf11, hk11⟩
        obtain ⟨A11, c11, rfl, -⟩ := hr11.form
        rw [List.length_map, HEl.out] at hr11 ⊢
        have hr10b := Hr10.out.keep hk11 (fun _ _ h => h)
        have hkk := Hk10.out.more hk11
        have Hr11 := Lib.hid hr11
        have Hf11 := Lib.hid hf11
        have Hk11 := Lib.hid hk11
        have Hr10b := Lib.hid hr10b
        have Hkk := Lib.hid hkk
        clear hr11 hf11 hk11 hr10b hkk
        go_wp2_with fail
        refine HK.out _ _ (fun _ => Hkk.out) ?_
        clear HK K
        refine wpS_es rfl fun K hK => ?_
        have HK := Lib.hid hK
        clear hK
        simp only [List.map_cons, List.map_nil, Option.getD_some, List.getElem?_toArray, List.getElem?_cons_zero, List.getElem?_cons_succ]
        go_wp2_with fail
        refine HK.out _ _ (fun _ => Hkk.out) ?_
        clear HK K
        refine wpS_es rfl fun K hK => ?_
        have HK := Lib.hid hK
        clear hK
        simp only [List.map_cons, List.map_nil, Option.getD_some, List.getElem?_toArray, List.getElem?_cons_zero, List.getElem?_cons_succ]
        go_wp2_with (at_make; refine wpList_make_bytes _ rfl _ _ rfl (g.b.toNat - 20) (g.b - 20) rfl rfl HbN.out (by omega) ?_)
        intro w12 hown12 hk12
        have hr10c := Hr10b.out.keep hk12 (fun _ _ h => h)
        obtain ⟨nz, hnz⟩ : ∃ nz, nz = g.b.toNat - 20 := ⟨_, rfl⟩
        have hnzl : nz ≤ 1004 := by omega
        rw [← hnz] at hown12 ⊢
        have hka := (Keeps.refl nowhere w12).alloc (.cells #[.slice A10 20 c10, .slice (some ⟨w11.heap.size, 0, none⟩) nz nz] 24)
        have hp13 := Parts.two (hr10c.keep hka (fun _ _ h => h)) (hown12.rd.keep hka (fun _ _ h => h))
        have hr13 := Rd.full (heap_alloc_new w12 (.cells #[.slice A10 20 c10, .slice (some ⟨w11.heap.size, 0, none⟩) nz nz] 24)) (by simp [maxLen])
        have hkw13 := ((Hkw9.out.drew.more Hkk.out).more hk12).more hka
        have hEE : encG g = encGB g := by rw [encG, if_pos (by rw [← HC.out]; exact Hc.out)]
        have hC0 : chkG g = 0 := by rw [← HC.out]; exact Hc.out
        have hzl : (zeros nz).length = nz := by simp [zeros]
        have Hown12 := Lib.hid hown12
        have Hk12 := Lib.hid hk12
        have Hr10c := Lib.hid hr10c
        have Hka := Lib.hid hka
        have Hp13 := Lib.hid hp13
        have Hr13 := Lib.hid hr13
        have Hkw13 := Lib.hid hkw13
        have HEE := Lib.hid hEE
        have HC0 := Lib.hid hC0
        have Hnz := Lib.hid hnz
        have Hzl := Lib.hid hzl
        clear hown12 hk12 hr10c hka hp13 hr13 hkw13 hEE hC0 hnz hzl
        go_wp2_with fail
        refine (concat_any _ _ _ [Y, zeros nz] _ _ Hr13.out Hp13.out (by simp) (by simp only [tot, List.flatten_cons, List.flatten_nil, List.append_nil, List.length_append, HEl.out, Hzl.out]; omega)).mono ?_
        rintro e w14 ⟨v14, rfl, hown14, hab14, hk14⟩
        have hfl : [Y, zeros nz].flatten = encGB g := by simp [encGB, HY.out, Hnz.out]
        rw [hfl] at hown14
        have hszw := Hkw13.out.size
        have Hown14 := Lib.hid hown14
        have Hab14 := Lib.hid hab14
        have Hk14 := Lib.hid hk14
        have Hszw := Lib.hid hszw
        clear hown14 hab14 hk14 hszw
        go_wp2_with fail
        refine HK.out _ _ (fun h => by cases h) ?_
        clear HK K
        refine wpS_nil ?_
        go_wp2_with fail
        go_ret2
        exact ⟨v14, _, by rw [HC0.out]; rfl, by rw [HEE.out]; exact Hown14.out.rd, fun b hb => Nat.le_trans Hszw.out (Hab14.out b hb), Hkw13.out.more Hk14.out⟩
  · have hc' : (C != 0) = true := by simp [hc]
    have he : encG g = [] := by rw [encG, if_neg (by rw [← HC.out]; exact hc)]
    have Hk2 := Lib.hid hk2
    have Hkw2 := Lib.hid hkw2
    have He := Lib.hid he
    have Hc := Lib.hid hc
    clear hk2 hkw2 he hc
    go_wp2_with fail
    go_ret2
    exact ⟨_, none, by rw [HC.out]; rfl, by rw [He.out]; exact Rd.nil _, Above.none _, Hkw2.out⟩
end Go.Proofs.Ytblmbchjafffbaa
