/-
  geom: the statement GeomForm, walked.
-/
import Derived.Test.YtblmbchjafffbaaG11
import Derived.BigQuiet
namespace Go.Proofs.Ytblmbchjafffbaa
open Go.RowKit

set_option maxHeartbeats 20000000 in
set_option maxRecDepth 20000 in
theorem gform_walk (g : Geo) (w : World) : Calls Try.prog 12 #[g.val] w (YesG w) := by
  obtain ⟨w1, hw1⟩ : ∃ w1, w1 = w.alloc (.cells #[.int .i64 g.b, .int .i64 g.n, .int .i64 g.m] 60) := ⟨_, rfl⟩
  have hk1 : Keeps nowhere w w1 := by rw [hw1]; exact (Keeps.refl _ _).alloc _
  have hb1 : Blk w1 w.heap.size 60 #[.int .i64 g.b, .int .i64 g.n, .int .i64 g.m] := by rw [hw1]; exact Blk.new _ _ _
  have hlt1 : w.heap.size < w1.heap.size := by rw [hw1]; simp
  obtain ⟨C, hC⟩ : ∃ C, C = chkG g := ⟨_, rfl⟩
  unfold Geo.val
  have Hk1 := Lib.hid hk1
  have Hb1 := Lib.hid hb1
  have HC := Lib.hid hC
  have Hlt1 := Lib.hid hlt1
  clear hk1 hb1 hC hlt1
  go_enter Try.func12, Try.ntmps12
  go_wp2_with fail
  rw [← hw1]
  refine (known10 w1).mono ?_
  rintro e w2 ⟨rfl, hk2⟩
  have hb2 := Hb1.out.keep hk2 (fun h => h)
  have hkw2 := Hk1.out.more hk2
  have hck := gcheck g w2
  unfold Geo.val at hck
  rw [← HC.out] at hck
  have c0 : w2.cell? ⟨w.heap.size, 0, none⟩ = some (.int .i64 g.b) := hb2.cell 0
  have c1 : w2.cell? ⟨w.heap.size, 1, none⟩ = some (.int .i64 g.n) := hb2.cell 1
  have c2 : w2.cell? ⟨w.heap.size, 2, none⟩ = some (.int .i64 g.m) := hb2.cell 2
  have hlt2 := hk2.size
  have Hw1 := Lib.hid hw1
  have Hk2 := Lib.hid hk2
  have Hb2 := Lib.hid hb2
  have Hkw2 := Lib.hid hkw2
  have Hck := Lib.hid hck
  have Hlt2 := Lib.hid hlt2
  clear hw1 hk2 hb2 hkw2 hck hlt2
  go_wp2_with fail
  clear c0 c1 c2
  refine Hck.out.mono ?_
  rintro e w3 ⟨rfl, hk3⟩
  have hb3 := Hb2.out.keep hk3 (fun h => h)
  have hkw3 := Hkw2.out.more hk3
  have hlt3 := hk3.size
  by_cases hc : C = 0
  · have hc' : (C != 0) = false := by simp [hc]
    have hchk : chkG g = 0 := by rw [← HC.out]; exact hc
    have hok : g.ok := chkG_ok hchk
    have hlc := lgcheck g w3
    unfold Geo.val at hlc
    rw [if_pos hok] at hlc
    have c0 : w3.cell? ⟨w.heap.size, 0, none⟩ = some (.int .i64 g.b) := hb3.cell 0
    have c1 : w3.cell? ⟨w.heap.size, 1, none⟩ = some (.int .i64 g.n) := hb3.cell 1
    have c2 : w3.cell? ⟨w.heap.size, 2, none⟩ = some (.int .i64 g.m) := hb3.cell 2
    have Hk3 := Lib.hid hk3
    have Hb3 := Lib.hid hb3
    have Hkw3 := Lib.hid hkw3
    have Hc := Lib.hid hc
    have Hchk := Lib.hid hchk
    have Hok := Lib.hid hok
    have Hlc := Lib.hid hlc
    have Hlt3 := Lib.hid hlt3
    clear hk3 hb3 hkw3 hc hchk hok hlc hlt3
    go_wp2_with fail
    clear c0 c1 c2
    refine Hlc.out.mono ?_
    rintro e w4 ⟨rfl, hk4⟩
    have hb4 := Hb3.out.keep hk4 (fun h => h)
    have hkw4 := Hkw3.out.more hk4
    have hen := gencode g w4
    unfold Geo.val at hen
    have c0 : w4.cell? ⟨w.heap.size, 0, none⟩ = some (.int .i64 g.b) := hb4.cell 0
    have c1 : w4.cell? ⟨w.heap.size, 1, none⟩ = some (.int .i64 g.n) := hb4.cell 1
    have c2 : w4.cell? ⟨w.heap.size, 2, none⟩ = some (.int .i64 g.m) := hb4.cell 2
    have hlt4 := hk4.size
    have Hk4 := Lib.hid hk4
    have Hb4 := Lib.hid hb4
    have Hkw4 := Lib.hid hkw4
    have Hen := Lib.hid hen
    have Hlt4 := Lib.hid hlt4
    clear hk4 hb4 hkw4 hen hlt4
    go_wp2_with fail
    clear c0 c1 c2
    refine Hen.out.mono ?_
    rintro e w5 ⟨v5, g5, rfl, hr5, hab5, hk5⟩
    rw [Hchk.out]
    obtain ⟨E, hE⟩ : ∃ E, E = encGB g := ⟨_, rfl⟩
    rw [encG, if_pos Hchk.out, ← hE] at hr5
    have hEl := encGB_len g Hok.out
    rw [← hE] at hEl
    obtain ⟨A5, cc5, rfl, -⟩ := hr5.form
    rw [List.length_map] at *
    have hb5 := Hb4.out.keep hk5 (fun h => h)
    have hkw5 := Hkw4.out.more hk5
    obtain ⟨w6, hw6⟩ : ∃ w6, w6 = w5.alloc (.cells #[.int .u8 76, .int .u8 79, .int .u8 71, .int .u8 71, .int .u8 73, .int .u8 65, .int .u8 1, .int .u8 0] 5 (8, 9)) := ⟨_, rfl⟩
    have hk6 : Keeps nowhere w5 w6 := by rw [hw6]; exact (Keeps.refl _ _).alloc _
    have hrM6 : Rd w6 (.slice (some ⟨w5.heap.size, 0, none⟩) 8 8) (some w5.heap.size) (wordB.map bv) := by
      rw [hw6]
      exact Rd.full (heap_alloc_new w5 (.cells #[.int .u8 76, .int .u8 79, .int .u8 71, .int .u8 71, .int .u8 73, .int .u8 65, .int .u8 1, .int .u8 0] 5 (8, 9))) (by simp [maxLen])
    have hb6 := hb5.keep hk6 (fun h => h)
    have hr6 := hr5.keep hk6 (fun _ _ h => h)
    have hsz6 : w6.heap.size = w5.heap.size + 1 := by rw [hw6]; simp
    obtain ⟨w7, hw7⟩ : ∃ w7, w7 = w6.alloc (.cells #[.int .i64 g.b, .int .i64 g.n, .int .i64 g.m] 3) := ⟨_, rfl⟩
    have hk7 : Keeps nowhere w6 w7 := by rw [hw7]; exact (Keeps.refl _ _).alloc _
    have hx7 : Blk w7 w6.heap.size 3 #[.int .i64 g.b, .int .i64 g.n, .int .i64 g.m] := by rw [hw7]; exact Blk.new _ _ _
    rw [hsz6] at hx7
    have hb7 := hb6.keep hk7 (fun h => h)
    have hr7 := hr6.keep hk7 (fun _ _ h => h)
    have hrM7 := hrM6.keep hk7 (fun _ _ h => h)
    have hkw7 := (hkw5.more hk6).more hk7
    have hsz7 : w7.heap.size = w5.heap.size + 2 := by rw [hw7]; simp [hsz6]
    have hlt5 : w.heap.size < w5.heap.size := by have := hk5.size; have := Hlt4.out; have := Hlt3.out; have := Hlt2.out; have := Hlt1.out; omega
    have c0 : w6.cell? ⟨w.heap.size, 0, none⟩ = some (.int .i64 g.b) := hb6.cell 0
    have c1 : w6.cell? ⟨w.heap.size, 1, none⟩ = some (.int .i64 g.n) := hb6.cell 1
    have c2 : w6.cell? ⟨w.heap.size, 2, none⟩ = some (.int .i64 g.m) := hb6.cell 2
    have kc := Go.Joins.run_convert_bytes_const_at (P := Try.prog) w5 24 5 #[.int .u8 76, .int .u8 79, .int .u8 71, .int .u8 71, .int .u8 73, .int .u8 65, .int .u8 1, .int .u8 0] 8 8 (w5.heap.size) rfl Try.underlying24 Try.underlying5
    rw [hw6] at c0 c1 c2
    have hw7' := hw7
    rw [hw6] at hw7'
    have Hr5 := Lib.hid hr5
    have Hab5 := Lib.hid hab5
    have Hk5 := Lib.hid hk5
    have HE := Lib.hid hE
    have HEl := Lib.hid hEl
    have Hb5 := Lib.hid hb5
    have Hkw5 := Lib.hid hkw5
    have Hk6 := Lib.hid hk6
    have HrM6 := Lib.hid hrM6
    have Hb6 := Lib.hid hb6
    have Hr6 := Lib.hid hr6
    have Hsz6 := Lib.hid hsz6
    have Hk7 := Lib.hid hk7
    have Hx7 := Lib.hid hx7
    have Hb7 := Lib.hid hb7
    have Hr7 := Lib.hid hr7
    have HrM7 := Lib.hid hrM7
    have Hkw7 := Lib.hid hkw7
    have Hsz7 := Lib.hid hsz7
    have Hlt5 := Lib.hid hlt5
    have Hw6 := Lib.hid hw6
    have Hw7 := Lib.hid hw7
    clear hr5 hab5 hk5 hE hEl hb5 hkw5 hk6 hrM6 hb6 hr6 hsz6 hk7 hx7 hb7 hr7 hrM7 hkw7 hsz7 hlt5 hw6 hw7
    go_wp2_with fail
    rw [← hw7']
    clear c0 c1 c2 kc
    have Hw7' := Lib.hid hw7'
    clear hw7'
    obtain ⟨k1, k2, k3, k4, k5⟩ := Hok.out
    obtain ⟨l1, l2, -⟩ := gsizes_le k1
    obtain ⟨xs, hxs⟩ : ∃ xs, xs = g.nums := ⟨_, rfl⟩
    have hxl : xs.length = 3 := by rw [hxs]; rfl
    have hcell : ∀ k (hk : k < xs.length), xs[k] < 4294967296 ∧ w7.cell? ⟨w5.heap.size + 1, k, none⟩ = some (.int .i64 (xs[k] : Nat)) := fun k hk => by
      subst hxs
      have e0 : ((g.b.toNat : Nat) : Int) = g.b := Int.toNat_of_nonneg (by omega)
      have e1 : ((g.n.toNat : Nat) : Int) = g.n := Int.toNat_of_nonneg (by omega)
      have e2 : ((g.m.toNat : Nat) : Int) = g.m := Int.toNat_of_nonneg (by omega)
      match k, hk with
      | 0, _ => exact ⟨by show g.b.toNat < _; omega, by show _ = some (Value.int .i64 ((g.b.toNat : Nat) : Int)); rw [e0]; exact Hx7.out.cell 0⟩
      | 1, _ => exact ⟨by show g.n.toNat < _; omega, by show _ = some (Value.int .i64 ((g.n.toNat : Nat) : Int)); rw [e1]; exact Hx7.out.cell 1⟩
      | 2, _ => exact ⟨by show g.m.toNat < _; omega, by show _ = some (Value.int .i64 ((g.m.toNat : Nat) : Int)); rw [e2]; exact Hx7.out.cell 2⟩
    have Hxs := Lib.hid hxs
    have Hxl := Lib.hid hxl
    have Hcell := Lib.hid hcell
    have K1 := Lib.hid k1
    clear hxs hxl hcell k1
    go_loopw [5, 7] (fun sv iv wr => ∃ (k : Nat) (A : Option Addr) (n0 cap0 : Nat), k ≤ 3 ∧ iv = .int .i64 k ∧ sv = .slice A n0 cap0 ∧ OwnM wr sv (wordB ++ enc4 (xs.take k)) ∧ (k = 3 → OwnB wr sv (wordB ++ enc4 (xs.take k))) ∧ (∀ b, sv.ownBlock = some b → b = w5.heap.size ∨ w7.heap.size ≤ b) ∧ Keeps (only w5.heap.size) w7 wr) (fun _ iv _ => 3 - (intOf iv).toNat)
    case atStart => exact ⟨0, _, _, _, Nat.zero_le _, rfl, rfl, .inr ⟨w5.heap.size, rfl, HrM7.out⟩, fun h => by omega, fun b hb => .inl (by injection hb with hb; exact hb.symm), Keeps.refl _ _⟩
    case round =>
      obtain ⟨k, A, n0, cap0, hk, rfl, rfl, hown, hown3, hob, hkr⟩ := hrel
      have hkrw : Keeps nowhere w wr := Hkw7.out.trans hkr fun b hb e => by have := Hlt5.out; have : b = w5.heap.size := e; omega
      by_cases hlt : k < 3
      · have hkx : k < xs.length := by rw [Hxl.out]; exact hlt
        obtain ⟨hx32, hcx⟩ := Hcell.out k hkx
        have hcr := (hkr.cell (p := ⟨w5.heap.size + 1, k, none⟩) (by have := Hsz7.out; show w5.heap.size + 1 < w7.heap.size; omega) (fun e => by have : w5.heap.size + 1 = w5.heap.size := e; omega)).trans hcx
        have hsucc := enc4_take hkx
        obtain ⟨x, hx⟩ : ∃ x, x = xs[k] := ⟨_, rfl⟩
        rw [← hx] at hcr hsucc hx32
        have hk0 : (0 : Int) ≤ k ∧ (k : Int) < 3 := by omega
        have hlen : (wordB ++ enc4 (xs.take k)).length + 4 ≤ 1099511627776 := by rw [List.length_append, enc4_len, List.length_take]; simp [wordB]; omega
        have hltr : w5.heap.size + 1 < wr.drew.heap.size := by have := Hsz7.out; have := hkr.size; simp; omega
        have r0 : ∀ w', Keeps nowhere wr.drew w' → w'.cell? ⟨w5.heap.size + 1, k, none⟩ = some (.int .i64 x) := fun w' hs => (hs.cell (p := ⟨w5.heap.size + 1, k, none⟩) hltr (fun h => h)).trans (by simpa using hcr)
        clear hcx
        obtain ⟨C4, hC4⟩ : ∃ C4 : Array Value, C4 = #[.int .u8 ((x : Int) % 256), .int .u8 ((x : Int) / 256 % 256), .int .u8 ((x : Int) / 65536 % 256), .int .u8 ((x : Int) / 16777216)] := ⟨_, rfl⟩
        have hCl : C4.toList = (nb 4 x).map bv := by
          rw [hC4, nb4g]
          simp only [List.map_cons, List.map_nil, bv, UInt8.toNat_ofNat']
          have e3 : (x : Int) / 16777216 = ((x / 16777216 : Nat) : Int) := by omega
          have e4 : x / 16777216 % 2 ^ 8 = x / 16777216 := Nat.mod_eq_of_lt (by omega)
          simp only [e3, e4]
          congr 3 <;> (try congr 2) <;> omega
        obtain ⟨wa, hwa⟩ : ∃ wa, wa = wr.drew.alloc (.cells C4 5) := ⟨_, rfl⟩
        have hr4 : Rd wa (.slice (some ⟨wr.heap.size, 0, none⟩) 4 4) (some wr.heap.size) ((nb 4 x).map bv) := by
          have h := Rd.full (heap_alloc_new wr.drew (.cells C4 5)) (by rw [hC4]; simp [maxLen])
          rw [hCl] at h
          rw [hC4] at h
          rw [hwa, hC4]
          exact h
        have hka : Keeps nowhere wr wa := by rw [hwa]; exact ((Keeps.refl nowhere wr).drew).alloc _
        have hownM : OwnM wa (.slice A n0 cap0) (wordB ++ enc4 (xs.take k)) := hown.imp (fun h => h.keep hka (fun _ _ h => h)) (fun ⟨g', e, h⟩ => ⟨g', e, h.keep hka (fun _ _ h => h)⟩)
        rw [hC4] at hwa
        have hlen' : (wordB ++ enc4 (xs.take k)).length + (nb 4 x).length ≤ 1099511627776 := by rw [nb_len]; exact hlen
        have Hown := Lib.hid hown
        have Hown3 := Lib.hid hown3
        have Hob := Lib.hid hob
        have Hkr := Lib.hid hkr
        have Hkrw := Lib.hid hkrw
        have Hsucc := Lib.hid hsucc
        have Hx := Lib.hid hx
        have Hlen := Lib.hid hlen
        have Hltr := Lib.hid hltr
        have HC4 := Lib.hid hC4
        have HCl := Lib.hid hCl
        have Hr4 := Lib.hid hr4
        have Hka := Lib.hid hka
        have HownM := Lib.hid hownM
        have Hlen' := Lib.hid hlen'
        clear hown hown3 hob hkr hkrw hsucc hx hlen hltr hC4 hCl hr4 hka hownM hlen'
        go_wp2_with fail
        refine wp_region_script [0, 1, 2, 3, 4, 5, 6, 7, 8, 9, 10, 11, 12, 13, 14, 15, 16, 17, 18, 19, 20, 21, 22, 23] [4, 9, 15, 21] [.ps [0, 1, 2, 3], .fs [4], .ps [5, 6, 7, 8], .fs [9], .ps [10, 11, 12, 13, 14], .fs [15], .ps [16, 17, 18, 19, 20], .fs [21], .ps [22, 23], .es [24, 25, 26] false] (Keeps nowhere wr.drew) rfl (by kernel_rfl) ?_
        refine wpS_ps rfl fun K hK => ?_
        simp only [List.map_cons, List.map_nil, Option.getD_some, List.getElem?_toArray, List.getElem?_cons_zero, List.getElem?_cons_succ]
        iterate 4 (first | (apply quietO_cons _ rfl; (intro w' _; go_simp; rfl)) | apply quietO_skip rfl)
        refine hK _ ?_
        clear hK K
        simp only [Act.put, List.setIfInBounds_toArray, List.set_cons_zero, List.set_cons_succ]
        refine wpS_fs rfl (Keeps.refl _ _) fun K hK => ?_
        simp only [List.map_cons, List.map_nil, Option.getD_some, List.getElem?_toArray, List.getElem?_cons_zero, List.getElem?_cons_succ]
        iterate 1 (first | (apply quietO_cons _ rfl; (intro w' hs; have c_0 := r0 w' hs; go_simp; rfl)) | apply quietO_skip rfl)
        refine hK _ ?_
        clear hK K
        simp only [Act.put, List.setIfInBounds_toArray, List.set_cons_zero, List.set_cons_succ]
        refine wpS_ps rfl fun K hK => ?_
        simp only [List.map_cons, List.map_nil, Option.getD_some, List.getElem?_toArray, List.getElem?_cons_zero, List.getElem?_cons_succ]
        iterate 4 (first | (apply quietO_cons _ rfl; (intro w' _; go_simp; rfl)) | apply quietO_skip rfl)
        refine hK _ ?_
        clear hK K
        simp only [Act.put, List.setIfInBounds_toArray, List.set_cons_zero, List.set_cons_succ]
        refine wpS_fs rfl (Keeps.refl _ _) fun K hK => ?_
        simp only [List.map_cons, List.map_nil, Option.getD_some, List.getElem?_toArray, List.getElem?_cons_zero, List.getElem?_cons_succ]
        iterate 1 (first | (apply quietO_cons _ rfl; (intro w' hs; have c_0 := r0 w' hs; go_simp; rfl)) | apply quietO_skip rfl)
        refine hK _ ?_
        clear hK K
        simp only [Act.put, List.setIfInBounds_toArray, List.set_cons_zero, List.set_cons_succ]
        refine wpS_ps rfl fun K hK => ?_
        simp only [List.map_cons, List.map_nil, Option.getD_some, List.getElem?_toArray, List.getElem?_cons_zero, List.getElem?_cons_succ]
        iterate 5 (first | (apply quietO_cons _ rfl; (intro w' _; go_simp; rfl)) | apply quietO_skip rfl)
        refine hK _ ?_
        clear hK K
        simp only [Act.put, List.setIfInBounds_toArray, List.set_cons_zero, List.set_cons_succ]
        refine wpS_fs rfl (Keeps.refl _ _) fun K hK => ?_
        simp only [List.map_cons, List.map_nil, Option.getD_some, List.getElem?_toArray, List.getElem?_cons_zero, List.getElem?_cons_succ]
        iterate 1 (first | (apply quietO_cons _ rfl; (intro w' hs; have c_0 := r0 w' hs; go_simp; rfl)) | apply quietO_skip rfl)
        refine hK _ ?_
        clear hK K
        simp only [Act.put, List.setIfInBounds_toArray, List.set_cons_zero, List.set_cons_succ]
        refine wpS_ps rfl fun K hK => ?_
        simp only [List.map_cons, List.map_nil, Option.getD_some, List.getElem?_toArray, List.getElem?_cons_zero, List.getElem?_cons_succ]
        iterate 5 (first | (apply quietO_cons _ rfl; (intro w' _; go_simp; rfl)) | apply quietO_skip rfl)
        refine hK _ ?_
        clear hK K
        simp only [Act.put, List.setIfInBounds_toArray, List.set_cons_zero, List.set_cons_succ]
        refine wpS_fs rfl (Keeps.refl _ _) fun K hK => ?_
        simp only [List.map_cons, List.map_nil, Option.getD_some, List.getElem?_toArray, List.getElem?_cons_zero, List.getElem?_cons_succ]
        iterate 1 (first | (apply quietO_cons _ rfl; (intro w' hs; have c_0 := r0 w' hs; go_simp; rfl)) | apply quietO_skip rfl)
        refine hK _ ?_
        clear hK K
        simp only [Act.put, List.setIfInBounds_toArray, List.set_cons_zero, List.set_cons_succ]
        refine wpS_ps rfl fun K hK => ?_
        simp only [List.map_cons, List.map_nil, Option.getD_some, List.getElem?_toArray, List.getElem?_cons_zero, List.getElem?_cons_succ]
        iterate 2 (first | (apply quietO_cons _ rfl; (intro w' _; go_simp; rfl)) | apply quietO_skip rfl)
        refine hK _ ?_
        clear hK K
        simp only [Act.put, List.setIfInBounds_toArray, List.set_cons_zero, List.set_cons_succ]
        clear r0
        refine wpS_es rfl fun K hK => ?_
        have HK := Lib.hid hK
        clear hK
        simp only [List.map_cons, List.map_nil, Option.getD_some, List.getElem?_toArray, List.getElem?_cons_zero, List.getElem?_cons_succ]
        have hwa' := hwa
        have Hwa' := Lib.hid hwa'
        clear hwa'
        rw [hwa] at Hr4 HownM
        go_wp2_with (at_builtin; go_must (refine wpList_append_bytesM rfl (.tmp 40) (.tmp 64) rfl _ _ rfl HownM.out _ _ (nb 4 x) rfl Hr4.out (by rw [nb_len]; omega) Hlen'.out ?_))
        intro v' w' hown' hk' hf'
        replace hk' : Keeps (fun b => (Value.slice A n0 cap0).ownBlock = some b) wa w' := by rw [Hwa'.out]; exact hk'
        have hsza : wa.heap.size = wr.heap.size + 1 := by rw [Hwa'.out]; simp
        replace hf' : From (Value.slice A n0 cap0).ownBlock wa.heap.size v'.ownBlock := by rw [hsza]; exact hf'
        rw [← Hsucc.out] at hown'
        have hkr' : Keeps nowhere wr wr := Keeps.refl _ _
        obtain ⟨A', c', rfl, -⟩ := hown'.form'
        have hob' : ∀ b, (Value.slice A' (wordB ++ enc4 (xs.take (k + 1))).length c').ownBlock = some b → b = w5.heap.size ∨ w7.heap.size ≤ b := fun b hb => (hf' b hb).elim (fun h => Hob.out b h) (fun h => .inr (by have := Hka.out.size; have := Hkr.out.size; omega))
        have hkr'' : Keeps (only w5.heap.size) w7 w' := (Hkr.out.trans Hka.out fun _ _ h => h.elim).trans hk' fun b hb e => (Hob.out b e).elim (fun h => h) (fun h => by omega)
        have Hown' := Lib.hid hown'
        have Hk' := Lib.hid hk'
        have Hf' := Lib.hid hf'
        have Hob' := Lib.hid hob'
        have Hkr'' := Lib.hid hkr''
        have Hkr' := Lib.hid hkr'
        clear hown' hk' hf' hob' hkr'' hkr'
        go_wp2_with fail
        refine HK.out _ _ (fun h => by cases h) ?_
        clear HK K
        refine wpS_nil ?_
        go_wp2_with fail
        go_roundw
        case rel => exact ⟨k + 1, _, _, _, by omega, by go_num, rfl, .inl Hown'.out, fun _ => Hown'.out, Hob'.out, Hkr''.out⟩
        case measure => simp [intOf]; omega
      · obtain rfl : k = 3 := by omega
        rw [show ((3 : Nat) : Int) = 3 from rfl]
        have ho3 := hown3 rfl
        obtain ⟨W, hW⟩ : ∃ W, W = wordB ++ enc4 (xs.take 3) := ⟨_, rfl⟩
        rw [← hW] at ho3
        have hWl : W.length = 20 := by rw [hW, List.length_append, enc4_len, List.length_take, Hxl.out]; rfl
        have hWE : W ++ zeros (g.b.toNat - 20) = E := by rw [hW, show xs.take 3 = xs from by rw [← Hxl.out, List.take_length], Hxs.out, HE.out, encGB, encH, wordB_eq]
        have hbr := Hb7.out.keep hkr (fun e => by have := Hlt5.out; have : w.heap.size = w5.heap.size := e; omega)
        have hrr := Hr7.out.keep hkr (fun b hb e => by have := Hr5.out.lt b hb; have : b = w5.heap.size := e; omega)
        have c0 : wr.cell? ⟨w.heap.size, 0, none⟩ = some (.int .i64 g.b) := hbr.cell 0
        have c1 : wr.cell? ⟨w.heap.size, 1, none⟩ = some (.int .i64 g.n) := hbr.cell 1
        have c2 : wr.cell? ⟨w.heap.size, 2, none⟩ = some (.int .i64 g.m) := hbr.cell 2
        have hwb : IntKind.i64.wrap (g.b - 20) = g.b - 20 := IntWalk.i64_in _ (by omega)
        obtain ⟨Z, hZ⟩ : ∃ Z, Z = g.b.toNat - 20 := ⟨_, rfl⟩
        have hZ0 : 0 < Z ∧ 20 + Z ≤ 2000 := by omega
        have hbN : Value.int .i64 (g.b - 20) = .int .i64 (Z : Nat) := by congr 1; omega
        rw [← hZ] at hWE
        have hltr := hkr.size
        have Hown := Lib.hid hown
        have Hown3 := Lib.hid hown3
        have Hob := Lib.hid hob
        have Hkr := Lib.hid hkr
        have Hkrw := Lib.hid hkrw
        have Ho3 := Lib.hid ho3
        have HW := Lib.hid hW
        have HWl := Lib.hid hWl
        have HWE := Lib.hid hWE
        have Hbr := Lib.hid hbr
        have Hrr := Lib.hid hrr
        have HZ := Lib.hid hZ
        have HbN := Lib.hid hbN
        have Hltr := Lib.hid hltr
        clear hown hown3 hob hkr hkrw ho3 hW hWl hWE hbr hrr hZ hbN hltr
        go_wp2_with (at_builtin; go_must (refine wpList_append_zeros _ rfl (.tmp 66) (.tmp 69) rfl _ W Z rfl HbN.out Ho3.out (by omega) (by rw [HWl.out]; omega) ?_))
        intro v8 w8 hown8 hk8 hf8
        rw [HWE.out] at hown8
        clear c0 c1 c2
        obtain ⟨A8, c8, rfl, -⟩ := hown8.form'
        have hkw8 : Keeps nowhere w w8 := Hkrw.out.trans hk8 fun b hb e => (Hob.out b e).elim (fun h => by have := Hlt5.out; omega) (fun h => by have := Hlt5.out; have := Hsz7.out; omega)
        have hb8 := Hbr.out.keep hk8 (fun e => (Hob.out _ e).elim (fun h => by have := Hlt5.out; omega) (fun h => by have := Hlt5.out; have := Hsz7.out; omega))
        have hr8 := Hrr.out.keep hk8 (fun b hb e => by have := Hr5.out.lt b hb; exact (Hob.out _ e).elim (fun h => by omega) (fun h => by have := Hsz7.out; omega))
        have hlt8 : w.heap.size < w8.heap.size := by have := hk8.size; have := Hltr.out; have := Hlt5.out; have := Hsz7.out; omega
        have s1 := conv_str _ _ _ _ hr8
        have s2 := conv_str _ _ _ _ hown8.rd
        have sq := strOf_bne (rfl : E = E)
        have Hown8 := Lib.hid hown8
        have Hk8 := Lib.hid hk8
        have Hf8 := Lib.hid hf8
        have Hkw8 := Lib.hid hkw8
        have Hb8 := Lib.hid hb8
        have Hr8 := Lib.hid hr8
        have Hlt8 := Lib.hid hlt8
        clear hown8 hk8 hf8 hkw8 hb8 hr8 hlt8
        go_wp2_with fail
        clear s1 s2 sq
        go_loopw [8] (fun iv wr => ∃ j : Nat, j ≤ 24 ∧ iv = .int .i64 j ∧ Keeps nowhere w8 wr) (fun iv _ => 24 - (intOf iv).toNat)
        case atStart => exact ⟨0, Nat.zero_le _, rfl, Keeps.refl _ _⟩
        case round =>
          obtain ⟨j, hj, rfl, hkx⟩ := hrel
          by_cases hlj : j < 24
          · have hjE : j < E.length := by rw [HEl.out]; omega
            have hjI : (0 : Int) ≤ j ∧ (j : Int) < (E.length : Int) := by omega
            have hj24 : (j : Int) < 24 := by omega
            have hrx := Hr8.out.keep hkx (fun _ _ h => h)
            have hbx := Hb8.out.keep hkx (fun h => h)
            have hka := (Keeps.refl nowhere wr).alloc (.cells #[] 5)
            have hra := hrx.keep hka (fun _ _ h => h)
            have hElb : E.length ≤ 2000 := by rw [HEl.out]; omega
            have hltx := hkx.size
            have Hrx := Lib.hid hrx
            have Hbx := Lib.hid hbx
            have Hka := Lib.hid hka
            have Hra := Lib.hid hra
            have Hkx := Lib.hid hkx
            have HElb := Lib.hid hElb
            have Hltx := Lib.hid hltx
            clear hrx hbx hka hra hkx hElb hltx
            go_wp2_with (at_builtin; go_must (refine wpList_append_bytes rfl (.tmp 84) (.tmp 85) rfl _ _ rfl (OwnB.empty wr) _ _ E rfl Hra.out (by have := HElb.out; simp; omega) ?_))
            intro v6 w9 hown9 hk9 hf9
            replace hown9 : OwnB w9 v6 E := hown9
            have hab9 : Above wr.heap.size v6.ownBlock := fun b hb => (hf9 b hb).elim (fun e => by simp [Value.ownBlock] at e; omega) (fun h => by have := Hka.out.size; omega)
            have hkx9 : Keeps nowhere wr w9 := Hka.out.trans hk9 fun b hb e => by simp [Value.ownBlock] at e; omega
            have hb9 := Hbx.out.keep hkx9 (fun h => h)
            rcases hown9.2 with ⟨rfl, h0⟩ | ⟨g6, c6', cur6, rfl, hbase6, hblk6, hrest6⟩
            · omega
            · have hrd9 := hown9.rd
              obtain ⟨b', o', c', he, -, hlt6, -, -, hc6⟩ := hrd9.plain (by rw [List.length_map]; omega)
              injection he with e1 e2 e3
              injection e1 with e1
              injection e1 with e1 e4
              subst e1 e4
              clear e2 e3
              have hcj := hc6 j _ (get_bv E j hjE)
              rw [Nat.zero_add] at hcj
              have hfj : w9.frozen? ⟨g6, j, none⟩ = false := frozen_of_row w9 g6 j cur6 5 hblk6
              obtain ⟨y, hy⟩ : ∃ y, y = E[j].toNat := ⟨_, rfl⟩
              have hcj' : w9.cell? ⟨g6, j, none⟩ = some (.int .u8 (y : Int)) := by rw [hcj, hy]; rfl
              have hy256 : y < 256 := by rw [hy]; exact E[j].toNat_lt
              obtain ⟨hx1, hx2, hx3⟩ := xor_u8 y 7 hy256 (by omega)
              obtain ⟨x, hx⟩ : ∃ x, x = y ^^^ 2 ^ 7 := ⟨_, rfl⟩
              rw [← hx] at hx1 hx2 hx3
              have hp2 : bits .xor .u8 (y : Int) 128 = (x : Int) := hx1
              obtain ⟨nb_, hnb⟩ : ∃ b : UInt8, b = UInt8.ofNat x := ⟨_, rfl⟩
              have hbx' : bv nb_ = .int .u8 (x : Int) := by rw [hnb]; unfold bv; congr 1; rw [UInt8.toNat_ofNat']; omega
              obtain ⟨L2, hL2⟩ : ∃ L2, L2 = E.set j nb_ := ⟨_, rfl⟩
              have hne2 : L2 ≠ E := fun e => hx3 (by
                have h1 : L2[j]? = E[j]? := by rw [e]
                rw [hL2, List.getElem?_set_self hjE, List.getElem?_eq_getElem hjE] at h1
                injection h1 with h1
                have h2 : nb_.toNat = y := by rw [h1, hy]
                rw [hnb, UInt8.toNat_ofNat'] at h2
                omega)
              have hrdA := hrd9.store j (.int .u8 (x : Int)) (by rw [List.length_map]; exact hjE)
              rw [← hbx', ← List.map_set, ← hL2, hbx'] at hrdA
              have hL2l : L2.length = E.length := by rw [hL2, List.length_set]
              have hkxA := hkx9.setCell (p := ⟨g6, j, none⟩) (fun h => by have := hab9 g6 rfl; simp only at h; omega) (.int .u8 (x : Int))
              have hbA := Hbx.out.keep hkxA (fun h => h)
              obtain ⟨wA, hwA⟩ : ∃ wA, wA = w9.setCell ⟨g6, j, none⟩ (.int .u8 (x : Int)) := ⟨_, rfl⟩
              rw [← hwA] at hrdA hkxA hbA
              clear hcj hx1 hrest6
              have Hown9 := Lib.hid hown9
              have Hk9 := Lib.hid hk9
              have Hf9 := Lib.hid hf9
              have Hab9 := Lib.hid hab9
              have Hkx9 := Lib.hid hkx9
              have Hb9 := Lib.hid hb9
              have Hblk6 := Lib.hid hblk6
              have Hrd9 := Lib.hid hrd9
              have Hc6 := Lib.hid hc6
              have Hy := Lib.hid hy
              have Hx := Lib.hid hx
              have Hx3 := Lib.hid hx3
              have Hnb := Lib.hid hnb
              have Hbx' := Lib.hid hbx'
              have HL2 := Lib.hid hL2
              have Hne2 := Lib.hid hne2
              have HrdA := Lib.hid hrdA
              have HL2l := Lib.hid hL2l
              have HkxA := Lib.hid hkxA
              have HbA := Lib.hid hbA
              clear hown9 hk9 hf9 hab9 hkx9 hb9 hblk6 hrd9 hc6 hy hx hx3 hnb hbx' hL2 hne2 hrdA hL2l hkxA hbA
              go_wp2_with fail
              rw [← hwA]
              have HwA := Lib.hid hwA
              clear hwA
              refine (gdecode _ _ L2 _ HrdA.out (by rw [HL2l.out]; have := HElb.out; omega)).mono ?_
              rintro e wB ⟨rfl, hkB⟩
              obtain ⟨h2, hh2⟩ : ∃ h2, h2 = decGo L2 := ⟨_, rfl⟩
              obtain ⟨f2, hf2⟩ : ∃ f2, f2 = decGe L2 := ⟨_, rfl⟩
              rw [← hh2, ← hf2]
              unfold Geo.val
              obtain ⟨wC, hwC⟩ : ∃ wC, wC = wB.alloc (.cells #[.int .i64 h2.b, .int .i64 h2.n, .int .i64 h2.m] 60) := ⟨_, rfl⟩
              have hkC : Keeps nowhere wB wC := by rw [hwC]; exact (Keeps.refl _ _).alloc _
              have hxC : Blk wC wB.heap.size 60 #[.int .i64 h2.b, .int .i64 h2.n, .int .i64 h2.m] := by rw [hwC]; exact Blk.new _ _ _
              have hbC := (HbA.out.keep hkB (fun h => h)).keep hkC (fun h => h)
              have hkwC : Keeps nowhere w8 wC := ((Hkx.out.more HkxA.out).more hkB).more hkC
              by_cases hg : goodG L2
              · have hf0 : f2 = 0 := by rw [hf2, decGe, if_pos hg]
                subst hf0
                have hij : h2 ≠ g := fun e => Hne2.out (by
                  have h1 := hg.2
                  rw [← show decGo L2 = rdG L2 from by rw [decGo, if_pos hg], ← hh2, e, ← HE.out] at h1
                  exact h1.symm)
                have hq : eqG h2 g = false := by
                  cases hqq : eqG h2 g
                  · rfl
                  · exact absurd ((eqG_iff h2 g).1 hqq) hij
                have hn : ∀ w, (binOp .eql 60 (.agg #[.int .i64 h2.b, .int .i64 h2.n, .int .i64 h2.m]) (.agg #[.int .i64 g.b, .int .i64 g.n, .int .i64 g.m])).run Try.prog w = .ok (.bool false) w := fun w => by
                  have h := geql_run h2 g w
                  rw [hq] at h
                  exact h
                have x0 : wC.cell? ⟨wB.heap.size, 0, none⟩ = some (.int .i64 h2.b) := hxC.cell 0
                have x1 : wC.cell? ⟨wB.heap.size, 1, none⟩ = some (.int .i64 h2.n) := hxC.cell 1
                have x2 : wC.cell? ⟨wB.heap.size, 2, none⟩ = some (.int .i64 h2.m) := hxC.cell 2
                have c0 : wC.cell? ⟨w.heap.size, 0, none⟩ = some (.int .i64 g.b) := hbC.cell 0
                have c1 : wC.cell? ⟨w.heap.size, 1, none⟩ = some (.int .i64 g.n) := hbC.cell 1
                have c2 : wC.cell? ⟨w.heap.size, 2, none⟩ = some (.int .i64 g.m) := hbC.cell 2
                clear hq hij
                rw [hwC] at x0 x1 x2 c0 c1 c2
                have HkB := Lib.hid hkB
                have Hh2 := Lib.hid hh2
                have Hf2 := Lib.hid hf2
                have HkC := Lib.hid hkC
                have HxC := Lib.hid hxC
                have HbC := Lib.hid hbC
                have HkwC := Lib.hid hkwC
                have Hg := Lib.hid hg
                clear hkB hh2 hf2 hkC hxC hbC hkwC hg
                go_wp2_with fail
                rw [← hwC]
                go_roundw
                case rel => exact ⟨j + 1, by omega, by go_num, HkwC.out⟩
                case measure => simp [intOf]; omega
              · have hf0 : f2 = 2 := by rw [hf2, decGe, if_neg hg]
                subst hf0
                have HkB := Lib.hid hkB
                have Hh2 := Lib.hid hh2
                have Hf2 := Lib.hid hf2
                have HkC := Lib.hid hkC
                have HxC := Lib.hid hxC
                have HbC := Lib.hid hbC
                have HkwC := Lib.hid hkwC
                have Hg := Lib.hid hg
                clear hkB hh2 hf2 hkC hxC hbC hkwC hg
                go_wp2_with fail
                rw [← hwC]
                go_roundw
                case rel => exact ⟨j + 1, by omega, by go_num, HkwC.out⟩
                case measure => simp [intOf]; omega
          · obtain rfl : j = 24 := by omega
            rw [show ((24 : Nat) : Int) = 24 from rfl]
            have hkf := Hkw8.out.more hkx
            have Hkf := Lib.hid hkf
            have Hkx := Lib.hid hkx
            clear hkf hkx
            go_wp2_with fail
            go_ret
            exact ⟨rfl, Hkf.out⟩
  · have hc' : (C != 0) = true := by simp [hc]
    have Hk3 := Lib.hid hk3
    have Hb3 := Lib.hid hb3
    have Hkw3 := Lib.hid hkw3
    have Hc := Lib.hid hc
    have Hlt3 := Lib.hid hlt3
    clear hk3 hb3 hkw3 hc hlt3
    go_wp2_with fail
    go_ret
    exact ⟨rfl, Hkw3.out⟩
end Go.Proofs.Ytblmbchjafffbaa
