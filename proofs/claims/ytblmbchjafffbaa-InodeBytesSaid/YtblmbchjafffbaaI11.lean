/-
  inode: law 11's bad, where it must say yes.
-/
import Derived.Test.YtblmbchjafffbaaI10
import Derived.Test.YtblmbchjafffbaaRegion
import Derived.Deep.CutBlock
import Derived.BigQuiet
namespace Go.Proofs.Ytblmbchjafffbaa
open Go.RowKit

theorem bits_or_u32_nat (a b : Nat) (ha : a < 4294967296) (hb : b < 4294967296) : bits .or .u32 (a : Int) (b : Int) = ((a ||| b : Nat) : Int) := by
  have hx : a ||| b < 2 ^ 32 := Nat.or_lt_two_pow (by omega) (by omega)
  have h1 : (BitVec.ofInt 32 (a : Int)).toNat = a := by
    rw [BitVec.ofInt_natCast, BitVec.toNat_ofNat]; exact Nat.mod_eq_of_lt (by omega)
  have h2 : (BitVec.ofInt 32 (b : Int)).toNat = b := by
    rw [BitVec.ofInt_natCast, BitVec.toNat_ofNat]; exact Nat.mod_eq_of_lt (by omega)
  show IntKind.u32.wrap ((BitVec.ofInt 32 (a : Int) ||| BitVec.ofInt 32 (b : Int)).toNat : Int) = _
  rw [BitVec.toNat_or, h1, h2]
  exact IntWalk.u32_in _ (by omega)
theorem or_high32 (x y k : Nat) (hk : k ≤ 24) (hx : x < 2 ^ k) (hy : y < 256) : bits .or .u32 (x : Int) ((y : Int) * ((2 ^ k : Nat) : Int)) = ((x + y * 2 ^ k : Nat) : Int) := by
  have hp : (2 : Nat) ^ k ≤ 2 ^ 24 := Nat.pow_le_pow_right (by omega) hk
  have h24 : (2 : Nat) ^ 24 = 16777216 := by decide
  have hm : y * 2 ^ k ≤ 255 * 2 ^ 24 := Nat.mul_le_mul (by omega) hp
  rw [← Int.natCast_mul, bits_or_u32_nat _ _ (by omega) (by omega)]
  congr 1
  rw [Nat.or_comm, ← Nat.shiftLeft_eq, ← Nat.shiftLeft_add_eq_or_of_lt hx, Nat.add_comm]
theorem or_size32 (a b c d : Nat) (ha : a < 256) (hb : b < 256) (hc : c < 256) (hd : d < 256) :
    bits .or .u32 (bits .or .u32 (bits .or .u32 (a : Int) ((b : Int) * 256)) ((c : Int) * 65536)) ((d : Int) * 16777216) = ((a + b * 256 + c * 65536 + d * 16777216 : Nat) : Int) := by
  have e1 := or_high32 a b 8 (by omega) (by omega) hb
  have e2 := or_high32 (a + b * 256) c 16 (by omega) (by omega) hc
  have e3 := or_high32 (a + b * 256 + c * 65536) d 24 (by omega) (by omega) hd
  simp only [show (2 : Nat) ^ 8 = 256 from rfl, show (2 : Nat) ^ 16 = 65536 from rfl, show (2 : Nat) ^ 24 = 16777216 from rfl] at e1 e2 e3
  rw [show ((b : Int) * 256) = (b : Int) * ((256 : Nat) : Int) from rfl, e1, show ((c : Int) * 65536) = (c : Int) * ((65536 : Nat) : Int) from rfl, e2, show ((d : Int) * 16777216) = (d : Int) * ((16777216 : Nat) : Int) from rfl, e3]
theorem or_two64 (a b : Nat) (ha : a < 256) (hb : b < 256) : bits .or .i64 (a : Int) ((b : Int) * 256) = ((a + b * 256 : Nat) : Int) := by
  have hx : a ||| b * 256 < 2 ^ 63 := Nat.or_lt_two_pow (by omega) (by omega)
  have h1 : (BitVec.ofInt 64 (a : Int)).toNat = a := by
    rw [BitVec.ofInt_natCast, BitVec.toNat_ofNat]; exact Nat.mod_eq_of_lt (by omega)
  have h2 : (BitVec.ofInt 64 ((b * 256 : Nat) : Int)).toNat = b * 256 := by
    rw [BitVec.ofInt_natCast, BitVec.toNat_ofNat]; exact Nat.mod_eq_of_lt (by omega)
  rw [show ((b : Int) * 256) = ((b * 256 : Nat) : Int) from by simp]
  show IntKind.i64.wrap ((BitVec.ofInt 64 (a : Int) ||| BitVec.ofInt 64 ((b * 256 : Nat) : Int)).toNat : Int) = _
  rw [BitVec.toNat_or, h1, h2, IntWalk.i64_in _ (by omega)]
  congr 1
  rw [show b * 256 = b * 2 ^ 8 from rfl, Nat.or_comm, ← Nat.shiftLeft_eq, ← Nat.shiftLeft_add_eq_or_of_lt (by omega), Nat.add_comm, Nat.shiftLeft_eq]

theorem u8_zero {b : UInt8} : b ≠ 0 ↔ b.toNat ≠ 0 := by
  constructor
  · intro h e
    exact h (UInt8.toNat_inj.1 e)
  · intro h e
    exact h (by rw [e]; rfl)

set_option maxHeartbeats 3200000 in
set_option maxRecDepth 20000 in
theorem lbad (v0 : Value) (g0 : Option Nat) (L : List UInt8) (w : World) (hr : Rd w v0 g0 (L.map bv)) (hl : L.length = 64) (hbad : badL L) :
    Calls Try.prog 30 #[v0] w fun e w' => e = .returned (.bool true) ∧ Keeps nowhere w w' := by
  obtain ⟨b, o, c, rfl, rfl, hlt, hlc, hcm, hc⟩ := hr.plain (by rw [List.length_map]; omega)
  rw [List.length_map, hl] at hr hlc ⊢
  obtain ⟨x, hx⟩ : ∃ x : Nat → Nat, ∀ k, x k = (L.getD k 0).toNat := ⟨fun k => (L.getD k 0).toNat, fun _ => rfl⟩
  have hx256 : ∀ k, x k < 256 := fun k => by rw [hx]; exact (L.getD k 0).toNat_lt
  have hcell : ∀ k, k < 64 → w.cell? ⟨b, o + k, none⟩ = some (.int .u8 (x k : Int)) := fun k hk => by
    rw [hx]
    have hkl : k < L.length := by omega
    rw [show L.getD k 0 = L[k] from by simp [List.getD, hkl]]
    exact hc k _ (get_bv L k hkl)
  have hbad' : x 14 ≠ 0 ∨ x 15 ≠ 0 ∨ 1000 < x 12 + x 13 * 256 ∨ (∃ j, j < 10 ∧ (x (16 + 4 * j + 2) ≠ 0 ∨ x (16 + 4 * j + 3) ≠ 0)) ∨ (∃ j, j < 8 ∧ x (56 + j) ≠ 0) ∨ 1073741824 < x 8 + x 9 * 256 + x 10 * 65536 + x 11 * 16777216 := by
    simp only [hx]
    simp only [← u8_zero]
    exact hbad
  have d14 := hcell 14 (by omega)
  have d15 := hcell 15 (by omega)
  have d12 := hcell 12 (by omega)
  have d13 := hcell 13 (by omega)
  have hor := or_two64 (x 12) (x 13) (hx256 12) (hx256 13)
  obtain ⟨l, hl2⟩ : ∃ l, l = x 12 + x 13 * 256 := ⟨_, rfl⟩
  rw [← hl2] at hor hbad'
  have e12 : ∀ w', w' = w.drew → w'.cell? ⟨b, o + 12, none⟩ = some (.int .u8 (x 12 : Int)) := fun w' e => by rw [e]; exact d12
  have hx13 := hx256 13
  have hx12 := hx256 12
  have hw12 : IntKind.i64.wrap (x 12 : Int) = x 12 := IntWalk.i64_in _ (by omega)
  have hw13 : IntKind.i64.wrap (x 13 : Int) = x 13 := IntWalk.i64_in _ (by omega)
  have hw14 : IntKind.i64.wrap ((x 13 : Int) * 256) = (x 13 : Int) * 256 := IntWalk.i64_in _ (by omega)
  have Hr := Lib.hid hr
  have Hc := Lib.hid hc
  have Hx := Lib.hid hx
  have Hx256 := Lib.hid hx256
  have Hcell := Lib.hid hcell
  have Hbad' := Lib.hid hbad'
  have Hbad := Lib.hid hbad
  have Hl2 := Lib.hid hl2
  clear hr hc hx hx256 hcell hbad' hbad hl2
  go_enter Try.func30, Try.ntmps30
  go_upto_region 1 with fail
  go_cut [28] from 6 to 28 (fun cw wx => ∃ cc : Bool, cw = .bool cc ∧ (cc = true ↔ (x 14 ≠ 0 ∨ x 15 ≠ 0 ∨ 1000 < l)) ∧ wx = w.drew)
  case first =>
    by_cases h14 : x 14 = 0
    · have q14 : ((x 14 : Int) != 0) = false := by simp [h14]
      by_cases h15 : x 15 = 0
      · have q15 : ((x 15 : Int) != 0) = false := by simp [h15]
        by_cases hl3 : 1000 < l
        · have ql : (l : Int) > 1000 := by omega
          have ql1 : decide ((1000 : Int) < (l : Int)) = true := by simp; omega
          have ql2 : decide (1000 < l) = true := by simp; omega
          have h1 : (true = true ↔ (x 14 ≠ 0 ∨ x 15 ≠ 0 ∨ 1000 < l)) := ⟨fun _ => .inr (.inr hl3), fun _ => rfl⟩
          have H1 := Lib.hid h1
          have H14 := Lib.hid h14
          have H15 := Lib.hid h15
          clear h1 h14 h15
          go_wp2_with fail
          refine wp_region_script [11, 12, 13, 14, 15, 16, 18, 19, 20, 21, 22] [13] [.es [0, 1, 2, 3, 4, 5, 6, 7, 8, 9, 10] false, .ps [11, 12], .fs [13], .ps [14, 15, 16], .es [17] true, .ps [18, 19, 20, 21, 22]] (fun w' => w' = w.drew) rfl (by kernel_rfl) ?_
          refine wpS_es rfl fun K hK => ?_
          have HK := Lib.hid hK
          clear hK
          simp only [List.map_cons, List.map_nil, Option.getD_some, List.getElem?_toArray, List.getElem?_cons_zero, List.getElem?_cons_succ]
          go_wp2_with fail
          refine HK.out _ _ (fun h => by cases h) ?_
          clear HK K
          refine wpS_ps rfl fun K hK => ?_
          simp only [List.map_cons, List.map_nil, Option.getD_some, List.getElem?_toArray, List.getElem?_cons_zero, List.getElem?_cons_succ]
          iterate 2 (first | (apply quietO_cons _ rfl; (intro w' _; go_simp; rfl)) | apply quietO_skip rfl)
          refine hK _ ?_
          clear hK K
          simp only [Act.put, List.setIfInBounds_toArray, List.set_cons_zero, List.set_cons_succ]
          refine wpS_fs rfl (rfl) fun K hK => ?_
          simp only [List.map_cons, List.map_nil, Option.getD_some, List.getElem?_toArray, List.getElem?_cons_zero, List.getElem?_cons_succ]
          iterate 1 (first | (apply quietO_cons _ rfl; (intro w' hs; have c_0 := e12 w' hs; go_simp; rfl)) | apply quietO_skip rfl)
          refine hK _ ?_
          clear hK K
          simp only [Act.put, List.setIfInBounds_toArray, List.set_cons_zero, List.set_cons_succ]
          refine wpS_ps rfl fun K hK => ?_
          simp only [List.map_cons, List.map_nil, Option.getD_some, List.getElem?_toArray, List.getElem?_cons_zero, List.getElem?_cons_succ]
          iterate 3 (first | (apply quietO_cons _ rfl; (intro w' _; go_simp; rfl)) | apply quietO_skip rfl)
          refine hK _ ?_
          clear hK K
          simp only [Act.put, List.setIfInBounds_toArray, List.set_cons_zero, List.set_cons_succ]
          refine wpS_es rfl fun K hK => ?_
          have HK := Lib.hid hK
          clear hK
          simp only [List.map_cons, List.map_nil, Option.getD_some, List.getElem?_toArray, List.getElem?_cons_zero, List.getElem?_cons_succ]
          go_wp2_with fail
          refine HK.out _ _ (fun _ => rfl) ?_
          clear HK K
          refine wpS_ps rfl fun K hK => ?_
          simp only [List.map_cons, List.map_nil, Option.getD_some, List.getElem?_toArray, List.getElem?_cons_zero, List.getElem?_cons_succ]
          iterate 5 (first | (apply quietO_cons _ rfl; (intro w' _; go_simp; rfl)) | apply quietO_skip rfl)
          refine hK _ ?_
          clear hK K
          simp only [Act.put, List.setIfInBounds_toArray, List.set_cons_zero, List.set_cons_succ]
          refine wpS_nil ?_
          go_wp2_with fail
          go_meet
          case rel => exact ⟨true, rfl, by simpa using H1.out, rfl⟩
        · have ql : ¬ (l : Int) > 1000 := by omega
          have ql1 : decide ((1000 : Int) < (l : Int)) = false := by simp; omega
          have ql2 : decide (1000 < l) = false := by simp; omega
          have h1 : (false = true ↔ (x 14 ≠ 0 ∨ x 15 ≠ 0 ∨ 1000 < l)) := ⟨fun h => (by cases h), fun h => (by omega)⟩
          have H1 := Lib.hid h1
          have H14 := Lib.hid h14
          have H15 := Lib.hid h15
          clear h1 h14 h15
          go_wp2_with fail
          refine wp_region_script [11, 12, 13, 14, 15, 16, 18, 19, 20, 21, 22] [13] [.es [0, 1, 2, 3, 4, 5, 6, 7, 8, 9, 10] false, .ps [11, 12], .fs [13], .ps [14, 15, 16], .es [17] true, .ps [18, 19, 20, 21, 22]] (fun w' => w' = w.drew) rfl (by kernel_rfl) ?_
          refine wpS_es rfl fun K hK => ?_
          have HK := Lib.hid hK
          clear hK
          simp only [List.map_cons, List.map_nil, Option.getD_some, List.getElem?_toArray, List.getElem?_cons_zero, List.getElem?_cons_succ]
          go_wp2_with fail
          refine HK.out _ _ (fun h => by cases h) ?_
          clear HK K
          refine wpS_ps rfl fun K hK => ?_
          simp only [List.map_cons, List.map_nil, Option.getD_some, List.getElem?_toArray, List.getElem?_cons_zero, List.getElem?_cons_succ]
          iterate 2 (first | (apply quietO_cons _ rfl; (intro w' _; go_simp; rfl)) | apply quietO_skip rfl)
          refine hK _ ?_
          clear hK K
          simp only [Act.put, List.setIfInBounds_toArray, List.set_cons_zero, List.set_cons_succ]
          refine wpS_fs rfl (rfl) fun K hK => ?_
          simp only [List.map_cons, List.map_nil, Option.getD_some, List.getElem?_toArray, List.getElem?_cons_zero, List.getElem?_cons_succ]
          iterate 1 (first | (apply quietO_cons _ rfl; (intro w' hs; have c_0 := e12 w' hs; go_simp; rfl)) | apply quietO_skip rfl)
          refine hK _ ?_
          clear hK K
          simp only [Act.put, List.setIfInBounds_toArray, List.set_cons_zero, List.set_cons_succ]
          refine wpS_ps rfl fun K hK => ?_
          simp only [List.map_cons, List.map_nil, Option.getD_some, List.getElem?_toArray, List.getElem?_cons_zero, List.getElem?_cons_succ]
          iterate 3 (first | (apply quietO_cons _ rfl; (intro w' _; go_simp; rfl)) | apply quietO_skip rfl)
          refine hK _ ?_
          clear hK K
          simp only [Act.put, List.setIfInBounds_toArray, List.set_cons_zero, List.set_cons_succ]
          refine wpS_es rfl fun K hK => ?_
          have HK := Lib.hid hK
          clear hK
          simp only [List.map_cons, List.map_nil, Option.getD_some, List.getElem?_toArray, List.getElem?_cons_zero, List.getElem?_cons_succ]
          go_wp2_with fail
          refine HK.out _ _ (fun _ => rfl) ?_
          clear HK K
          refine wpS_ps rfl fun K hK => ?_
          simp only [List.map_cons, List.map_nil, Option.getD_some, List.getElem?_toArray, List.getElem?_cons_zero, List.getElem?_cons_succ]
          iterate 5 (first | (apply quietO_cons _ rfl; (intro w' _; go_simp; rfl)) | apply quietO_skip rfl)
          refine hK _ ?_
          clear hK K
          simp only [Act.put, List.setIfInBounds_toArray, List.set_cons_zero, List.set_cons_succ]
          refine wpS_nil ?_
          go_wp2_with fail
          go_meet
          case rel => exact ⟨false, rfl, H1.out, rfl⟩
      · have q15 : ((x 15 : Int) != 0) = true := by simp; omega
        have h1 : (true = true ↔ (x 14 ≠ 0 ∨ x 15 ≠ 0 ∨ 1000 < l)) := ⟨fun _ => .inr (.inl h15), fun _ => rfl⟩
        have H1 := Lib.hid h1
        have H14 := Lib.hid h14
        have H15 := Lib.hid h15
        clear h1 h14 h15
        go_wp2_with fail
        refine wp_region_script [11, 12, 13, 14, 15, 16, 18, 19, 20, 21, 22] [13] [.es [0, 1, 2, 3, 4, 5, 6, 7, 8, 9, 10] false, .ps [11, 12], .fs [13], .ps [14, 15, 16], .es [17] true, .ps [18, 19, 20, 21, 22]] (fun w' => w' = w.drew) rfl (by kernel_rfl) ?_
        refine wpS_es rfl fun K hK => ?_
        have HK := Lib.hid hK
        clear hK
        simp only [List.map_cons, List.map_nil, Option.getD_some, List.getElem?_toArray, List.getElem?_cons_zero, List.getElem?_cons_succ]
        go_wp2_with fail
        refine HK.out _ _ (fun h => by cases h) ?_
        clear HK K
        refine wpS_ps rfl fun K hK => ?_
        simp only [List.map_cons, List.map_nil, Option.getD_some, List.getElem?_toArray, List.getElem?_cons_zero, List.getElem?_cons_succ]
        iterate 2 (first | (apply quietO_cons _ rfl; (intro w' _; go_simp; rfl)) | apply quietO_skip rfl)
        refine hK _ ?_
        clear hK K
        simp only [Act.put, List.setIfInBounds_toArray, List.set_cons_zero, List.set_cons_succ]
        refine wpS_fs rfl (rfl) fun K hK => ?_
        simp only [List.map_cons, List.map_nil, Option.getD_some, List.getElem?_toArray, List.getElem?_cons_zero, List.getElem?_cons_succ]
        iterate 1 (first | (apply quietO_cons _ rfl; (intro w' hs; have c_0 := e12 w' hs; go_simp; rfl)) | apply quietO_skip rfl)
        refine hK _ ?_
        clear hK K
        simp only [Act.put, List.setIfInBounds_toArray, List.set_cons_zero, List.set_cons_succ]
        refine wpS_ps rfl fun K hK => ?_
        simp only [List.map_cons, List.map_nil, Option.getD_some, List.getElem?_toArray, List.getElem?_cons_zero, List.getElem?_cons_succ]
        iterate 3 (first | (apply quietO_cons _ rfl; (intro w' _; go_simp; rfl)) | apply quietO_skip rfl)
        refine hK _ ?_
        clear hK K
        simp only [Act.put, List.setIfInBounds_toArray, List.set_cons_zero, List.set_cons_succ]
        refine wpS_es rfl fun K hK => ?_
        have HK := Lib.hid hK
        clear hK
        simp only [List.map_cons, List.map_nil, Option.getD_some, List.getElem?_toArray, List.getElem?_cons_zero, List.getElem?_cons_succ]
        go_wp2_with fail
        refine HK.out _ _ (fun _ => rfl) ?_
        clear HK K
        refine wpS_ps rfl fun K hK => ?_
        simp only [List.map_cons, List.map_nil, Option.getD_some, List.getElem?_toArray, List.getElem?_cons_zero, List.getElem?_cons_succ]
        iterate 5 (first | (apply quietO_cons _ rfl; (intro w' _; go_simp; rfl)) | apply quietO_skip rfl)
        refine hK _ ?_
        clear hK K
        simp only [Act.put, List.setIfInBounds_toArray, List.set_cons_zero, List.set_cons_succ]
        refine wpS_nil ?_
        go_wp2_with fail
        go_meet
        case rel => exact ⟨true, rfl, by simpa using H1.out, rfl⟩
    · have q14 : ((x 14 : Int) != 0) = true := by simp; omega
      have h1 : (true = true ↔ (x 14 ≠ 0 ∨ x 15 ≠ 0 ∨ 1000 < l)) := ⟨fun _ => .inl h14, fun _ => rfl⟩
      have H1 := Lib.hid h1
      have H14 := Lib.hid h14
      clear h1 h14
      go_wp2_with fail
      refine wp_region_script [11, 12, 13, 14, 15, 16, 18, 19, 20, 21, 22] [13] [.es [0, 1, 2, 3, 4, 5, 6, 7, 8, 9, 10] false, .ps [11, 12], .fs [13], .ps [14, 15, 16], .es [17] true, .ps [18, 19, 20, 21, 22]] (fun w' => w' = w.drew) rfl (by kernel_rfl) ?_
      refine wpS_es rfl fun K hK => ?_
      have HK := Lib.hid hK
      clear hK
      simp only [List.map_cons, List.map_nil, Option.getD_some, List.getElem?_toArray, List.getElem?_cons_zero, List.getElem?_cons_succ]
      go_wp2_with fail
      refine HK.out _ _ (fun h => by cases h) ?_
      clear HK K
      refine wpS_ps rfl fun K hK => ?_
      simp only [List.map_cons, List.map_nil, Option.getD_some, List.getElem?_toArray, List.getElem?_cons_zero, List.getElem?_cons_succ]
      iterate 2 (first | (apply quietO_cons _ rfl; (intro w' _; go_simp; rfl)) | apply quietO_skip rfl)
      refine hK _ ?_
      clear hK K
      simp only [Act.put, List.setIfInBounds_toArray, List.set_cons_zero, List.set_cons_succ]
      refine wpS_fs rfl (rfl) fun K hK => ?_
      simp only [List.map_cons, List.map_nil, Option.getD_some, List.getElem?_toArray, List.getElem?_cons_zero, List.getElem?_cons_succ]
      iterate 1 (first | (apply quietO_cons _ rfl; (intro w' hs; have c_0 := e12 w' hs; go_simp; rfl)) | apply quietO_skip rfl)
      refine hK _ ?_
      clear hK K
      simp only [Act.put, List.setIfInBounds_toArray, List.set_cons_zero, List.set_cons_succ]
      refine wpS_ps rfl fun K hK => ?_
      simp only [List.map_cons, List.map_nil, Option.getD_some, List.getElem?_toArray, List.getElem?_cons_zero, List.getElem?_cons_succ]
      iterate 3 (first | (apply quietO_cons _ rfl; (intro w' _; go_simp; rfl)) | apply quietO_skip rfl)
      refine hK _ ?_
      clear hK K
      simp only [Act.put, List.setIfInBounds_toArray, List.set_cons_zero, List.set_cons_succ]
      refine wpS_es rfl fun K hK => ?_
      have HK := Lib.hid hK
      clear hK
      simp only [List.map_cons, List.map_nil, Option.getD_some, List.getElem?_toArray, List.getElem?_cons_zero, List.getElem?_cons_succ]
      go_wp2_with fail
      refine HK.out _ _ (fun _ => rfl) ?_
      clear HK K
      refine wpS_ps rfl fun K hK => ?_
      simp only [List.map_cons, List.map_nil, Option.getD_some, List.getElem?_toArray, List.getElem?_cons_zero, List.getElem?_cons_succ]
      iterate 5 (first | (apply quietO_cons _ rfl; (intro w' _; go_simp; rfl)) | apply quietO_skip rfl)
      refine hK _ ?_
      clear hK K
      simp only [Act.put, List.setIfInBounds_toArray, List.set_cons_zero, List.set_cons_succ]
      refine wpS_nil ?_
      go_wp2_with fail
      go_meet
      case rel => exact ⟨true, rfl, by simpa using H1.out, rfl⟩
  case rest =>
    obtain ⟨cc, rfl, hcc, hwc⟩ := hcut
    have hkw : Keeps nowhere w wc := by rw [hwc]; exact (Keeps.refl _ _).drew
    have hcellc : ∀ k, k < 64 → wc.cell? ⟨b, o + k, none⟩ = some (.int .u8 (x k : Int)) := fun k hk => (hkw.cell (p := ⟨b, o + k, none⟩) hlt (fun h => h)).trans (Hcell.out k hk)
    clear d14 d15 d12 d13 hor e12 hwc hw12 hw13 hw14 hx12 hx13
    cases cc
    · have hno : ¬ (x 14 ≠ 0 ∨ x 15 ≠ 0 ∨ 1000 < l) := fun h => absurd (hcc.2 h) (by simp)
      have hbad2 : (∃ j, j < 10 ∧ (x (16 + 4 * j + 2) ≠ 0 ∨ x (16 + 4 * j + 3) ≠ 0)) ∨ (∃ j, j < 8 ∧ x (56 + j) ≠ 0) ∨ 1073741824 < x 8 + x 9 * 256 + x 10 * 65536 + x 11 * 16777216 := by
        rcases Hbad'.out with h | h | h | h
        · exact absurd (.inl h) hno
        · exact absurd (.inr (.inl h)) hno
        · exact absurd (.inr (.inr h)) hno
        · exact h
      clear hcc hno
      have Hkw := Lib.hid hkw
      have Hcellc := Lib.hid hcellc
      have Hbad2 := Lib.hid hbad2
      clear hkw hcellc hbad2
      go_wp2_with fail
      go_loop [3] (fun iv => ∃ j kk : Nat, j ≤ 10 ∧ kk = 16 + 4 * j ∧ iv = .int .i64 kk ∧ ∀ j', j' < j → x (16 + 4 * j' + 2) = 0 ∧ x (16 + 4 * j' + 3) = 0) (fun iv => 56 - (intOf iv).toNat)
      case atStart => exact ⟨0, 16, Nat.zero_le _, rfl, rfl, fun j' h => by omega⟩
      case round =>
        obtain ⟨j, kk, hj, hkk, rfl, hz⟩ := hrel
        by_cases hlt' : j < 10
        · have hk56 : (kk : Int) < 56 := by omega
          obtain ⟨k2, hk2⟩ : ∃ k2, k2 = kk + 2 := ⟨_, rfl⟩
          obtain ⟨k3, hk3⟩ : ∃ k3, k3 = kk + 3 := ⟨_, rfl⟩
          have hw2 : IntKind.i64.wrap ((kk : Int) + 2) = (k2 : Int) := by rw [IntWalk.i64_in _ (by omega)]; omega
          have hw3 : IntKind.i64.wrap ((kk : Int) + 3) = (k3 : Int) := by rw [IntWalk.i64_in _ (by omega)]; omega
          have hw4 : IntKind.i64.wrap ((kk : Int) + 4) = (kk : Int) + 4 := IntWalk.i64_in _ (by omega)
          have d2 := Hcellc.out k2 (by omega)
          have d3 := Hcellc.out k3 (by omega)
          have hb2 : (0 : Int) ≤ k2 ∧ (k2 : Int) < 64 := by omega
          have hb3 : (0 : Int) ≤ k3 ∧ (k3 : Int) < 64 := by omega
          by_cases h2 : x k2 = 0
          · have q2 : ((x k2 : Int) != 0) = false := by simp [h2]
            by_cases h3 : x k3 = 0
            · have q3 : ((x k3 : Int) != 0) = false := by simp [h3]
              have hz' : ∀ j', j' < j + 1 → x (16 + 4 * j' + 2) = 0 ∧ x (16 + 4 * j' + 3) = 0 := fun j' h => by
                rcases Nat.lt_or_ge j' j with h' | h'
                · exact hz j' h'
                · obtain rfl : j' = j := by omega
                  rw [show 16 + 4 * j' + 2 = k2 from by omega, show 16 + 4 * j' + 3 = k3 from by omega]
                  exact ⟨h2, h3⟩
              have hkk' : kk + 4 = 16 + 4 * (j + 1) := by omega
              have hkle : kk + 4 ≤ 56 := by omega
              have Hz := Lib.hid hz
              have Hz' := Lib.hid hz'
              have H2 := Lib.hid h2
              have H3 := Lib.hid h3
              have Hkk := Lib.hid hkk
              have Hkk' := Lib.hid hkk'
              have Hk2 := Lib.hid hk2
              have Hk3 := Lib.hid hk3
              clear hz hz' h2 h3 hkk hkk' hk2 hk3
              go_wp2_with fail
              go_roundw
              case rel => exact ⟨j + 1, kk + 4, by omega, Hkk'.out, by go_num, Hz'.out⟩
              case measure => simp [intOf]; omega
            · have q3 : ((x k3 : Int) != 0) = true := by simp; omega
              have Hz := Lib.hid hz
              have H2 := Lib.hid h2
              have H3 := Lib.hid h3
              have Hkk := Lib.hid hkk
              have Hk2 := Lib.hid hk2
              have Hk3 := Lib.hid hk3
              clear hz h2 h3 hkk hk2 hk3
              go_wp2_with fail
              go_ret
              exact ⟨rfl, Hkw.out⟩
          · have q2 : ((x k2 : Int) != 0) = true := by simp; omega
            have Hz := Lib.hid hz
            have H2 := Lib.hid h2
            have Hkk := Lib.hid hkk
            have Hk2 := Lib.hid hk2
            have Hk3 := Lib.hid hk3
            clear hz h2 hkk hk2 hk3
            go_wp2_with fail
            go_ret
            exact ⟨rfl, Hkw.out⟩
        · have hk56 : ¬ (kk : Int) < 56 := by omega
          have hbad3 : (∃ j, j < 8 ∧ x (56 + j) ≠ 0) ∨ 1073741824 < x 8 + x 9 * 256 + x 10 * 65536 + x 11 * 16777216 := by
            rcases Hbad2.out with ⟨j', h1, h2⟩ | h
            · have := hz j' (by omega)
              omega
            · exact h
          clear hz
          have Hbad3 := Lib.hid hbad3
          have Hkk := Lib.hid hkk
          clear hbad3 hkk
          go_wp2_with fail
          go_loop [4] (fun iv => ∃ j : Nat, 56 ≤ j ∧ j ≤ 64 ∧ iv = .int .i64 j ∧ ∀ j', 56 ≤ j' → j' < j → x j' = 0) (fun iv => 64 - (intOf iv).toNat)
          case atStart => exact ⟨56, Nat.le_refl _, by omega, rfl, fun j' h h' => by omega⟩
          case round =>
            obtain ⟨m, hm56, hm64, rfl, hz⟩ := hrel
            by_cases hlm : m < 64
            · have hlm' : (m : Int) < 64 := by omega
              have dm := Hcellc.out m hlm
              have hbm : (0 : Int) ≤ m ∧ (m : Int) < 64 := by omega
              have hwm : IntKind.i64.wrap ((m : Int) + 1) = (m : Int) + 1 := IntWalk.i64_in _ (by omega)
              by_cases h2 : x m = 0
              · have q2 : ((x m : Int) != 0) = false := by simp [h2]
                have hz' : ∀ j', 56 ≤ j' → j' < m + 1 → x j' = 0 := fun j' h h' => by
                  rcases Nat.lt_or_ge j' m with h'' | h''
                  · exact hz j' h h''
                  · obtain rfl : j' = m := by omega
                    exact h2
                have Hz := Lib.hid hz
                have Hz' := Lib.hid hz'
                have H2 := Lib.hid h2
                clear hz hz' h2
                go_wp2_with fail
                go_roundw
                case rel => exact ⟨m + 1, by omega, by omega, by go_num, Hz'.out⟩
                case measure => simp [intOf]; omega
              · have q2 : ((x m : Int) != 0) = true := by simp; omega
                have Hz := Lib.hid hz
                have H2 := Lib.hid h2
                clear hz h2
                go_wp2_with fail
                go_ret
                exact ⟨rfl, Hkw.out⟩
            · have hlm' : ¬ (m : Int) < 64 := by omega
              have hbad4 : 1073741824 < x 8 + x 9 * 256 + x 10 * 65536 + x 11 * 16777216 := by
                rcases Hbad3.out with ⟨j', h1, h2⟩ | h
                · exact absurd (hz (56 + j') (by omega) (by omega)) h2
                · exact h
              have d8 := Hcellc.out 8 (by omega)
              have d9 := Hcellc.out 9 (by omega)
              have d10 := Hcellc.out 10 (by omega)
              have d11 := Hcellc.out 11 (by omega)
              have hor := or_size32 (x 8) (x 9) (x 10) (x 11) (Hx256.out 8) (Hx256.out 9) (Hx256.out 10) (Hx256.out 11)
              obtain ⟨S, hS⟩ : ∃ S, S = x 8 + x 9 * 256 + x 10 * 65536 + x 11 * 16777216 := ⟨_, rfl⟩
              rw [← hS] at hor hbad4
              have g8 := Hx256.out 8
              have g9 := Hx256.out 9
              have g10 := Hx256.out 10
              have g11 := Hx256.out 11
              have hSb : (S : Int) > 1073741824 := by omega
              clear hz
              have HS := Lib.hid hS
              clear hS
              go_wp2_with fail
              go_quiet (fail)
              go_wp2_with fail
              go_ret
              exact ⟨rfl, Hkw.out.drewN nq⟩
    · clear hcc
      have Hkw := Lib.hid hkw
      have Hcellc := Lib.hid hcellc
      clear hkw hcellc
      go_wp2_with fail
      go_ret
      exact ⟨rfl, Hkw.out⟩
end Go.Proofs.Ytblmbchjafffbaa
