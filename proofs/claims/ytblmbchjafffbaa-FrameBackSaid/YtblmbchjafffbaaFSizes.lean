/-
  frame: the statement FrameSizes, walked.
-/
import Derived.Test.YtblmbchjafffbaaF7
namespace Go.Proofs.Ytblmbchjafffbaa
open Go.RowKit

def Yes (w : World) : Ending → World → Prop := fun e w' => e = .returned (.bool true) ∧ Keeps nowhere w w'

theorem nb4 (n : Nat) : nb 4 n = [UInt8.ofNat n, UInt8.ofNat (n / 256), UInt8.ofNat (n / 65536), UInt8.ofNat (n / 16777216)] := by
  simp [nb, List.range_succ]

set_option maxHeartbeats 3200000 in
set_option maxRecDepth 20000 in
theorem sizes_walk (n m : Nat) (hn : n < 4294967296) (hm : m < 65536) (w : World) : Calls Try.prog 4 #[.int .u32 n, .int .u16 m] w (Yes w) := by
  go_enter Try.func4, Try.ntmps4
  go_wp2_with fail
  refine (known6 w).mono ?_
  rintro e w1 ⟨rfl, hk1⟩
  have Hk1 := Lib.hid hk1
  clear hk1
  go_wp2_with fail
  refine (f_new _).mono ?_
  rintro e w2 ⟨rfl, hs2, hk2⟩
  have Hs2 := Lib.hid hs2
  have Hk2 := Lib.hid hk2
  clear hs2 hk2
  obtain ⟨C, hC⟩ : ∃ C : Array Value, C = #[.int .u8 ((n : Int) % 256), .int .u8 ((n : Int) / 256 % 256), .int .u8 ((n : Int) / 65536 % 256), .int .u8 ((n : Int) / 16777216)] := ⟨_, rfl⟩
  have hCl : C.toList = (nb 4 n).map bv := by
    rw [hC, nb4]
    simp only [List.map_cons, List.map_nil, bv, UInt8.toNat_ofNat']
    have e3 : (n : Int) / 16777216 = ((n / 16777216 : Nat) : Int) := by omega
    have e4 : n / 16777216 % 2 ^ 8 = n / 16777216 := Nat.mod_eq_of_lt (by omega)
    simp only [e3, e4]
    congr 3 <;> (try congr 2) <;> omega
  have hr4 : Rd (w2.alloc (.cells C 5)) (.slice (some ⟨w2.heap.size, 0, none⟩) 4 4) (some w2.heap.size) ((nb 4 n).map bv) := by
    have h := Rd.full (heap_alloc_new w2 (.cells C 5)) (by rw [hC]; simp [maxLen])
    rw [hCl] at h
    rw [hC] at h
    rw [hC]
    exact h
  have hka := (Keeps.refl nowhere w2).alloc (.cells C 5)
  have hsa := Hs2.out.keep0 hka
  have hkwa := (Hk1.out.more Hk2.out).more hka
  have hr3 := hr4.take 3 (by simp [nb_len]) _ _ _ rfl
  rw [← List.map_take] at hr3
  have hlt := Hs2.out.lt.1
  rw [hC] at hr4 hka hsa hkwa hr3
  have hnb := nb_len 4 n
  have hsz : sizeN (nb 4 n) = n := by
    rw [sizeN, List.take_of_length_le (by omega), le_nb]
    exact Nat.mod_eq_of_lt (by omega)
  have hf1 : feedS m [] false ((nb 4 n).take 3) = ([], (nb 4 n).take 3, false) := feed_wait (.inl (by rw [List.nil_append, List.length_take]; omega))
  have hjoin : (nb 4 n).take 3 ++ (nb 4 n).drop 3 = nb 4 n := List.take_append_drop 3 _
  have HC := Lib.hid hC
  have HCl := Lib.hid hCl
  have Hr4 := Lib.hid hr4
  have Hka := Lib.hid hka
  have Hsa := Lib.hid hsa
  have Hkwa := Lib.hid hkwa
  have Hr3 := Lib.hid hr3
  have Hlt := Lib.hid hlt
  have Hnb := Lib.hid hnb
  have Hsz := Lib.hid hsz
  have Hf1 := Lib.hid hf1
  have Hjoin := Lib.hid hjoin
  clear hC hCl hr4 hka hsa hkwa hr3 hlt hnb hsz hf1 hjoin
  go_wp2_with fail
  refine (feed_any _ _ _ [] _ false m _ _ Hsa.out Hr3.out (by omega) (by have := Hnb.out; simp; omega)).mono ?_
  rw [Hf1.out]
  rintro e w3 ⟨vx, gx, rfl, hhx, hs3, hf3, hk3⟩
  obtain ⟨Ax, cx, rfl, -⟩ := hhx.form
  rw [show ([] : List (List UInt8)).length = 0 from rfl] at *
  have hp2 := Hlt.out
  have hr43 := Hr4.out.keep hk3 (fun b hb e => by injection hb with hb; subst hb; unfold only at e; omega)
  have hkw3 : Keeps nowhere w w3 := Hkwa.out.fresh hk3 (by have := Hk1.out.size; omega)
  have hr1 := hr43.drop 3 (by simp [nb_len]) _ _ _ rfl
  rw [← List.map_drop, if_neg (by omega)] at hr1
  have hd3 := f_dead _ _ _ _ _ hs3
  have Hhx := Lib.hid hhx
  have Hs3 := Lib.hid hs3
  have Hf3 := Lib.hid hf3
  have Hk3 := Lib.hid hk3
  have Hr43 := Lib.hid hr43
  have Hkw3 := Lib.hid hkw3
  have Hd3 := Lib.hid hd3
  have Hp2 := Lib.hid hp2
  clear hhx hs3 hf3 hk3 hr43 hkw3 hd3 hp2
  go_wp2_with fail
  refine Hd3.out.mono ?_
  rintro e w4 ⟨rfl, rfl⟩
  have hr1' : Rd w3 (.slice (some ⟨w2.heap.size, 3, none⟩) 1 1) (some w2.heap.size) (((nb 4 n).drop 3).map bv) := by
    simpa [Addr.add_lit] using hr1
  clear hr1
  have Hr1' := Lib.hid hr1'
  clear hr1'
  go_wp2_with fail
  refine (feed_any _ _ _ _ _ false m _ _ Hs3.out Hr1'.out (by omega) (by have := Hnb.out; simp; omega)).mono ?_
  have hfj : feedS m ((nb 4 n).take 3) false ((nb 4 n).drop 3) = feed m (nb 4 n) := by show feed m _ = _; rw [Hjoin.out]
  rw [hfj]
  clear hfj
  rintro e w4 ⟨vy, gy, rfl, hhy, hs4, hf4, hk4⟩
  have hkw4 : Keeps nowhere w w4 := Hkw3.out.fresh hk4 (by have := Hk1.out.size; omega)
  by_cases hbad : n < 7 ∨ m < n
  · rw [feed_dead ⟨by rw [Hnb.out]; omega, by rw [Hsz.out]; exact hbad⟩] at hhy hs4
    obtain ⟨Ay, cy, rfl, -⟩ := hhy.form
    rw [show ([] : List (List UInt8)).length = 0 from rfl] at *
    have hd4 := f_dead _ _ _ _ _ hs4
    have hl4 := f_held _ _ _ _ _ hs4
    have Hhy := Lib.hid hhy
    have Hs4 := Lib.hid hs4
    have Hf4 := Lib.hid hf4
    have Hk4 := Lib.hid hk4
    have Hkw4 := Lib.hid hkw4
    have Hd4 := Lib.hid hd4
    have Hl4 := Lib.hid hl4
    clear hhy hs4 hf4 hk4 hkw4 hd4 hl4
    by_cases h7 : n < 7
    · have h7' : ¬ (n : Int) ≥ 7 := by omega
      go_wp2_with fail
      refine Hd4.out.mono ?_
      rintro e w5 ⟨rfl, rfl⟩
      go_wp2_with fail
      refine Hl4.out.mono ?_
      rintro e w5 ⟨rfl, rfl⟩
      rw [show ([] : List UInt8).length = 0 from rfl]
      go_wp2_with fail
      go_ret
      exact ⟨rfl, Hkw4.out⟩
    · have h7' : (n : Int) ≥ 7 := by omega
      have h8' : ¬ (n : Int) ≤ m := by omega
      go_wp2_with fail
      refine Hd4.out.mono ?_
      rintro e w5 ⟨rfl, rfl⟩
      go_wp2_with fail
      refine Hl4.out.mono ?_
      rintro e w5 ⟨rfl, rfl⟩
      rw [show ([] : List UInt8).length = 0 from rfl]
      go_wp2_with fail
      go_ret
      exact ⟨rfl, Hkw4.out⟩
  · rw [feed_wait (.inr (by rw [Hnb.out, Hsz.out]; omega))] at hhy hs4
    obtain ⟨Ay, cy, rfl, -⟩ := hhy.form
    rw [show ([] : List (List UInt8)).length = 0 from rfl] at *
    have hd4 := f_dead _ _ _ _ _ hs4
    have hl4 := f_held _ _ _ _ _ hs4
    rw [Hnb.out] at hl4
    have h7' : (n : Int) ≥ 7 := by omega
    have h8' : (n : Int) ≤ m := by omega
    have Hhy := Lib.hid hhy
    have Hs4 := Lib.hid hs4
    have Hf4 := Lib.hid hf4
    have Hk4 := Lib.hid hk4
    have Hkw4 := Lib.hid hkw4
    have Hd4 := Lib.hid hd4
    have Hl4 := Lib.hid hl4
    clear hhy hs4 hf4 hk4 hkw4 hd4 hl4
    go_wp2_with fail
    refine Hd4.out.mono ?_
    rintro e w5 ⟨rfl, rfl⟩
    go_wp2_with fail
    refine Hl4.out.mono ?_
    rintro e w5 ⟨rfl, rfl⟩
    go_wp2_with fail
    go_ret
    exact ⟨rfl, Hkw4.out⟩
end Go.Proofs.Ytblmbchjafffbaa
