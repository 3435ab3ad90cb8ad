/-
  frame: law 6's known.
-/
import Derived.Test.YtblmbchjafffbaaF5
import Derived.Lib.SlBytesConst
namespace Go.Proofs.Ytblmbchjafffbaa
open Go.RowKit

def a7 : List UInt8 := [7, 0, 0, 0, 97, 98, 99]
theorem k_frm : wrapB [97, 98, 99] = a7 ∧ wrapE [97, 98, 99] = 0 := ⟨by decide, by decide⟩
theorem k_feed1 : feedS 100 [] false (a7 ++ a7.take 5) = ([[97, 98, 99]], [7, 0, 0, 0, 97], false) := by
  have h : feed 100 (a7 ++ a7.take 5) = ([[97, 98, 99]], [7, 0, 0, 0, 97], false) := by
    rw [feed_cut (by decide)]
    rw [show List.drop (sizeN (a7 ++ a7.take 5)) (a7 ++ a7.take 5) = [7, 0, 0, 0, 97] from by decide, feed_wait (.inr (by decide))]
    decide
  exact h
theorem k_feed2 : feedS 100 [7, 0, 0, 0, 97] false [98, 99] = ([[97, 98, 99]], [], false) := by
  have h : feed 100 a7 = ([[97, 98, 99]], [], false) := by
    rw [feed_cut (by decide), show List.drop (sizeN a7) a7 = [] from by decide, feed_wait (.inl (by decide))]
    decide
  exact h
theorem k_feed3 : feedS 100 [] false [6, 0, 0, 0] = ([], [], true) := by
  have h : feed 100 [6, 0, 0, 0] = ([], [], true) := feed_dead (by decide)
  exact h

set_option maxHeartbeats 3200000 in
set_option maxRecDepth 20000 in
theorem known6 (w : World) : Calls Try.prog 14 #[] w fun e w' => e = .returned (.bool true) ∧ Keeps nowhere w w' := by
  have hlit : Rd (w.alloc (.cells #[.int .u8 97, .int .u8 98, .int .u8 99] 5 (3, 4))) (.slice (some ⟨w.heap.size, 0, none⟩) 3 3) (some w.heap.size) (([97, 98, 99] : List UInt8).map bv) :=
    Rd.full (heap_alloc_new w (.cells #[.int .u8 97, .int .u8 98, .int .u8 99] 5 (3, 4))) (by simp [maxLen])
  have kc := fun (w : World) (C : Array Value) (n c : Nat) => Lib.run_convert_bytes_const (P := Try.prog) w 24 5 C n c Try.underlying24 Try.underlying5
  have Hlit := Lib.hid hlit
  clear hlit
  go_enter Try.func14, Try.ntmps14
  go_wp2_with fail
  refine (f_wrap _ _ [97, 98, 99] _ Hlit.out).mono ?_
  rintro e w1 ⟨va, ga, rfl, hra, haba, hk1⟩
  rw [k_frm.1] at hra
  rw [k_frm.2]
  obtain ⟨ba, oa, ca, rfl, rfl, hlta, hlca, hmca, hcella⟩ := hra.plain (by decide)
  rw [show (a7.map bv).length = 7 from rfl] at *
  have hkw1 : Keeps nowhere w w1 := ((Keeps.refl nowhere w).alloc _).more hk1
  have Hra := Lib.hid hra
  have Haba := Lib.hid haba
  have Hk1 := Lib.hid hk1
  have Hkw1 := Lib.hid hkw1
  have Hcella := Lib.hid hcella
  clear hra haba hk1 hkw1 hcella
  go_wp2_with fail
  refine (f_new _).mono ?_
  rintro e w2 ⟨rfl, hs2, hk2⟩
  have hra2 := Hra.out.keep hk2 (fun _ _ h => h)
  have Hs2 := Lib.hid hs2
  have Hk2 := Lib.hid hk2
  have Hra2 := Lib.hid hra2
  clear hs2 hk2 hra2
  go_wp2_with fail
  clear kc
  have h5 : (5 : Int) ≤ ca := by omega
  refine wp_region_script [0, 2, 4, 5] [] [.ps [0, 2, 4, 5], .es [1, 3, 6, 7, 8] false] (fun w' => True) rfl (by kernel_rfl) ?_
  refine wpS_ps rfl fun K hK => ?_
  simp only [List.map_cons, List.map_nil, Option.getD_some, List.getElem?_toArray, List.getElem?_cons_zero, List.getElem?_cons_succ]
  iterate 4 (first | (apply quietO_cons _ rfl; (intro w' _; go_simp; rfl)) | apply quietO_skip rfl)
  refine hK _ ?_
  clear hK K
  simp only [Act.put, List.setIfInBounds_toArray, List.set_cons_zero, List.set_cons_succ]
  refine wpS_es rfl fun K hK => ?_
  have HK := Lib.hid hK
  clear hK
  simp only [List.map_cons, List.map_nil, Option.getD_some, List.getElem?_toArray, List.getElem?_cons_zero, List.getElem?_cons_succ]
  obtain ⟨wd, hwd⟩ : ∃ wd, wd = w2.drew := ⟨_, rfl⟩
  rw [← hwd]
  have hkd : Keeps nowhere w2 wd := by rw [hwd]; exact (Keeps.refl _ _).drew
  have hra3 := Hra2.out.keep hkd (fun _ _ h => h)
  have hs3 := Hs2.out.keep0 hkd
  have hka3 := (Keeps.refl nowhere wd).alloc (.cells #[] 5)
  have hra4 := hra3.keep hka3 (fun _ _ h => h)
  have hkwd : Keeps nowhere w wd := (Hkw1.out.more Hk2.out).more hkd
  have Hwd := Lib.hid hwd
  have Hkd := Lib.hid hkd
  have Hra3 := Lib.hid hra3
  have Hs3 := Lib.hid hs3
  have Hka3 := Lib.hid hka3
  have Hra4 := Lib.hid hra4
  have Hkwd := Lib.hid hkwd
  clear hwd hkd hra3 hs3 hka3 hra4 hkwd
  go_wp2_with (at_builtin; go_must (refine wpList_append_bytes rfl (.tmp 27) (.tmp 28) rfl _ _ rfl (OwnB.empty wd) _ _ a7 rfl Hra4.out (by decide) ?_))
  intro v4 w4 hown4 hk4 hf4
  replace hown4 : OwnB w4 v4 a7 := hown4
  have hkd4 : Keeps nowhere wd w4 := Hka3.out.trans hk4 fun b hb e => by simp [Value.ownBlock] at e; omega
  have hab4 : Above wd.heap.size v4.ownBlock := fun b hb => (hf4 b hb).elim (fun e => by simp [Value.ownBlock] at e; omega) (fun h => by have := Hka3.out.size; omega)
  have hra5 := (Hra3.out.keep hkd4 (fun _ _ h => h)).take 5 (by decide) _ _ _ rfl
  rw [← List.map_take] at hra5
  have hs4 := Hs3.out.keep0 hkd4
  have Hown4 := Lib.hid hown4
  have Hkd4 := Lib.hid hkd4
  have Hab4 := Lib.hid hab4
  have Hra5 := Lib.hid hra5
  have Hs4 := Lib.hid hs4
  clear hown4 hkd4 hab4 hra5 hs4
  go_wp2_with (at_builtin; go_must (refine wpList_append_bytes rfl (.tmp 29) (.tmp 31) rfl v4 _ rfl Hown4.out _ _ (a7.take 5) rfl Hra5.out (by decide) ?_))
  intro v5 w5 hown5 hk5 hf5
  have hkd5 : Keeps nowhere wd w5 := Hkd4.out.trans hk5 fun b hb e => absurd (Hab4.out b e) (by omega)
  have hab5 : Above wd.heap.size v5.ownBlock := Hab4.out.of_from hf5 Hkd4.out.size
  have hs5 := Hs3.out.keep0 hkd5
  have Hown5 := Lib.hid hown5
  have Hkd5 := Lib.hid hkd5
  have Hab5 := Lib.hid hab5
  have Hs5 := Lib.hid hs5
  clear hown5 hkd5 hab5 hs5
  go_wp2_with fail
  refine (feed_any _ _ _ [] _ false 100 v5 _ Hs5.out Hown5.out.rd (by omega) (by decide)).mono ?_
  rw [k_feed1]
  rintro e w6 ⟨vx, gx, rfl, hhx, hs6, hf6, hk6⟩
  have hp6 : wd.heap.size > w1.heap.size := by have := Hs3.out.lt.1; exact this
  have hkw6 : Keeps nowhere w w6 := (Hkwd.out.more Hkd5.out).fresh hk6 (by have := Hkw1.out.size; omega)
  have hra6 := (Hra3.out.keep Hkd5.out (fun _ _ h => h)).keep hk6 (fun b hb e => by injection hb with hb; subst hb; unfold only at e; omega)
  obtain ⟨Ax, cx, rfl, -⟩ := hhx.form
  rw [show ([[97, 98, 99]] : List (List UInt8)).length = 1 from rfl] at *
  have hN5 : w1.heap.size < w5.heap.size := Hs5.out.lt.1
  have Hhx := Lib.hid hhx
  have Hs6 := Lib.hid hs6
  have Hf6 := Lib.hid hf6
  have Hk6 := Lib.hid hk6
  have Hkw6 := Lib.hid hkw6
  have Hra6 := Lib.hid hra6
  have Hp6 := Lib.hid hp6
  clear hhx hs6 hf6 hk6 hkw6 hra6 hp6
  go_wp2_with fail
  refine HK.out _ _ (fun h => by cases h) ?_
  clear HK K
  refine wpS_nil ?_
  go_wp2_with fail
  refine (f_held _ _ _ _ _ Hs6.out).mono ?_
  rintro e w7 ⟨rfl, rfl⟩
  rw [show ([7, 0, 0, 0, 97] : List UInt8).length = 5 from rfl]
  have hrad : Rd w6 (.slice (some ⟨ba, oa + 5, none⟩) 2 (ca - 5)) (some ba) (([98, 99] : List UInt8).map bv) := by
    have h1 := Hra6.out.drop 5 (by decide) _ _ _ rfl
    rw [if_neg (by omega)] at h1
    rw [← List.map_drop, show a7.drop 5 = [98, 99] from rfl] at h1
    simpa only [Option.map_some, Addr.add_lit, Nat.mul_one, show 7 - 5 = 2 from rfl] using h1
  have Hrad := Lib.hid hrad
  clear hrad
  go_wp2_with fail
  refine (feed_any _ _ _ [7, 0, 0, 0, 97] [98, 99] false 100 _ _ Hs6.out Hrad.out (by omega) (by decide)).mono ?_
  rw [k_feed2]
  rintro e w7 ⟨vy, gy, rfl, hhy, hs7, hf7, hk7⟩
  have hhx7 := Hhx.out.keep hk7 (fun b hb e => by unfold only at e; omega)
  have hkw7 : Keeps nowhere w w7 := Hkw6.out.fresh hk7 (by have := Hkw1.out.size; omega)
  obtain ⟨Ay, cy, rfl, -⟩ := hhy.form
  rw [show ([[97, 98, 99]] : List (List UInt8)).length = 1 from rfl] at *
  have hr6 : Rd (w7.alloc (.cells #[.int .u8 6, .int .u8 0, .int .u8 0, .int .u8 0] 5)) (.slice (some ⟨w7.heap.size, 0, none⟩) 4 4) (some w7.heap.size) (([6, 0, 0, 0] : List UInt8).map bv) :=
    Rd.full (heap_alloc_new w7 (.cells #[.int .u8 6, .int .u8 0, .int .u8 0, .int .u8 0] 5)) (by simp [maxLen])
  have hka7 := (Keeps.refl nowhere w7).alloc (.cells #[.int .u8 6, .int .u8 0, .int .u8 0, .int .u8 0] 5)
  have hs7a := hs7.keep0 hka7
  have hhx7a := hhx7.keep hka7 (fun _ _ h => h)
  have hkw7a := hkw7.more hka7
  have Hhy := Lib.hid hhy
  have Hs7 := Lib.hid hs7
  have Hf7 := Lib.hid hf7
  have Hk7 := Lib.hid hk7
  have Hhx7 := Lib.hid hhx7
  have Hkw7 := Lib.hid hkw7
  have Hr6 := Lib.hid hr6
  have Hka7 := Lib.hid hka7
  have Hs7a := Lib.hid hs7a
  have Hhx7a := Lib.hid hhx7a
  have Hkw7a := Lib.hid hkw7a
  clear hhy hs7 hf7 hk7 hhx7 hkw7 hr6 hka7 hs7a hhx7a hkw7a
  go_wp2_with fail
  refine (feed_any _ _ _ [] [6, 0, 0, 0] false 100 _ _ Hs7a.out Hr6.out (by omega) (by decide)).mono ?_
  rw [k_feed3]
  rintro e w8 ⟨vz, gz, rfl, hhz, hs8, hf8, hk8⟩
  have hhx8 := Hhx7a.out.keep hk8 (fun b hb e => by unfold only at e; omega)
  have hkw8 : Keeps nowhere w w8 := Hkw7a.out.fresh hk8 (by have := Hkw1.out.size; omega)
  obtain ⟨Az, cz, rfl, -⟩ := hhz.form
  rw [show ([] : List (List UInt8)).length = 0 from rfl] at *
  obtain ⟨vs, hvs, hps⟩ := hhx8.rd
  have hvl : vs.length = 1 := hps.1
  obtain ⟨bx, ox, cx', he, -, hltx, -, -, hcx⟩ := hvs.plain (by omega)
  rw [hvl] at he
  injection he with e1 e2 e3
  subst e1 e3
  obtain ⟨v0, L0, g0, hv0, hL0, hr0, -⟩ := hps.at_ (i := 0) (by omega)
  simp at hL0
  subst hL0
  have hc0 := hcx 0 v0 hv0
  rw [Nat.add_zero] at hc0
  have hcv0 := conv_str _ _ _ _ hr0
  have hq := strOf_eq (rfl : ([97, 98, 99] : List UInt8) = [97, 98, 99])
  have hd8 := f_dead _ _ _ _ _ hs8
  have hl8 := f_held _ _ _ _ _ hs8
  have h01 : (0 : Int) < 1 := by omega
  have Hhz := Lib.hid hhz
  have Hs8 := Lib.hid hs8
  have Hf8 := Lib.hid hf8
  have Hk8 := Lib.hid hk8
  have Hhx8 := Lib.hid hhx8
  have Hkw8 := Lib.hid hkw8
  have Hvs := Lib.hid hvs
  have Hps := Lib.hid hps
  have Hvl := Lib.hid hvl
  have Hcx := Lib.hid hcx
  have Hr0 := Lib.hid hr0
  have Hd8 := Lib.hid hd8
  have Hl8 := Lib.hid hl8
  have Hv0 := Lib.hid hv0
  clear hhz hs8 hf8 hk8 hhx8 hkw8 hvs hps hvl hcx hr0 hd8 hl8 hv0
  go_wp2_with fail
  refine Hd8.out.mono ?_
  rintro e w9 ⟨rfl, rfl⟩
  go_wp2_with fail
  refine Hl8.out.mono ?_
  rintro e w9 ⟨rfl, rfl⟩
  rw [show ([] : List UInt8).length = 0 from rfl]
  go_wp2_with fail
  go_ret
  exact ⟨rfl, Hkw8.out⟩
end Go.Proofs.Ytblmbchjafffbaa
