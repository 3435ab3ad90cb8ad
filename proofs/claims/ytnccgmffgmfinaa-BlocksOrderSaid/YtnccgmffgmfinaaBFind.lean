/-
  blocks.Find: a byte's road.
-/
import Derived.Test.YtnccgmffgmfinaaBInt
namespace Go.Proofs.Ytnccgmffgmfinaa
open Go.RowKit

structure Road where
  k : Int
  a : Int
  b : Int
  at_ : Int
def Road.v (r : Road) : Value := .agg #[.int .i64 r.k, .int .i64 r.a, .int .i64 r.b, .int .i64 r.at_]
def Road.cs (r : Road) : Array Value := #[.int .i64 r.k, .int .i64 r.a, .int .i64 r.b, .int .i64 r.at_]

def road (off b : Nat) : Road :=
  if off / b < 8 then ⟨1, (off / b : Nat), 0, (off % b : Nat)⟩
  else if off / b < 8 + b / 4 then ⟨2, (off / b - 8 : Nat), 0, (off % b : Nat)⟩
  else ⟨3, ((off / b - 8 - b / 4) / (b / 4) : Nat), ((off / b - 8 - b / 4) % (b / 4) : Nat), (off % b : Nat)⟩

def findE (off : Nat) (b : Int) : Int := if goodB b then (if mostB b ≤ off then 3 else 0) else 1
def findR (off : Nat) (b : Int) : Road := if findE off b = 0 then road off b.toNat else ⟨0, 0, 0, 0⟩

def RetFind (off : Nat) (b : Int) (w : World) : Ending → World → Prop := fun e w' =>
  e = .returned (.tuple #[(findR off b).v, .int .i64 (findE off b)]) ∧ Keeps nowhere w w'

theorem road_set {w w1 : World} {g : Nat} {v0 v1 v2 v3 : Value} (hb : Blk w1 g 25 #[v0, v1, v2, v3]) (hk : Keeps nowhere w w1) (hg : w.heap.size ≤ g) (k a b at_ : Int) :
    ∃ w', w' = (((w1.setCell ⟨g, 0, none⟩ (.int .i64 k)).setCell ⟨g, 1, none⟩ (.int .i64 a)).setCell ⟨g, 2, none⟩ (.int .i64 b)).setCell ⟨g, 3, none⟩ (.int .i64 at_) ∧
      Blk w' g 25 #[.int .i64 k, .int .i64 a, .int .i64 b, .int .i64 at_] ∧ Keeps nowhere w w' := by
  refine ⟨_, rfl, ?_, ?_⟩
  · have := (((hb.set_ 0 (.int .i64 k)).set_ 1 (.int .i64 a)).set_ 2 (.int .i64 b)).set_ 3 (.int .i64 at_)
    simpa using this
  · exact (((hk.setCell (p := ⟨g, 0, none⟩) (fun h => absurd h (by simpa using hg)) _).setCell (p := ⟨g, 1, none⟩) (fun h => absurd h (by simpa using hg)) _).setCell (p := ⟨g, 2, none⟩) (fun h => absurd h (by simpa using hg)) _).setCell (p := ⟨g, 3, none⟩) (fun h => absurd h (by simpa using hg)) _

theorem find_bad (off : Nat) (b : Int) (w : World) (hg : goodB b = false) : Calls Try.prog 14 #[.int .u64 off, .int .i64 b] w (RetFind off b w) := by
  have hE : findE off b = 1 := by rw [findE, if_neg (by rw [hg]; simp)]
  have hk := (Keeps.refl nowhere w).alloc (.cells #[.int .i64 0, .int .i64 0, .int .i64 0, .int .i64 0] 25)
  have hb := Blk.new w 25 #[.int .i64 0, .int .i64 0, .int .i64 0, .int .i64 0]
  have HE := Lib.hid hE
  have Hk := Lib.hid hk
  have Hb := Lib.hid hb
  clear hE hk hb
  go_enter Try.func14, Try.ntmps14
  go_wp2_with fail
  refine (right_any _ _).mono ?_
  rintro e w1 ⟨rfl, hk1⟩
  rw [hg]
  have hb1 := Hb.out.keep hk1 (fun h => h)
  have c0 := hb1.cell 0
  have c1 := hb1.cell 1
  have c2 := hb1.cell 2
  have c3 := hb1.cell 3
  simp at c0 c1 c2 c3
  have f0 := hb1.frozen 0
  have f1 := hb1.frozen 1
  have f2 := hb1.frozen 2
  have f3 := hb1.frozen 3
  have Hk1 := Lib.hid hk1
  have Hb1 := Lib.hid hb1
  clear hk1 hb1
  go_wp2_with fail
  obtain ⟨wz, hz, hb9, hk9⟩ := road_set Hb1.out (Hk.out.more Hk1.out) (Nat.le_refl _) 0 0 0 0
  rw [← hz]
  have c0 := hb9.cell 0
  have c1 := hb9.cell 1
  have c2 := hb9.cell 2
  have c3 := hb9.cell 3
  simp at c0 c1 c2 c3
  clear hz
  refine bodyPost_ret (v := .tuple #[.agg #[.int .i64 0, .int .i64 0, .int .i64 0, .int .i64 0], .int .i64 1]) (by simp [results, Try.results14, go_sem, c0, c1, c2, c3]) rfl ?_
  exact ⟨by rw [findR, HE.out, if_neg (by simp)]; rfl, hk9⟩

theorem findE_ok {off : Nat} {b : Int} (hg : goodB b = true) (ho : off < mostB b) : findE off b = 0 := by
  rw [findE, if_pos hg, if_neg (by omega)]
theorem findE_far {off : Nat} {b : Int} (hg : goodB b = true) (ho : mostB b ≤ off) : findE off b = 3 := by
  rw [findE, if_pos hg, if_pos ho]

theorem find_far (off : Nat) (b : Int) (w : World) (hg : goodB b = true) (ho : mostB b ≤ off) (hu : off < 18446744073709551616) : Calls Try.prog 14 #[.int .u64 off, .int .i64 b] w (RetFind off b w) := by
  have hE := findE_far hg ho
  have hk := (Keeps.refl nowhere w).alloc (.cells #[.int .i64 0, .int .i64 0, .int .i64 0, .int .i64 0] 25)
  have hb := Blk.new w 25 #[.int .i64 0, .int .i64 0, .int .i64 0, .int .i64 0]
  obtain ⟨M, hM⟩ : ∃ M, M = mostB b := ⟨_, rfl⟩
  rw [← hM] at ho
  have h1 : decide ((off : Int) ≥ M) = true := by simp; omega
  have h2 : (M : Int) ≤ off := by omega
  have HE := Lib.hid hE
  have Hk := Lib.hid hk
  have Hb := Lib.hid hb
  clear hE hk hb
  go_enter Try.func14, Try.ntmps14
  go_wp2_with fail
  refine (right_any _ _).mono ?_
  rintro e w1 ⟨rfl, hk1⟩
  rw [hg]
  go_wp2_with fail
  refine (most_any _ _).mono ?_
  rintro e w2 ⟨rfl, hk2⟩
  rw [← hM]
  clear hM
  have hk3 := hk1.more hk2
  have hb1 := Hb.out.keep hk3 (fun h => h)
  have c0 := hb1.cell 0
  have c1 := hb1.cell 1
  have c2 := hb1.cell 2
  have c3 := hb1.cell 3
  simp at c0 c1 c2 c3
  have f0 := hb1.frozen 0
  have f1 := hb1.frozen 1
  have f2 := hb1.frozen 2
  have f3 := hb1.frozen 3
  clear hk1 hk2
  have Hk3 := Lib.hid hk3
  have Hb1 := Lib.hid hb1
  clear hk3 hb1
  go_wp2_with fail
  obtain ⟨wz, hz, hb9, hk9⟩ := road_set Hb1.out (Hk.out.more Hk3.out) (Nat.le_refl _) 0 0 0 0
  rw [← hz]
  have c0 := hb9.cell 0
  have c1 := hb9.cell 1
  have c2 := hb9.cell 2
  have c3 := hb9.cell 3
  simp at c0 c1 c2 c3
  clear hz
  refine bodyPost_ret (v := .tuple #[.agg #[.int .i64 0, .int .i64 0, .int .i64 0, .int .i64 0], .int .i64 3]) (by simp [results, Try.results14, go_sem, c0, c1, c2, c3]) rfl ?_
  exact ⟨by rw [findR, HE.out, if_neg (by simp)]; rfl, hk9⟩

-- FIVE (gen_bfind.py)

theorem road_one_64 (off n m : Nat) (hn : n = off / 64) (hm : m = off % 64) (h : n < 8) : road off 64 = ⟨1, n, 0, m⟩ := by
  subst hn hm; rw [road, if_pos h]
theorem road_two_64 (off n m : Nat) (hn : n = off / 64) (hm : m = off % 64) (h8 : ¬ n < 8) (h : n < 24) : road off 64 = ⟨2, (n : Int) - 8, 0, m⟩ := by
  have e1 : ((off / 64 - 8 : Nat) : Int) = (off / 64 : Nat) - 8 := by omega
  subst hn hm; rw [road, if_neg h8, if_pos (by omega), e1]
theorem road_three_64 (off n m : Nat) (hn : n = off / 64) (hm : m = off % 64) (h8 : ¬ n < 8) (h : ¬ n < 24) : road off 64 = ⟨3, ((n - 24) / 16 : Nat), ((n - 24) % 16 : Nat), m⟩ := by
  have e1 : off / 64 - 8 - 64 / 4 = off / 64 - 24 := by omega
  have e2 : 64 / 4 = 16 := rfl
  subst hn hm; rw [road, if_neg h8, if_neg (by omega), e1, e2]

set_option maxHeartbeats 1000000 in
theorem find_ok_64 (off : Nat) (w : World) (ho : off < 17920) : Calls Try.prog 14 #[.int .u64 off, .int .i64 64] w (RetFind off 64 w) := by
  have hk := (Keeps.refl nowhere w).alloc (.cells #[.int .i64 0, .int .i64 0, .int .i64 0, .int .i64 0] 25)
  have hb := Blk.new w 25 #[.int .i64 0, .int .i64 0, .int .i64 0, .int .i64 0]
  have hg : goodB 64 = true := by decide
  have hmo : mostB 64 = 17920 := by decide
  have hE : Hid (findE off 64 = 0) := findE_ok hg (by rw [hmo]; exact ho)
  have Hk := Lib.hid hk
  have Hb := Lib.hid hb
  clear hk hb
  have h1 : decide ((off : Int) ≥ 17920) = false := by simp; omega
  have e1 : IntKind.i64.wrap (off : Int) = off := IntWalk.i64_in _ (by omega)
  obtain ⟨n, hn⟩ : ∃ n, n = off / 64 := ⟨_, rfl⟩
  obtain ⟨m, hm⟩ : ∃ m, m = off % 64 := ⟨_, rfl⟩
  have e2 : IntKind.i64.wrap ((off : Int) / 64) = (n : Int) := by
    rw [show (off : Int) / 64 = (n : Int) by omega]; exact IntWalk.i64_in _ (by omega)
  have e3 : (off : Int) % 64 = (m : Int) := by omega
  have e4 : IntKind.i64.wrap 16 = 16 := by decide
  have hn' : n < 280 := by omega
  have hm' : m < 64 := by omega
  have e5 : (off : Int).tmod 64 = (m : Int) := by rw [Int.tmod_eq_emod_of_nonneg (by omega)]; exact e3
  have e6 : IntKind.i64.wrap ((off : Int).tdiv 64) = (n : Int) := by rw [Int.tdiv_eq_ediv_of_nonneg (by omega)]; exact e2
  have Hn := Lib.hid hn
  have Hm := Lib.hid hm
  clear hn hm
  go_enter Try.func14, Try.ntmps14
  go_wp2_with fail
  refine (right_any _ _).mono ?_
  rintro e w1 ⟨rfl, hk1⟩
  rw [hg]
  go_wp2_with fail
  refine (most_any _ _).mono ?_
  rintro e w2 ⟨rfl, hk2⟩
  rw [hmo]
  have hk3 := hk1.more hk2
  have hb1 := Hb.out.keep hk3 (fun h => h)
  have c0 := hb1.cell 0
  have c1 := hb1.cell 1
  have c2 := hb1.cell 2
  have c3 := hb1.cell 3
  simp at c0 c1 c2 c3
  have f0 := hb1.frozen 0
  have f1 := hb1.frozen 1
  have f2 := hb1.frozen 2
  have f3 := hb1.frozen 3
  clear hk1 hk2
  have Hk3 := Lib.hid hk3
  have Hb1 := Lib.hid hb1
  clear hk3 hb1
  go_wp2_with fail
  refine wp_region_script [0, 1, 2, 3, 4, 5, 6, 7, 8, 9] [] [.ps [0, 1, 2, 3, 4, 5, 6, 7, 8, 9], .es [10, 11, 12] false] (fun w' => True) rfl (by kernel_rfl) ?_
  refine wpS_ps rfl fun K hK => ?_
  simp only [List.map_cons, List.map_nil, Option.getD_some, List.getElem?_toArray, List.getElem?_cons_zero, List.getElem?_cons_succ]
  iterate 10 (first | (apply quietO_cons _ rfl; (intro w' _; go_simp; rfl)) | apply quietO_skip rfl)
  refine hK _ ?_
  clear hK K
  simp only [Act.put, List.setIfInBounds_toArray, List.set_cons_zero, List.set_cons_succ]
  refine wpS_es rfl fun K hK => ?_
  have HK := Lib.hid hK
  clear hK
  simp only [List.map_cons, List.map_nil, Option.getD_some, List.getElem?_toArray, List.getElem?_cons_zero, List.getElem?_cons_succ]
  go_wp2_with fail
  refine HK.out _ _ (fun h => by cases h) ?_
  clear HK K
  refine wpS_nil ?_
  clear e2 e3 e5 e6 e1
  by_cases h8 : n < 8
  · have h8' : (n : Int) < 8 := by omega
    go_wp2_with fail
    obtain ⟨wz, hz, hb9, hk9⟩ := road_set Hb1.out (Hk.out.more Hk3.out) (Nat.le_refl _) 1 n 0 m
    rw [← hz]
    have c0 := hb9.cell 0
    have c1 := hb9.cell 1
    have c2 := hb9.cell 2
    have c3 := hb9.cell 3
    simp at c0 c1 c2 c3
    clear hz
    exact bodyPost_ret (v := .tuple #[.agg #[.int .i64 1, .int .i64 (n : Int), .int .i64 0, .int .i64 (m : Int)], .int .i64 0]) (by simp [results, Try.results14, go_sem, c0, c1, c2, c3]) rfl ⟨by rw [findR, hE.out, if_pos rfl, show ((64 : Int)).toNat = 64 from rfl, road_one_64 off n m Hn.out Hm.out h8]; rfl, (by first | exact hk9.drew.drew | exact hk9.drew)⟩
  · by_cases h24 : n < 24
    · have h8' : ¬ (n : Int) < 8 := by omega
      have h24' : (n : Int) < 24 := by omega
      go_wp2_with fail
      obtain ⟨wz, hz, hb9, hk9⟩ := road_set Hb1.out (Hk.out.more Hk3.out) (Nat.le_refl _) 2 ((n : Int) - 8) 0 m
      rw [← hz]
      have c0 := hb9.cell 0
      have c1 := hb9.cell 1
      have c2 := hb9.cell 2
      have c3 := hb9.cell 3
      simp at c0 c1 c2 c3
      clear hz
      exact bodyPost_ret (v := .tuple #[.agg #[.int .i64 2, .int .i64 ((n : Int) - 8), .int .i64 0, .int .i64 (m : Int)], .int .i64 0]) (by simp [results, Try.results14, go_sem, c0, c1, c2, c3]) rfl ⟨by rw [findR, hE.out, if_pos rfl, show ((64 : Int)).toNat = 64 from rfl, road_two_64 off n m Hn.out Hm.out h8 h24]; rfl, (by first | exact hk9.drew.drew | exact hk9.drew)⟩
    · have h8' : ¬ (n : Int) < 8 := by omega
      have h24' : ¬ (n : Int) < 24 := by omega
      obtain ⟨x, hx⟩ : ∃ x, x = (n - 24) / 16 := ⟨_, rfl⟩
      obtain ⟨y, hy⟩ : ∃ y, y = (n - 24) % 16 := ⟨_, rfl⟩
      have d1 : IntKind.i64.wrap (((n : Int) - 24).tdiv 16) = (x : Int) := by
        rw [Int.tdiv_eq_ediv_of_nonneg (by omega), show ((n : Int) - 24) / 16 = (x : Int) by omega]; exact IntWalk.i64_in _ (by omega)
      have d2 : ((n : Int) - 24).tmod 16 = (y : Int) := by rw [Int.tmod_eq_emod_of_nonneg (by omega)]; omega
      have Hx := Lib.hid hx
      have Hy := Lib.hid hy
      clear hx hy
      go_wp2_with fail
      refine wp_region_script [0, 1, 2, 3, 4, 5] [] [.ps [0, 1, 2, 3, 4, 5], .es [6, 7, 8, 9] false] (fun w' => True) rfl (by kernel_rfl) ?_
      refine wpS_ps rfl fun K hK => ?_
      simp only [List.map_cons, List.map_nil, Option.getD_some, List.getElem?_toArray, List.getElem?_cons_zero, List.getElem?_cons_succ]
      iterate 6 (first | (apply quietO_cons _ rfl; (intro w' _; go_simp; rfl)) | apply quietO_skip rfl)
      refine hK _ ?_
      clear hK K
      simp only [Act.put, List.setIfInBounds_toArray, List.set_cons_zero, List.set_cons_succ]
      refine wpS_es rfl fun K hK => ?_
      have HK := Lib.hid hK
      clear hK
      simp only [List.map_cons, List.map_nil, Option.getD_some, List.getElem?_toArray, List.getElem?_cons_zero, List.getElem?_cons_succ]
      go_wp2_with fail
      refine HK.out _ _ (fun h => by cases h) ?_
      clear HK K
      refine wpS_nil ?_
      go_wp2_with fail
      obtain ⟨wz, hz, hb9, hk9⟩ := road_set Hb1.out (Hk.out.more Hk3.out) (Nat.le_refl _) 3 x y m
      rw [← hz]
      have c0 := hb9.cell 0
      have c1 := hb9.cell 1
      have c2 := hb9.cell 2
      have c3 := hb9.cell 3
      simp at c0 c1 c2 c3
      clear hz
      exact bodyPost_ret (v := .tuple #[.agg #[.int .i64 3, .int .i64 (x : Int), .int .i64 (y : Int), .int .i64 (m : Int)], .int .i64 0]) (by simp [results, Try.results14, go_sem, c0, c1, c2, c3]) rfl ⟨by rw [findR, hE.out, if_pos rfl, show ((64 : Int)).toNat = 64 from rfl, (road_three_64 off n m Hn.out Hm.out h8 h24).trans (by rw [← Hx.out, ← Hy.out])]; rfl, (by first | exact hk9.drew.drew | exact hk9.drew)⟩

theorem road_one_128 (off n m : Nat) (hn : n = off / 128) (hm : m = off % 128) (h : n < 8) : road off 128 = ⟨1, n, 0, m⟩ := by
  subst hn hm; rw [road, if_pos h]
theorem road_two_128 (off n m : Nat) (hn : n = off / 128) (hm : m = off % 128) (h8 : ¬ n < 8) (h : n < 40) : road off 128 = ⟨2, (n : Int) - 8, 0, m⟩ := by
  have e1 : ((off / 128 - 8 : Nat) : Int) = (off / 128 : Nat) - 8 := by omega
  subst hn hm; rw [road, if_neg h8, if_pos (by omega), e1]
theorem road_three_128 (off n m : Nat) (hn : n = off / 128) (hm : m = off % 128) (h8 : ¬ n < 8) (h : ¬ n < 40) : road off 128 = ⟨3, ((n - 40) / 32 : Nat), ((n - 40) % 32 : Nat), m⟩ := by
  have e1 : off / 128 - 8 - 128 / 4 = off / 128 - 40 := by omega
  have e2 : 128 / 4 = 32 := rfl
  subst hn hm; rw [road, if_neg h8, if_neg (by omega), e1, e2]

set_option maxHeartbeats 1000000 in
theorem find_ok_128 (off : Nat) (w : World) (ho : off < 136192) : Calls Try.prog 14 #[.int .u64 off, .int .i64 128] w (RetFind off 128 w) := by
  have hk := (Keeps.refl nowhere w).alloc (.cells #[.int .i64 0, .int .i64 0, .int .i64 0, .int .i64 0] 25)
  have hb := Blk.new w 25 #[.int .i64 0, .int .i64 0, .int .i64 0, .int .i64 0]
  have hg : goodB 128 = true := by decide
  have hmo : mostB 128 = 136192 := by decide
  have hE : Hid (findE off 128 = 0) := findE_ok hg (by rw [hmo]; exact ho)
  have Hk := Lib.hid hk
  have Hb := Lib.hid hb
  clear hk hb
  have h1 : decide ((off : Int) ≥ 136192) = false := by simp; omega
  have e1 : IntKind.i64.wrap (off : Int) = off := IntWalk.i64_in _ (by omega)
  obtain ⟨n, hn⟩ : ∃ n, n = off / 128 := ⟨_, rfl⟩
  obtain ⟨m, hm⟩ : ∃ m, m = off % 128 := ⟨_, rfl⟩
  have e2 : IntKind.i64.wrap ((off : Int) / 128) = (n : Int) := by
    rw [show (off : Int) / 128 = (n : Int) by omega]; exact IntWalk.i64_in _ (by omega)
  have e3 : (off : Int) % 128 = (m : Int) := by omega
  have e4 : IntKind.i64.wrap 32 = 32 := by decide
  have hn' : n < 1064 := by omega
  have hm' : m < 128 := by omega
  have e5 : (off : Int).tmod 128 = (m : Int) := by rw [Int.tmod_eq_emod_of_nonneg (by omega)]; exact e3
  have e6 : IntKind.i64.wrap ((off : Int).tdiv 128) = (n : Int) := by rw [Int.tdiv_eq_ediv_of_nonneg (by omega)]; exact e2
  have Hn := Lib.hid hn
  have Hm := Lib.hid hm
  clear hn hm
  go_enter Try.func14, Try.ntmps14
  go_wp2_with fail
  refine (right_any _ _).mono ?_
  rintro e w1 ⟨rfl, hk1⟩
  rw [hg]
  go_wp2_with fail
  refine (most_any _ _).mono ?_
  rintro e w2 ⟨rfl, hk2⟩
  rw [hmo]
  have hk3 := hk1.more hk2
  have hb1 := Hb.out.keep hk3 (fun h => h)
  have c0 := hb1.cell 0
  have c1 := hb1.cell 1
  have c2 := hb1.cell 2
  have c3 := hb1.cell 3
  simp at c0 c1 c2 c3
  have f0 := hb1.frozen 0
  have f1 := hb1.frozen 1
  have f2 := hb1.frozen 2
  have f3 := hb1.frozen 3
  clear hk1 hk2
  have Hk3 := Lib.hid hk3
  have Hb1 := Lib.hid hb1
  clear hk3 hb1
  go_wp2_with fail
  refine wp_region_script [0, 1, 2, 3, 4, 5, 6, 7, 8, 9] [] [.ps [0, 1, 2, 3, 4, 5, 6, 7, 8, 9], .es [10, 11, 12] false] (fun w' => True) rfl (by kernel_rfl) ?_
  refine wpS_ps rfl fun K hK => ?_
  simp only [List.map_cons, List.map_nil, Option.getD_some, List.getElem?_toArray, List.getElem?_cons_zero, List.getElem?_cons_succ]
  iterate 10 (first | (apply quietO_cons _ rfl; (intro w' _; go_simp; rfl)) | apply quietO_skip rfl)
  refine hK _ ?_
  clear hK K
  simp only [Act.put, List.setIfInBounds_toArray, List.set_cons_zero, List.set_cons_succ]
  refine wpS_es rfl fun K hK => ?_
  have HK := Lib.hid hK
  clear hK
  simp only [List.map_cons, List.map_nil, Option.getD_some, List.getElem?_toArray, List.getElem?_cons_zero, List.getElem?_cons_succ]
  go_wp2_with fail
  refine HK.out _ _ (fun h => by cases h) ?_
  clear HK K
  refine wpS_nil ?_
  clear e2 e3 e5 e6 e1
  by_cases h8 : n < 8
  · have h8' : (n : Int) < 8 := by omega
    go_wp2_with fail
    obtain ⟨wz, hz, hb9, hk9⟩ := road_set Hb1.out (Hk.out.more Hk3.out) (Nat.le_refl _) 1 n 0 m
    rw [← hz]
    have c0 := hb9.cell 0
    have c1 := hb9.cell 1
    have c2 := hb9.cell 2
    have c3 := hb9.cell 3
    simp at c0 c1 c2 c3
    clear hz
    exact bodyPost_ret (v := .tuple #[.agg #[.int .i64 1, .int .i64 (n : Int), .int .i64 0, .int .i64 (m : Int)], .int .i64 0]) (by simp [results, Try.results14, go_sem, c0, c1, c2, c3]) rfl ⟨by rw [findR, hE.out, if_pos rfl, show ((128 : Int)).toNat = 128 from rfl, road_one_128 off n m Hn.out Hm.out h8]; rfl, (by first | exact hk9.drew.drew | exact hk9.drew)⟩
  · by_cases h24 : n < 40
    · have h8' : ¬ (n : Int) < 8 := by omega
      have h24' : (n : Int) < 40 := by omega
      go_wp2_with fail
      obtain ⟨wz, hz, hb9, hk9⟩ := road_set Hb1.out (Hk.out.more Hk3.out) (Nat.le_refl _) 2 ((n : Int) - 8) 0 m
      rw [← hz]
      have c0 := hb9.cell 0
      have c1 := hb9.cell 1
      have c2 := hb9.cell 2
      have c3 := hb9.cell 3
      simp at c0 c1 c2 c3
      clear hz
      exact bodyPost_ret (v := .tuple #[.agg #[.int .i64 2, .int .i64 ((n : Int) - 8), .int .i64 0, .int .i64 (m : Int)], .int .i64 0]) (by simp [results, Try.results14, go_sem, c0, c1, c2, c3]) rfl ⟨by rw [findR, hE.out, if_pos rfl, show ((128 : Int)).toNat = 128 from rfl, road_two_128 off n m Hn.out Hm.out h8 h24]; rfl, (by first | exact hk9.drew.drew | exact hk9.drew)⟩
    · have h8' : ¬ (n : Int) < 8 := by omega
      have h24' : ¬ (n : Int) < 40 := by omega
      obtain ⟨x, hx⟩ : ∃ x, x = (n - 40) / 32 := ⟨_, rfl⟩
      obtain ⟨y, hy⟩ : ∃ y, y = (n - 40) % 32 := ⟨_, rfl⟩
      have d1 : IntKind.i64.wrap (((n : Int) - 40).tdiv 32) = (x : Int) := by
        rw [Int.tdiv_eq_ediv_of_nonneg (by omega), show ((n : Int) - 40) / 32 = (x : Int) by omega]; exact IntWalk.i64_in _ (by omega)
      have d2 : ((n : Int) - 40).tmod 32 = (y : Int) := by rw [Int.tmod_eq_emod_of_nonneg (by omega)]; omega
      have Hx := Lib.hid hx
      have Hy := Lib.hid hy
      clear hx hy
      go_wp2_with fail
      refine wp_region_script [0, 1, 2, 3, 4, 5] [] [.ps [0, 1, 2, 3, 4, 5], .es [6, 7, 8, 9] false] (fun w' => True) rfl (by kernel_rfl) ?_
      refine wpS_ps rfl fun K hK => ?_
      simp only [List.map_cons, List.map_nil, Option.getD_some, List.getElem?_toArray, List.getElem?_cons_zero, List.getElem?_cons_succ]
      iterate 6 (first | (apply quietO_cons _ rfl; (intro w' _; go_simp; rfl)) | apply quietO_skip rfl)
      refine hK _ ?_
      clear hK K
      simp only [Act.put, List.setIfInBounds_toArray, List.set_cons_zero, List.set_cons_succ]
      refine wpS_es rfl fun K hK => ?_
      have HK := Lib.hid hK
      clear hK
      simp only [List.map_cons, List.map_nil, Option.getD_some, List.getElem?_toArray, List.getElem?_cons_zero, List.getElem?_cons_succ]
      go_wp2_with fail
      refine HK.out _ _ (fun h => by cases h) ?_
      clear HK K
      refine wpS_nil ?_
      go_wp2_with fail
      obtain ⟨wz, hz, hb9, hk9⟩ := road_set Hb1.out (Hk.out.more Hk3.out) (Nat.le_refl _) 3 x y m
      rw [← hz]
      have c0 := hb9.cell 0
      have c1 := hb9.cell 1
      have c2 := hb9.cell 2
      have c3 := hb9.cell 3
      simp at c0 c1 c2 c3
      clear hz
      exact bodyPost_ret (v := .tuple #[.agg #[.int .i64 3, .int .i64 (x : Int), .int .i64 (y : Int), .int .i64 (m : Int)], .int .i64 0]) (by simp [results, Try.results14, go_sem, c0, c1, c2, c3]) rfl ⟨by rw [findR, hE.out, if_pos rfl, show ((128 : Int)).toNat = 128 from rfl, (road_three_128 off n m Hn.out Hm.out h8 h24).trans (by rw [← Hx.out, ← Hy.out])]; rfl, (by first | exact hk9.drew.drew | exact hk9.drew)⟩

theorem road_one_256 (off n m : Nat) (hn : n = off / 256) (hm : m = off % 256) (h : n < 8) : road off 256 = ⟨1, n, 0, m⟩ := by
  subst hn hm; rw [road, if_pos h]
theorem road_two_256 (off n m : Nat) (hn : n = off / 256) (hm : m = off % 256) (h8 : ¬ n < 8) (h : n < 72) : road off 256 = ⟨2, (n : Int) - 8, 0, m⟩ := by
  have e1 : ((off / 256 - 8 : Nat) : Int) = (off / 256 : Nat) - 8 := by omega
  subst hn hm; rw [road, if_neg h8, if_pos (by omega), e1]
theorem road_three_256 (off n m : Nat) (hn : n = off / 256) (hm : m = off % 256) (h8 : ¬ n < 8) (h : ¬ n < 72) : road off 256 = ⟨3, ((n - 72) / 64 : Nat), ((n - 72) % 64 : Nat), m⟩ := by
  have e1 : off / 256 - 8 - 256 / 4 = off / 256 - 72 := by omega
  have e2 : 256 / 4 = 64 := rfl
  subst hn hm; rw [road, if_neg h8, if_neg (by omega), e1, e2]

set_option maxHeartbeats 1000000 in
theorem find_ok_256 (off : Nat) (w : World) (ho : off < 1067008) : Calls Try.prog 14 #[.int .u64 off, .int .i64 256] w (RetFind off 256 w) := by
  have hk := (Keeps.refl nowhere w).alloc (.cells #[.int .i64 0, .int .i64 0, .int .i64 0, .int .i64 0] 25)
  have hb := Blk.new w 25 #[.int .i64 0, .int .i64 0, .int .i64 0, .int .i64 0]
  have hg : goodB 256 = true := by decide
  have hmo : mostB 256 = 1067008 := by decide
  have hE : Hid (findE off 256 = 0) := findE_ok hg (by rw [hmo]; exact ho)
  have Hk := Lib.hid hk
  have Hb := Lib.hid hb
  clear hk hb
  have h1 : decide ((off : Int) ≥ 1067008) = false := by simp; omega
  have e1 : IntKind.i64.wrap (off : Int) = off := IntWalk.i64_in _ (by omega)
  obtain ⟨n, hn⟩ : ∃ n, n = off / 256 := ⟨_, rfl⟩
  obtain ⟨m, hm⟩ : ∃ m, m = off % 256 := ⟨_, rfl⟩
  have e2 : IntKind.i64.wrap ((off : Int) / 256) = (n : Int) := by
    rw [show (off : Int) / 256 = (n : Int) by omega]; exact IntWalk.i64_in _ (by omega)
  have e3 : (off : Int) % 256 = (m : Int) := by omega
  have e4 : IntKind.i64.wrap 64 = 64 := by decide
  have hn' : n < 4168 := by omega
  have hm' : m < 256 := by omega
  have e5 : (off : Int).tmod 256 = (m : Int) := by rw [Int.tmod_eq_emod_of_nonneg (by omega)]; exact e3
  have e6 : IntKind.i64.wrap ((off : Int).tdiv 256) = (n : Int) := by rw [Int.tdiv_eq_ediv_of_nonneg (by omega)]; exact e2
  have Hn := Lib.hid hn
  have Hm := Lib.hid hm
  clear hn hm
  go_enter Try.func14, Try.ntmps14
  go_wp2_with fail
  refine (right_any _ _).mono ?_
  rintro e w1 ⟨rfl, hk1⟩
  rw [hg]
  go_wp2_with fail
  refine (most_any _ _).mono ?_
  rintro e w2 ⟨rfl, hk2⟩
  rw [hmo]
  have hk3 := hk1.more hk2
  have hb1 := Hb.out.keep hk3 (fun h => h)
  have c0 := hb1.cell 0
  have c1 := hb1.cell 1
  have c2 := hb1.cell 2
  have c3 := hb1.cell 3
  simp at c0 c1 c2 c3
  have f0 := hb1.frozen 0
  have f1 := hb1.frozen 1
  have f2 := hb1.frozen 2
  have f3 := hb1.frozen 3
  clear hk1 hk2
  have Hk3 := Lib.hid hk3
  have Hb1 := Lib.hid hb1
  clear hk3 hb1
  go_wp2_with fail
  refine wp_region_script [0, 1, 2, 3, 4, 5, 6, 7, 8, 9] [] [.ps [0, 1, 2, 3, 4, 5, 6, 7, 8, 9], .es [10, 11, 12] false] (fun w' => True) rfl (by kernel_rfl) ?_
  refine wpS_ps rfl fun K hK => ?_
  simp only [List.map_cons, List.map_nil, Option.getD_some, List.getElem?_toArray, List.getElem?_cons_zero, List.getElem?_cons_succ]
  iterate 10 (first | (apply quietO_cons _ rfl; (intro w' _; go_simp; rfl)) | apply quietO_skip rfl)
  refine hK _ ?_
  clear hK K
  simp only [Act.put, List.setIfInBounds_toArray, List.set_cons_zero, List.set_cons_succ]
  refine wpS_es rfl fun K hK => ?_
  have HK := Lib.hid hK
  clear hK
  simp only [List.map_cons, List.map_nil, Option.getD_some, List.getElem?_toArray, List.getElem?_cons_zero, List.getElem?_cons_succ]
  go_wp2_with fail
  refine HK.out _ _ (fun h => by cases h) ?_
  clear HK K
  refine wpS_nil ?_
  clear e2 e3 e5 e6 e1
  by_cases h8 : n < 8
  · have h8' : (n : Int) < 8 := by omega
    go_wp2_with fail
    obtain ⟨wz, hz, hb9, hk9⟩ := road_set Hb1.out (Hk.out.more Hk3.out) (Nat.le_refl _) 1 n 0 m
    rw [← hz]
    have c0 := hb9.cell 0
    have c1 := hb9.cell 1
    have c2 := hb9.cell 2
    have c3 := hb9.cell 3
    simp at c0 c1 c2 c3
    clear hz
    exact bodyPost_ret (v := .tuple #[.agg #[.int .i64 1, .int .i64 (n : Int), .int .i64 0, .int .i64 (m : Int)], .int .i64 0]) (by simp [results, Try.results14, go_sem, c0, c1, c2, c3]) rfl ⟨by rw [findR, hE.out, if_pos rfl, show ((256 : Int)).toNat = 256 from rfl, road_one_256 off n m Hn.out Hm.out h8]; rfl, (by first | exact hk9.drew.drew | exact hk9.drew)⟩
  · by_cases h24 : n < 72
    · have h8' : ¬ (n : Int) < 8 := by omega
      have h24' : (n : Int) < 72 := by omega
      go_wp2_with fail
      obtain ⟨wz, hz, hb9, hk9⟩ := road_set Hb1.out (Hk.out.more Hk3.out) (Nat.le_refl _) 2 ((n : Int) - 8) 0 m
      rw [← hz]
      have c0 := hb9.cell 0
      have c1 := hb9.cell 1
      have c2 := hb9.cell 2
      have c3 := hb9.cell 3
      simp at c0 c1 c2 c3
      clear hz
      exact bodyPost_ret (v := .tuple #[.agg #[.int .i64 2, .int .i64 ((n : Int) - 8), .int .i64 0, .int .i64 (m : Int)], .int .i64 0]) (by simp [results, Try.results14, go_sem, c0, c1, c2, c3]) rfl ⟨by rw [findR, hE.out, if_pos rfl, show ((256 : Int)).toNat = 256 from rfl, road_two_256 off n m Hn.out Hm.out h8 h24]; rfl, (by first | exact hk9.drew.drew | exact hk9.drew)⟩
    · have h8' : ¬ (n : Int) < 8 := by omega
      have h24' : ¬ (n : Int) < 72 := by omega
      obtain ⟨x, hx⟩ : ∃ x, x = (n - 72) / 64 := ⟨_, rfl⟩
      obtain ⟨y, hy⟩ : ∃ y, y = (n - 72) % 64 := ⟨_, rfl⟩
      have d1 : IntKind.i64.wrap (((n : Int) - 72).tdiv 64) = (x : Int) := by
        rw [Int.tdiv_eq_ediv_of_nonneg (by omega), show ((n : Int) - 72) / 64 = (x : Int) by omega]; exact IntWalk.i64_in _ (by omega)
      have d2 : ((n : Int) - 72).tmod 64 = (y : Int) := by rw [Int.tmod_eq_emod_of_nonneg (by omega)]; omega
      have Hx := Lib.hid hx
      have Hy := Lib.hid hy
      clear hx hy
      go_wp2_with fail
      refine wp_region_script [0, 1, 2, 3, 4, 5] [] [.ps [0, 1, 2, 3, 4, 5], .es [6, 7, 8, 9] false] (fun w' => True) rfl (by kernel_rfl) ?_
      refine wpS_ps rfl fun K hK => ?_
      simp only [List.map_cons, List.map_nil, Option.getD_some, List.getElem?_toArray, List.getElem?_cons_zero, List.getElem?_cons_succ]
      iterate 6 (first | (apply quietO_cons _ rfl; (intro w' _; go_simp; rfl)) | apply quietO_skip rfl)
      refine hK _ ?_
      clear hK K
      simp only [Act.put, List.setIfInBounds_toArray, List.set_cons_zero, List.set_cons_succ]
      refine wpS_es rfl fun K hK => ?_
      have HK := Lib.hid hK
      clear hK
      simp only [List.map_cons, List.map_nil, Option.getD_some, List.getElem?_toArray, List.getElem?_cons_zero, List.getElem?_cons_succ]
      go_wp2_with fail
      refine HK.out _ _ (fun h => by cases h) ?_
      clear HK K
      refine wpS_nil ?_
      go_wp2_with fail
      obtain ⟨wz, hz, hb9, hk9⟩ := road_set Hb1.out (Hk.out.more Hk3.out) (Nat.le_refl _) 3 x y m
      rw [← hz]
      have c0 := hb9.cell 0
      have c1 := hb9.cell 1
      have c2 := hb9.cell 2
      have c3 := hb9.cell 3
      simp at c0 c1 c2 c3
      clear hz
      exact bodyPost_ret (v := .tuple #[.agg #[.int .i64 3, .int .i64 (x : Int), .int .i64 (y : Int), .int .i64 (m : Int)], .int .i64 0]) (by simp [results, Try.results14, go_sem, c0, c1, c2, c3]) rfl ⟨by rw [findR, hE.out, if_pos rfl, show ((256 : Int)).toNat = 256 from rfl, (road_three_256 off n m Hn.out Hm.out h8 h24).trans (by rw [← Hx.out, ← Hy.out])]; rfl, (by first | exact hk9.drew.drew | exact hk9.drew)⟩

theorem road_one_512 (off n m : Nat) (hn : n = off / 512) (hm : m = off % 512) (h : n < 8) : road off 512 = ⟨1, n, 0, m⟩ := by
  subst hn hm; rw [road, if_pos h]
theorem road_two_512 (off n m : Nat) (hn : n = off / 512) (hm : m = off % 512) (h8 : ¬ n < 8) (h : n < 136) : road off 512 = ⟨2, (n : Int) - 8, 0, m⟩ := by
  have e1 : ((off / 512 - 8 : Nat) : Int) = (off / 512 : Nat) - 8 := by omega
  subst hn hm; rw [road, if_neg h8, if_pos (by omega), e1]
theorem road_three_512 (off n m : Nat) (hn : n = off / 512) (hm : m = off % 512) (h8 : ¬ n < 8) (h : ¬ n < 136) : road off 512 = ⟨3, ((n - 136) / 128 : Nat), ((n - 136) % 128 : Nat), m⟩ := by
  have e1 : off / 512 - 8 - 512 / 4 = off / 512 - 136 := by omega
  have e2 : 512 / 4 = 128 := rfl
  subst hn hm; rw [road, if_neg h8, if_neg (by omega), e1, e2]

set_option maxHeartbeats 1000000 in
theorem find_ok_512 (off : Nat) (w : World) (ho : off < 8458240) : Calls Try.prog 14 #[.int .u64 off, .int .i64 512] w (RetFind off 512 w) := by
  have hk := (Keeps.refl nowhere w).alloc (.cells #[.int .i64 0, .int .i64 0, .int .i64 0, .int .i64 0] 25)
  have hb := Blk.new w 25 #[.int .i64 0, .int .i64 0, .int .i64 0, .int .i64 0]
  have hg : goodB 512 = true := by decide
  have hmo : mostB 512 = 8458240 := by decide
  have hE : Hid (findE off 512 = 0) := findE_ok hg (by rw [hmo]; exact ho)
  have Hk := Lib.hid hk
  have Hb := Lib.hid hb
  clear hk hb
  have h1 : decide ((off : Int) ≥ 8458240) = false := by simp; omega
  have e1 : IntKind.i64.wrap (off : Int) = off := IntWalk.i64_in _ (by omega)
  obtain ⟨n, hn⟩ : ∃ n, n = off / 512 := ⟨_, rfl⟩
  obtain ⟨m, hm⟩ : ∃ m, m = off % 512 := ⟨_, rfl⟩
  have e2 : IntKind.i64.wrap ((off : Int) / 512) = (n : Int) := by
    rw [show (off : Int) / 512 = (n : Int) by omega]; exact IntWalk.i64_in _ (by omega)
  have e3 : (off : Int) % 512 = (m : Int) := by omega
  have e4 : IntKind.i64.wrap 128 = 128 := by decide
  have hn' : n < 16520 := by omega
  have hm' : m < 512 := by omega
  have e5 : (off : Int).tmod 512 = (m : Int) := by rw [Int.tmod_eq_emod_of_nonneg (by omega)]; exact e3
  have e6 : IntKind.i64.wrap ((off : Int).tdiv 512) = (n : Int) := by rw [Int.tdiv_eq_ediv_of_nonneg (by omega)]; exact e2
  have Hn := Lib.hid hn
  have Hm := Lib.hid hm
  clear hn hm
  go_enter Try.func14, Try.ntmps14
  go_wp2_with fail
  refine (right_any _ _).mono ?_
  rintro e w1 ⟨rfl, hk1⟩
  rw [hg]
  go_wp2_with fail
  refine (most_any _ _).mono ?_
  rintro e w2 ⟨rfl, hk2⟩
  rw [hmo]
  have hk3 := hk1.more hk2
  have hb1 := Hb.out.keep hk3 (fun h => h)
  have c0 := hb1.cell 0
  have c1 := hb1.cell 1
  have c2 := hb1.cell 2
  have c3 := hb1.cell 3
  simp at c0 c1 c2 c3
  have f0 := hb1.frozen 0
  have f1 := hb1.frozen 1
  have f2 := hb1.frozen 2
  have f3 := hb1.frozen 3
  clear hk1 hk2
  have Hk3 := Lib.hid hk3
  have Hb1 := Lib.hid hb1
  clear hk3 hb1
  go_wp2_with fail
  refine wp_region_script [0, 1, 2, 3, 4, 5, 6, 7, 8, 9] [] [.ps [0, 1, 2, 3, 4, 5, 6, 7, 8, 9], .es [10, 11, 12] false] (fun w' => True) rfl (by kernel_rfl) ?_
  refine wpS_ps rfl fun K hK => ?_
  simp only [List.map_cons, List.map_nil, Option.getD_some, List.getElem?_toArray, List.getElem?_cons_zero, List.getElem?_cons_succ]
  iterate 10 (first | (apply quietO_cons _ rfl; (intro w' _; go_simp; rfl)) | apply quietO_skip rfl)
  refine hK _ ?_
  clear hK K
  simp only [Act.put, List.setIfInBounds_toArray, List.set_cons_zero, List.set_cons_succ]
  refine wpS_es rfl fun K hK => ?_
  have HK := Lib.hid hK
  clear hK
  simp only [List.map_cons, List.map_nil, Option.getD_some, List.getElem?_toArray, List.getElem?_cons_zero, List.getElem?_cons_succ]
  go_wp2_with fail
  refine HK.out _ _ (fun h => by cases h) ?_
  clear HK K
  refine wpS_nil ?_
  clear e2 e3 e5 e6 e1
  by_cases h8 : n < 8
  · have h8' : (n : Int) < 8 := by omega
    go_wp2_with fail
    obtain ⟨wz, hz, hb9, hk9⟩ := road_set Hb1.out (Hk.out.more Hk3.out) (Nat.le_refl _) 1 n 0 m
    rw [← hz]
    have c0 := hb9.cell 0
    have c1 := hb9.cell 1
    have c2 := hb9.cell 2
    have c3 := hb9.cell 3
    simp at c0 c1 c2 c3
    clear hz
    exact bodyPost_ret (v := .tuple #[.agg #[.int .i64 1, .int .i64 (n : Int), .int .i64 0, .int .i64 (m : Int)], .int .i64 0]) (by simp [results, Try.results14, go_sem, c0, c1, c2, c3]) rfl ⟨by rw [findR, hE.out, if_pos rfl, show ((512 : Int)).toNat = 512 from rfl, road_one_512 off n m Hn.out Hm.out h8]; rfl, (by first | exact hk9.drew.drew | exact hk9.drew)⟩
  · by_cases h24 : n < 136
    · have h8' : ¬ (n : Int) < 8 := by omega
      have h24' : (n : Int) < 136 := by omega
      go_wp2_with fail
      obtain ⟨wz, hz, hb9, hk9⟩ := road_set Hb1.out (Hk.out.more Hk3.out) (Nat.le_refl _) 2 ((n : Int) - 8) 0 m
      rw [← hz]
      have c0 := hb9.cell 0
      have c1 := hb9.cell 1
      have c2 := hb9.cell 2
      have c3 := hb9.cell 3
      simp at c0 c1 c2 c3
      clear hz
      exact bodyPost_ret (v := .tuple #[.agg #[.int .i64 2, .int .i64 ((n : Int) - 8), .int .i64 0, .int .i64 (m : Int)], .int .i64 0]) (by simp [results, Try.results14, go_sem, c0, c1, c2, c3]) rfl ⟨by rw [findR, hE.out, if_pos rfl, show ((512 : Int)).toNat = 512 from rfl, road_two_512 off n m Hn.out Hm.out h8 h24]; rfl, (by first | exact hk9.drew.drew | exact hk9.drew)⟩
    · have h8' : ¬ (n : Int) < 8 := by omega
      have h24' : ¬ (n : Int) < 136 := by omega
      obtain ⟨x, hx⟩ : ∃ x, x = (n - 136) / 128 := ⟨_, rfl⟩
      obtain ⟨y, hy⟩ : ∃ y, y = (n - 136) % 128 := ⟨_, rfl⟩
      have d1 : IntKind.i64.wrap (((n : Int) - 136).tdiv 128) = (x : Int) := by
        rw [Int.tdiv_eq_ediv_of_nonneg (by omega), show ((n : Int) - 136) / 128 = (x : Int) by omega]; exact IntWalk.i64_in _ (by omega)
      have d2 : ((n : Int) - 136).tmod 128 = (y : Int) := by rw [Int.tmod_eq_emod_of_nonneg (by omega)]; omega
      have Hx := Lib.hid hx
      have Hy := Lib.hid hy
      clear hx hy
      go_wp2_with fail
      refine wp_region_script [0, 1, 2, 3, 4, 5] [] [.ps [0, 1, 2, 3, 4, 5], .es [6, 7, 8, 9] false] (fun w' => True) rfl (by kernel_rfl) ?_
      refine wpS_ps rfl fun K hK => ?_
      simp only [List.map_cons, List.map_nil, Option.getD_some, List.getElem?_toArray, List.getElem?_cons_zero, List.getElem?_cons_succ]
      iterate 6 (first | (apply quietO_cons _ rfl; (intro w' _; go_simp; rfl)) | apply quietO_skip rfl)
      refine hK _ ?_
      clear hK K
      simp only [Act.put, List.setIfInBounds_toArray, List.set_cons_zero, List.set_cons_succ]
      refine wpS_es rfl fun K hK => ?_
      have HK := Lib.hid hK
      clear hK
      simp only [List.map_cons, List.map_nil, Option.getD_some, List.getElem?_toArray, List.getElem?_cons_zero, List.getElem?_cons_succ]
      go_wp2_with fail
      refine HK.out _ _ (fun h => by cases h) ?_
      clear HK K
      refine wpS_nil ?_
      go_wp2_with fail
      obtain ⟨wz, hz, hb9, hk9⟩ := road_set Hb1.out (Hk.out.more Hk3.out) (Nat.le_refl _) 3 x y m
      rw [← hz]
      have c0 := hb9.cell 0
      have c1 := hb9.cell 1
      have c2 := hb9.cell 2
      have c3 := hb9.cell 3
      simp at c0 c1 c2 c3
      clear hz
      exact bodyPost_ret (v := .tuple #[.agg #[.int .i64 3, .int .i64 (x : Int), .int .i64 (y : Int), .int .i64 (m : Int)], .int .i64 0]) (by simp [results, Try.results14, go_sem, c0, c1, c2, c3]) rfl ⟨by rw [findR, hE.out, if_pos rfl, show ((512 : Int)).toNat = 512 from rfl, (road_three_512 off n m Hn.out Hm.out h8 h24).trans (by rw [← Hx.out, ← Hy.out])]; rfl, (by first | exact hk9.drew.drew | exact hk9.drew)⟩

theorem road_one_1024 (off n m : Nat) (hn : n = off / 1024) (hm : m = off % 1024) (h : n < 8) : road off 1024 = ⟨1, n, 0, m⟩ := by
  subst hn hm; rw [road, if_pos h]
theorem road_two_1024 (off n m : Nat) (hn : n = off / 1024) (hm : m = off % 1024) (h8 : ¬ n < 8) (h : n < 264) : road off 1024 = ⟨2, (n : Int) - 8, 0, m⟩ := by
  have e1 : ((off / 1024 - 8 : Nat) : Int) = (off / 1024 : Nat) - 8 := by omega
  subst hn hm; rw [road, if_neg h8, if_pos (by omega), e1]
theorem road_three_1024 (off n m : Nat) (hn : n = off / 1024) (hm : m = off % 1024) (h8 : ¬ n < 8) (h : ¬ n < 264) : road off 1024 = ⟨3, ((n - 264) / 256 : Nat), ((n - 264) % 256 : Nat), m⟩ := by
  have e1 : off / 1024 - 8 - 1024 / 4 = off / 1024 - 264 := by omega
  have e2 : 1024 / 4 = 256 := rfl
  subst hn hm; rw [road, if_neg h8, if_neg (by omega), e1, e2]

set_option maxHeartbeats 1000000 in
theorem find_ok_1024 (off : Nat) (w : World) (ho : off < 67379200) : Calls Try.prog 14 #[.int .u64 off, .int .i64 1024] w (RetFind off 1024 w) := by
  have hk := (Keeps.refl nowhere w).alloc (.cells #[.int .i64 0, .int .i64 0, .int .i64 0, .int .i64 0] 25)
  have hb := Blk.new w 25 #[.int .i64 0, .int .i64 0, .int .i64 0, .int .i64 0]
  have hg : goodB 1024 = true := by decide
  have hmo : mostB 1024 = 67379200 := by decide
  have hE : Hid (findE off 1024 = 0) := findE_ok hg (by rw [hmo]; exact ho)
  have Hk := Lib.hid hk
  have Hb := Lib.hid hb
  clear hk hb
  have h1 : decide ((off : Int) ≥ 67379200) = false := by simp; omega
  have e1 : IntKind.i64.wrap (off : Int) = off := IntWalk.i64_in _ (by omega)
  obtain ⟨n, hn⟩ : ∃ n, n = off / 1024 := ⟨_, rfl⟩
  obtain ⟨m, hm⟩ : ∃ m, m = off % 1024 := ⟨_, rfl⟩
  have e2 : IntKind.i64.wrap ((off : Int) / 1024) = (n : Int) := by
    rw [show (off : Int) / 1024 = (n : Int) by omega]; exact IntWalk.i64_in _ (by omega)
  have e3 : (off : Int) % 1024 = (m : Int) := by omega
  have e4 : IntKind.i64.wrap 256 = 256 := by decide
  have hn' : n < 65800 := by omega
  have hm' : m < 1024 := by omega
  have e5 : (off : Int).tmod 1024 = (m : Int) := by rw [Int.tmod_eq_emod_of_nonneg (by omega)]; exact e3
  have e6 : IntKind.i64.wrap ((off : Int).tdiv 1024) = (n : Int) := by rw [Int.tdiv_eq_ediv_of_nonneg (by omega)]; exact e2
  have Hn := Lib.hid hn
  have Hm := Lib.hid hm
  clear hn hm
  go_enter Try.func14, Try.ntmps14
  go_wp2_with fail
  refine (right_any _ _).mono ?_
  rintro e w1 ⟨rfl, hk1⟩
  rw [hg]
  go_wp2_with fail
  refine (most_any _ _).mono ?_
  rintro e w2 ⟨rfl, hk2⟩
  rw [hmo]
  have hk3 := hk1.more hk2
  have hb1 := Hb.out.keep hk3 (fun h => h)
  have c0 := hb1.cell 0
  have c1 := hb1.cell 1
  have c2 := hb1.cell 2
  have c3 := hb1.cell 3
  simp at c0 c1 c2 c3
  have f0 := hb1.frozen 0
  have f1 := hb1.frozen 1
  have f2 := hb1.frozen 2
  have f3 := hb1.frozen 3
  clear hk1 hk2
  have Hk3 := Lib.hid hk3
  have Hb1 := Lib.hid hb1
  clear hk3 hb1
  go_wp2_with fail
  refine wp_region_script [0, 1, 2, 3, 4, 5, 6, 7, 8, 9] [] [.ps [0, 1, 2, 3, 4, 5, 6, 7, 8, 9], .es [10, 11, 12] false] (fun w' => True) rfl (by kernel_rfl) ?_
  refine wpS_ps rfl fun K hK => ?_
  simp only [List.map_cons, List.map_nil, Option.getD_some, List.getElem?_toArray, List.getElem?_cons_zero, List.getElem?_cons_succ]
  iterate 10 (first | (apply quietO_cons _ rfl; (intro w' _; go_simp; rfl)) | apply quietO_skip rfl)
  refine hK _ ?_
  clear hK K
  simp only [Act.put, List.setIfInBounds_toArray, List.set_cons_zero, List.set_cons_succ]
  refine wpS_es rfl fun K hK => ?_
  have HK := Lib.hid hK
  clear hK
  simp only [List.map_cons, List.map_nil, Option.getD_some, List.getElem?_toArray, List.getElem?_cons_zero, List.getElem?_cons_succ]
  go_wp2_with fail
  refine HK.out _ _ (fun h => by cases h) ?_
  clear HK K
  refine wpS_nil ?_
  clear e2 e3 e5 e6 e1
  by_cases h8 : n < 8
  · have h8' : (n : Int) < 8 := by omega
    go_wp2_with fail
    obtain ⟨wz, hz, hb9, hk9⟩ := road_set Hb1.out (Hk.out.more Hk3.out) (Nat.le_refl _) 1 n 0 m
    rw [← hz]
    have c0 := hb9.cell 0
    have c1 := hb9.cell 1
    have c2 := hb9.cell 2
    have c3 := hb9.cell 3
    simp at c0 c1 c2 c3
    clear hz
    exact bodyPost_ret (v := .tuple #[.agg #[.int .i64 1, .int .i64 (n : Int), .int .i64 0, .int .i64 (m : Int)], .int .i64 0]) (by simp [results, Try.results14, go_sem, c0, c1, c2, c3]) rfl ⟨by rw [findR, hE.out, if_pos rfl, show ((1024 : Int)).toNat = 1024 from rfl, road_one_1024 off n m Hn.out Hm.out h8]; rfl, (by first | exact hk9.drew.drew | exact hk9.drew)⟩
  · by_cases h24 : n < 264
    · have h8' : ¬ (n : Int) < 8 := by omega
      have h24' : (n : Int) < 264 := by omega
      go_wp2_with fail
      obtain ⟨wz, hz, hb9, hk9⟩ := road_set Hb1.out (Hk.out.more Hk3.out) (Nat.le_refl _) 2 ((n : Int) - 8) 0 m
      rw [← hz]
      have c0 := hb9.cell 0
      have c1 := hb9.cell 1
      have c2 := hb9.cell 2
      have c3 := hb9.cell 3
      simp at c0 c1 c2 c3
      clear hz
      exact bodyPost_ret (v := .tuple #[.agg #[.int .i64 2, .int .i64 ((n : Int) - 8), .int .i64 0, .int .i64 (m : Int)], .int .i64 0]) (by simp [results, Try.results14, go_sem, c0, c1, c2, c3]) rfl ⟨by rw [findR, hE.out, if_pos rfl, show ((1024 : Int)).toNat = 1024 from rfl, road_two_1024 off n m Hn.out Hm.out h8 h24]; rfl, (by first | exact hk9.drew.drew | exact hk9.drew)⟩
    · have h8' : ¬ (n : Int) < 8 := by omega
      have h24' : ¬ (n : Int) < 264 := by omega
      obtain ⟨x, hx⟩ : ∃ x, x = (n - 264) / 256 := ⟨_, rfl⟩
      obtain ⟨y, hy⟩ : ∃ y, y = (n - 264) % 256 := ⟨_, rfl⟩
      have d1 : IntKind.i64.wrap (((n : Int) - 264).tdiv 256) = (x : Int) := by
        rw [Int.tdiv_eq_ediv_of_nonneg (by omega), show ((n : Int) - 264) / 256 = (x : Int) by omega]; exact IntWalk.i64_in _ (by omega)
      have d2 : ((n : Int) - 264).tmod 256 = (y : Int) := by rw [Int.tmod_eq_emod_of_nonneg (by omega)]; omega
      have Hx := Lib.hid hx
      have Hy := Lib.hid hy
      clear hx hy
      go_wp2_with fail
      refine wp_region_script [0, 1, 2, 3, 4, 5] [] [.ps [0, 1, 2, 3, 4, 5], .es [6, 7, 8, 9] false] (fun w' => True) rfl (by kernel_rfl) ?_
      refine wpS_ps rfl fun K hK => ?_
      simp only [List.map_cons, List.map_nil, Option.getD_some, List.getElem?_toArray, List.getElem?_cons_zero, List.getElem?_cons_succ]
      iterate 6 (first | (apply quietO_cons _ rfl; (intro w' _; go_simp; rfl)) | apply quietO_skip rfl)
      refine hK _ ?_
      clear hK K
      simp only [Act.put, List.setIfInBounds_toArray, List.set_cons_zero, List.set_cons_succ]
      refine wpS_es rfl fun K hK => ?_
      have HK := Lib.hid hK
      clear hK
      simp only [List.map_cons, List.map_nil, Option.getD_some, List.getElem?_toArray, List.getElem?_cons_zero, List.getElem?_cons_succ]
      go_wp2_with fail
      refine HK.out _ _ (fun h => by cases h) ?_
      clear HK K
      refine wpS_nil ?_
      go_wp2_with fail
      obtain ⟨wz, hz, hb9, hk9⟩ := road_set Hb1.out (Hk.out.more Hk3.out) (Nat.le_refl _) 3 x y m
      rw [← hz]
      have c0 := hb9.cell 0
      have c1 := hb9.cell 1
      have c2 := hb9.cell 2
      have c3 := hb9.cell 3
      simp at c0 c1 c2 c3
      clear hz
      exact bodyPost_ret (v := .tuple #[.agg #[.int .i64 3, .int .i64 (x : Int), .int .i64 (y : Int), .int .i64 (m : Int)], .int .i64 0]) (by simp [results, Try.results14, go_sem, c0, c1, c2, c3]) rfl ⟨by rw [findR, hE.out, if_pos rfl, show ((1024 : Int)).toNat = 1024 from rfl, (road_three_1024 off n m Hn.out Hm.out h8 h24).trans (by rw [← Hx.out, ← Hy.out])]; rfl, (by first | exact hk9.drew.drew | exact hk9.drew)⟩

theorem find_any (off : Nat) (b : Int) (w : World) (hu : off < 18446744073709551616) : Calls Try.prog 14 #[.int .u64 off, .int .i64 b] w (RetFind off b w) := by
  cases hg : goodB b with
  | false => exact find_bad off b w hg
  | true =>
    by_cases ho : mostB b ≤ off
    · exact find_far off b w hg ho hu
    · have h := Nat.lt_of_not_le ho
      rcases good_cases hg with rfl | rfl | rfl | rfl | rfl
      · exact find_ok_64 off w h
      · exact find_ok_128 off w h
      · exact find_ok_256 off w h
      · exact find_ok_512 off w h
      · exact find_ok_1024 off w h
end Go.Proofs.Ytnccgmffgmfinaa
