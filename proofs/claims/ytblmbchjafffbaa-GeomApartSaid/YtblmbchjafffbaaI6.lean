/-
  inode: '==' of two inodes; Blocks.
-/
import Derived.Test.YtblmbchjafffbaaI5
import Derived.Laws.StructEq
namespace Go.Proofs.Ytblmbchjafffbaa
open Go.RowKit

theorem all_range_eqN : ∀ (xs ys : List Nat), xs.length = ys.length → ((List.range xs.length).all fun i => xs.getD i 0 == ys.getD i 0) = (xs == ys)
  | [], [], _ => rfl
  | x :: xs, y :: ys, h => by
    have ih := all_range_eqN xs ys (by simpa using h)
    rw [List.length_cons, List.range_succ_eq_map, List.all_cons, List.all_map]
    simp only [List.getD_cons_zero, Function.comp_def, List.getD_cons_succ, ih]
    simp [List.cons_beq_cons]
  | [], _ :: _, h => by simp at h
  | _ :: _, [], h => by simp at h

theorem eql_words {P : Program} (w : World) (d : Nat) (t e : TypeId) (n : Nat) (ht : P.underlying t = some (.array n e)) (he : P.underlying e = some (.int .u32)) (hsz : ∀ w, (sizeOf e).run P w = .ok 1 w)
    (xs ys : List Nat) (hx : xs.length = n) (hy : ys.length = n) :
    (Op.equalIn (d + 2) t (.agg (xs.map wv).toArray) (.agg (ys.map wv).toArray)).run P w = .ok (xs == ys) w := by
  rw [← all_range_eqN xs ys (hx.trans hy.symm), hx, List.range_eq_range', Op.equalIn]
  simp only [Sem.run_bind, run_underlying ht, Result.andThen_ok, hsz, Std.Legacy.Range.forIn_eq_forIn_range', Std.Legacy.Range.size, Nat.sub_zero, Nat.add_sub_cancel, Nat.div_one]
  have hl : ∀ i ∈ List.range' 0 n 1, i < n := fun i hi => by simpa using (List.mem_range'_1.1 hi).2
  generalize List.range' 0 n 1 = l at hl ⊢
  induction l with
  | nil => simp
  | cons i l ih =>
    have hi : i < n := hl i (by simp)
    have px : (part e (xs.map wv).toArray (i * 1)).run P w = .ok (wv (xs.getD i 0)) w := by
      simp [part, isAgg, run_underlying he, List.getD, List.getElem?_eq_getElem (show i < xs.length by omega)]
    have py : (part e (ys.map wv).toArray (i * 1)).run P w = .ok (wv (ys.getD i 0)) w := by
      simp [part, isAgg, run_underlying he, List.getD, List.getElem?_eq_getElem (show i < ys.length by omega)]
    have pe : (Op.equalIn (d + 1) e (wv (xs.getD i 0)) (wv (ys.getD i 0))).run P w = .ok (xs.getD i 0 == ys.getD i 0) w := by
      rw [wv, wv, run_equalIn_int w d e .u32 .u32 _ _ he]
      congr 1
      rw [Bool.eq_iff_iff]
      simp
      omega
    simp only [List.forIn_cons, Sem.run_bind, px, py, pe, Result.andThen_ok, List.all_cons]
    cases hb : (xs.getD i 0 == ys.getD i 0)
    · simp
    · simp only [Bool.not_true, Bool.false_eq_true, if_false, Sem.run_pure, Result.andThen_ok, Bool.true_and]
      exact ih fun j hj => hl j (by simp [hj])

def eqI (i j : Ino) : Bool := ((i.m : Int) == j.m) && ((i.v : Int) == j.v) && ((i.s : Int) == j.s) && ((i.l : Int) == j.l) && (i.dir == j.dir) && ((i.a : Int) == j.a) && ((i.b : Int) == j.b)
theorem eqI_iff (i j : Ino) : eqI i j = true ↔ i = j := by
  cases i
  cases j
  simp [eqI, Ino.dir]
  omega

set_option maxRecDepth 20000 in
set_option maxHeartbeats 1600000 in
theorem eql_ino (i j : Ino) (w : World) : (Op.equalIn 10000 48 i.val j.val).run Try.prog w = .ok (eqI i j) w := by
  have h8 := eql_words w 9997 46 36 8 Try.underlying46 Try.underlying36 (fun w => by kernel_rfl) i.dir j.dir rfl rfl
  unfold Ino.val Ino.cells
  simp only [Ino.dir, List.map_cons, List.map_nil, wv] at h8
  simp [go_sem, h8]
  unfold eqI Ino.dir
  by_cases a1 : (i.m : Int) = j.m
  · by_cases a2 : (i.v : Int) = j.v
    · by_cases a3 : (i.s : Int) = j.s
      · by_cases a4 : (i.l : Int) = j.l
        · by_cases a5 : (i.a : Int) = j.a
          · by_cases a6 : (i.b : Int) = j.b
            · simp only [a1, a2, a3, a4, a5, a6, if_true, beq_self_eq_true, Bool.true_and, Bool.and_true]
              cases hb : ([i.d0, i.d1, i.d2, i.d3, i.d4, i.d5, i.d6, i.d7] == [j.d0, j.d1, j.d2, j.d3, j.d4, j.d5, j.d6, j.d7])
              · simp [List.cons_beq_cons] at hb
                simp
                exact hb
              · simp [List.cons_beq_cons] at hb
                simp [hb]
            · simp [a1, a2, a3, a4, a5, a6]
          · simp [a1, a2, a3, a4, a5]
        · simp [a1, a2, a3, a4]
      · simp [a1, a2, a3]
    · simp [a1, a2]
  · simp [a1]

theorem eql_run (i j : Ino) (w : World) : (binOp .eql 48 i.val j.val).run Try.prog w = .ok (.bool (eqI i j)) w := by
  have h := eql_ino i j w
  unfold Ino.val at h ⊢
  rw [run_eql_struct, h]
  rfl
theorem neq_run (i j : Ino) (w : World) : (binOp .neq 48 i.val j.val).run Try.prog w = .ok (.bool (!eqI i j)) w := by
  have h := eql_ino i j w
  unfold Ino.val at h ⊢
  rw [run_neq_struct, h]
  rfl

def blocksN (s : Nat) (b : Int) : Int := if b < 64 ∨ 1024 < b then 0 else ((s : Int) + b - 1) / b
set_option maxHeartbeats 400000 in
theorem iblocksN (s : Nat) (b : Int) (hs : s < 4294967296) (w : World) : Calls Try.prog 31 #[.int .u32 s, .int .i64 b] w fun e w' => e = .returned (.int .i64 (blocksN s b)) ∧ w = w' := by
  by_cases h1 : b < 64
  · have hR : blocksN s b = 0 := by rw [blocksN, if_pos (.inl h1)]
    have HR := Lib.hid hR
    clear hR
    go_enter Try.func31, Try.ntmps31
    go_wp2
    go_ret
    exact ⟨by rw [HR.out]; rfl, rfl⟩
  · by_cases h2 : b > 1024
    · have hR : blocksN s b = 0 := by rw [blocksN, if_pos (.inr h2)]
      have HR := Lib.hid hR
      clear hR
      go_enter Try.func31, Try.ntmps31
      go_wp2
      go_ret
      exact ⟨by rw [HR.out]; rfl, rfl⟩
    · have hR : blocksN s b = ((s : Int) + b - 1) / b := by rw [blocksN, if_neg (by omega)]
      have hb0 : ¬ b = 0 := by omega
      have hw1 : IntKind.i64.wrap ((s : Int) + b) = (s : Int) + b := IntWalk.i64_in _ (by omega)
      have hw2 : IntKind.i64.wrap ((s : Int) + b - 1) = (s : Int) + b - 1 := IntWalk.i64_in _ (by omega)
      have hq0 : 0 ≤ ((s : Int) + b - 1) / b := Int.ediv_nonneg (by omega) (by omega)
      have hq1 : ((s : Int) + b - 1) / b ≤ (s : Int) + b - 1 := Int.ediv_le_self _ (by omega)
      have htd : ((s : Int) + b - 1).tdiv b = ((s : Int) + b - 1) / b := Int.tdiv_eq_ediv_of_nonneg (by omega)
      have hw3 : IntKind.i64.wrap (((s : Int) + b - 1) / b) = ((s : Int) + b - 1) / b := IntWalk.i64_in _ (by omega)
      obtain ⟨q, hq⟩ : ∃ q, q = ((s : Int) + b - 1) / b := ⟨_, rfl⟩
      rw [← hq] at hR htd hw3
      have HR := Lib.hid hR
      have Hq := Lib.hid hq
      have Hq0 := Lib.hid hq0
      have Hq1 := Lib.hid hq1
      clear hR hq hq0 hq1
      go_enter Try.func31, Try.ntmps31
      go_wp2
      go_ret
      exact ⟨by rw [HR.out]; rfl, rfl⟩
end Go.Proofs.Ytblmbchjafffbaa
