/-
  Parts of the proof, joined in build order: RoundB, ChunkI, Dk22, Dk18, Dk19, Dk20, Pl0, Pl1.
-/
import Derived.Test.YtnddaildicmneaaMp6
import Derived.OrdersIn
import Derived.Test.YtnddaildicmneaaChecked
import Derived.RangeFuncNested
import Derived.RangeFuncBound
import Derived.RangeFuncCalls
import Derived.RangeFuncLeaves
import Derived.Shelf.Abstract
import Derived.Shelf.RegionOpen
import Derived.WalkKit
import Derived.OwnWalkIn
import Derived.TacticsInMore
import Derived.LoopNIn
import Derived.LoopIn
import Derived.RangeFuncWrites
set_option linter.unusedVariables false
set_option linter.unusedSimpArgs false
/-
  A region that draws its order, in the body of a range over a function: the script's rule, at the wide fence. No program in sight.
-/
namespace Go.Proofs.Ytnddaildicmneaa
open Go.RowKit

section
variable {P : Program} {ops : Array Oper} {Q : Exit → Act → World → Prop} {l n : Nat}
theorem rowsIn_of {row : String} {args : Array Value} {w : World} {R : Value → World → Prop} (h : Rows P row args w R) : RowsIn (Fence.wide.inRound l) n P row args w R := fun c cs _ =>
  let ⟨v, w', r, s⟩ := h c cs
  ⟨v, w', r, stepsIn_wide.2 s⟩
theorem callsIn_of {f : FuncId} {args : Array Value} {w : World} {R : Ending → World → Prop} (h : Calls P f args w R) : CallsIn (Fence.wide.inRound l) n P f args w R := (callsIn_wide (n := n)).2 h
theorem uponIn_of {o : Oper} {a : Act} {K : Act → World → Prop} (r : Result Next) (h : o.upon P a K Q r) : o.uponIn (Fence.wide.inRound l) n P a K Q r := by
  cases r with
  | ok x w' =>
    cases x <;> simp only [Oper.upon, Oper.uponIn] at h ⊢ <;>
      first
        | exact h
        | exact ⟨(fun hd => by cases hd), callsIn_of h⟩
        | exact ⟨(fun hd => by cases hd), rowsIn_of h⟩
        | exact h.elim
  | halt x w' => cases x <;> simp only [Oper.upon, Oper.uponIn] at h ⊢ <;> exact h
theorem wpOpIn_of {i : Nat} {a : Act} {w : World} {K : Act → World → Prop} (hd : ∀ (i : Nat) (o : Oper), ops[i]? = some o → ∀ c, o.op ≠ .defer c) (hQ : ¬ LetsOut Q) (h : wpOp P ops Q i K a w) : wpOpIn (Fence.wide.inRound l) n P ops Q i K a w := by
  unfold wpOp at h
  unfold wpOpIn
  cases ho : ops[i]? with
  | none => rw [ho] at h; exact h
  | some o =>
    rw [ho] at h
    simp only at h ⊢
    split
    · rename_i hw
      rw [if_pos hw] at h
      rcases h with h | ⟨-, h⟩
      · refine ⟨fun _ _ => trivial, ?_⟩
        rw [show (Fence.wide.inRound l).round = some l from rfl, Oper.semAt_some l _ o (hd i o ho)]
        exact uponIn_of _ h
      · exact absurd h hQ
    · rename_i hw
      rw [if_neg hw] at h
      exact ⟨fun _ _ => trivial, h⟩
theorem wpAnyIn_of (hd : ∀ (i : Nat) (o : Oper), ops[i]? = some o → ∀ c, o.op ≠ .defer c) (hQ : ¬ LetsOut Q) : ∀ (k : Nat) (L : Array Bool) (a : Act) (w : World), wpAny P .any ops Q k L a w → wpAnyIn (Fence.wide.inRound l) n P .any ops Q k L a w
  | 0, _, _, _, h => h
  | k + 1, L, a, w, h => ⟨h.1, fun i hi => wpOpIn_mono (fun a w h' => wpAnyIn_of hd hQ k _ a w h') (wpOpIn_of hd hQ (h.2 i hi))⟩
def notDefer : Op → Bool
  | .defer _ => false
  | _ => true
theorem notDefer_spec (h : ops.all (fun o => notDefer o.op) = true) : ∀ (i : Nat) (o : Oper), ops[i]? = some o → ∀ c, o.op ≠ .defer c := fun i o ho c e => by
  rw [Array.all_eq_true'] at h
  have := h o (Array.mem_of_getElem? ho)
  rw [e] at this
  cases this
/-- THE RULE, in a round -/
theorem wpIn_region_script {id : Nat} {a : Act} {w : World} (F W : List Nat) (s : List Mv) (S : World → Prop) (hm : P.follows .mixedOrders = true) (hQ : ¬ LetsOut Q)
    (hc : (Region.noSelect ops && chk ops F W s (Array.replicate ops.size false) && s.all Mv.full && (s.map Mv.len).sum == ops.size && ops.all (fun o => notDefer o.op)) = true)
    (h : wpS P ops (Q .normal) (NoPanic Q) s S a w.drew) : (Code.region id ops true).wpIn (Fence.wide.inRound l) n P Q a w := by
  simp only [Bool.and_eq_true, beq_iff_eq] at hc
  obtain ⟨⟨⟨⟨h1, h2⟩, h3⟩, h4⟩, h5⟩ := hc
  have hQ' : ¬ LetsOut (NoPanic Q) := fun ⟨a, w, h⟩ => hQ ⟨a, w, NoPanic.imp _ _ _ h⟩
  refine wpIn_mono (wpIn_region_any hm (wpAnyIn_of (notDefer_spec h5) hQ' _ _ _ _ (wpAny_of_N (S := S) (F := F) (W := W) _ _ _ _ ?_))) (fun e a w h => NoPanic.imp e a w h)
  have h0 : need ops F W (Array.replicate ops.size false) = true → S w.drew := fun hn => by
    unfold need at hn
    obtain ⟨f, _, hf⟩ := List.any_eq_true.1 hn
    have : (Array.replicate ops.size false).getD f false = false := by
      rw [Array.getD_eq_getD_getElem?]
      by_cases hk : f < ops.size <;> simp [hk]
    rw [this] at hf
    cases hf
  have := script_all (P := P) (Q := NoPanic Q) h1 (fun _ _ _ c a v w h => h.elim) (fun a w h => h) s S _ a w.drew h2 h3 (closed_start _) h0 h
  rw [h4] at this
  exact this
end
end Go.Proofs.Ytnddaildicmneaa
/-
  slices.Chunk at bytes, of whole pieces: the iterator.
-/
namespace Go.Proofs.Ytnddaildicmneaa
open Go.Proofs Go.RowKit Go.Shelf

attribute [local go_sem] Oper.semAt_some

/-- the first `k` of the pieces' numbers -/
def firsts (n k : Nat) : List (Fin n) := (List.finRange n).take k
theorem firsts_succ {n k : Nat} (h : k < n) : firsts n (k + 1) = firsts n k ++ [⟨k, h⟩] := by
  unfold firsts
  rw [List.take_add_one]
  congr 1
  rw [List.getElem?_eq_getElem (by simpa using h)]
  simp
theorem firsts_len {n k : Nat} (h : k ≤ n) : (firsts n k).length = k := by simp [firsts, h]
theorem firsts_all (n : Nat) : firsts n n = List.finRange n := List.take_of_length_le (by simp)
def pieceV (b o z i : Nat) : Value := .slice (some ⟨b, o + i, none⟩) z z
/-- the two boxes of the iterator are as they were -/
def KpC (B1 B2 : Nat) (W W' : World) : Prop := W'.cell? ⟨B1, 0, none⟩ = W.cell? ⟨B1, 0, none⟩ ∧ W'.cell? ⟨B2, 0, none⟩ = W.cell? ⟨B2, 0, none⟩
theorem KpC.t {B1 B2 : Nat} {A B C : World} (h : KpC B1 B2 A B) (k : KpC B1 B2 B C) : KpC B1 B2 A C := ⟨k.1.trans h.1, k.2.trans h.2⟩

set_option maxRecDepth 100000 in
set_option maxHeartbeats 4000000 in
theorem chunk1_in (A : Option Addr) (m l B1 B2 b o c n z : Nat) (hA : 0 < n → A = some ⟨b, o, none⟩) (hz : 0 < z) (hnz : n * z ≤ 100000000) (J Jx : List (Fin n) → World → Prop)
    (hY : ∀ pre x W, J pre W → pre.length < n → YieldAt Fence.wide (m - 1) Try.prog l #[pieceV b o z (x.val * z)] W fun e W' =>
      (e = .returned (.bool true) ∧ J (pre ++ [x]) W' ∧ KpC B1 B2 W W') ∨ (e = .returned (.bool false) ∧ Jx (pre ++ [x]) W'))
    (W : World) (h1 : W.cell? ⟨B1, 0, none⟩ = some (.slice A (n * z) c)) (hc : n * z ≤ c) (hcm : c ≤ maxLen) (h2 : W.cell? ⟨B2, 0, none⟩ = some (.int .i64 z)) (h0 : J [] W) (hJd : ∀ pre W, J pre W → J pre W.drew) :
    CallsIn Fence.wide m Try.prog 82 #[.func (.yield l) #[] #[], .pointer (some ⟨B1, 0, none⟩), .pointer (some ⟨B2, 0, none⟩)] W fun e W' => (∃ v, e = .returned v) ∧
      ((∃ ys, ys = List.finRange n ∧ J ys W') ∨ (∃ pre, True ∧ Jx pre W')) := by
  refine callsIn_of_wp Try.func82 rfl trivial ?_ rfl
  simp only [Try.ntmps82, List.size_toArray, List.length_cons, List.length_nil, Nat.reduceAdd, Nat.reduceSub, Array.replicate_succ, Array.replicate_zero, List.push_toArray, List.append_toArray, List.nil_append, List.cons_append]
  obtain ⟨N, hN⟩ : ∃ N, N = n * z := ⟨_, rfl⟩
  rw [← hN] at h1 hc hnz
  unfold maxLen at hcm
  gi_wp2
  gi_loopw [4] (fun iv wr => ∃ k i : Nat, iv = .int .i64 i ∧ i = k * z ∧ k ≤ n ∧ J (firsts n k) wr ∧ wr.cell? ⟨B1, 0, none⟩ = some (.slice A N c) ∧ wr.cell? ⟨B2, 0, none⟩ = some (.int .i64 z))
    (fun iv _ => n * z - (intOf iv).toNat)
  case atStart => exact ⟨0, 0, rfl, by simp, Nat.zero_le _, h0, h1, h2⟩
  case round =>
    obtain ⟨k, i, rfl, hi, hk, hJs, g1, g2⟩ := hrel
    by_cases hlt : k < n
    · have hA' := hA (by omega)
      rw [hA'] at g1
      have HA' := Lib.hid hA'
      clear hA'
      have hiN : i + z ≤ N := by
        rw [hN, hi, ← Nat.succ_mul]
        exact Nat.mul_le_mul_right _ hlt
      have hlt1 : (i : Int) < N := by omega
      have hi0 : (0 : Int) ≤ (i : Int) := by omega
      have hle : (i : Int) ≤ (N : Int) := by omega
      have hle2 : i ≤ N := by omega
      have hci : ¬ c = i := by omega
      obtain ⟨M, hM⟩ : ∃ M, M = N - i := ⟨_, rfl⟩
      have hzM : z ≤ M := by omega
      have hzM2 : (z : Int) ≤ (M : Int) := by omega
      have hmin : min (z : Int) (M : Int) = z := by omega
      have hNc : (N : Int) ≤ (c : Int) := by omega
      have e1 : IntKind.i64.wrap ((i : Int) + z) = ((i + z : Nat) : Int) := by rw [IntWalk.i64_in _ (by omega)]; omega
      clear h1 h2
      have HN := Lib.hid hN
      have Hi := Lib.hid hi
      have HM := Lib.hid hM
      clear hN hi hM
      have hJd2 := hJd _ _ hJs
      have q1 : ∀ w', w' = wr.drew → w'.cell? ⟨B1, 0, none⟩ = some (.slice (some ⟨b, o, none⟩) N c) := fun w' e => by rw [e]; exact g1
      have q2 : ∀ w', w' = wr.drew → w'.cell? ⟨B2, 0, none⟩ = some (.int .i64 z) := fun w' e => by rw [e]; exact g2
      gi_wp2
      refine wpIn_wide.2 ?_
      refine wp_region_script [0, 1, 2, 3, 4, 5, 6] [0, 1] [.fs [0], .fs [1], .ps [2, 3, 4], .ps [5, 6]] (fun w' => w' = wr.drew) rfl (by kernel_rfl) ?_
      refine wpS_fs rfl (rfl) fun K hK => ?_
      simp only [List.map_cons, List.map_nil, Option.getD_some, List.getElem?_toArray, List.getElem?_cons_zero, List.getElem?_cons_succ]
      iterate 1 (first | (apply quietO_cons _ rfl; (intro w' hs; have c_0 := q2 w' hs; go_simp; rfl)) | apply quietO_skip rfl)
      refine hK _ ?_
      clear hK K
      simp only [Act.put, List.setIfInBounds_toArray, List.set_cons_zero, List.set_cons_succ]
      refine wpS_fs rfl (rfl) fun K hK => ?_
      simp only [List.map_cons, List.map_nil, Option.getD_some, List.getElem?_toArray, List.getElem?_cons_zero, List.getElem?_cons_succ]
      iterate 1 (first | (apply quietO_cons _ rfl; (intro w' hs; have c_0 := q1 w' hs; go_simp; rfl)) | apply quietO_skip rfl)
      refine hK _ ?_
      clear hK K
      simp only [Act.put, List.setIfInBounds_toArray, List.set_cons_zero, List.set_cons_succ]
      refine wpS_ps rfl fun K hK => ?_
      simp only [List.map_cons, List.map_nil, Option.getD_some, List.getElem?_toArray, List.getElem?_cons_zero, List.getElem?_cons_succ]
      iterate 3 (first | (apply quietO_cons _ rfl; (intro w' _; go_simp; rfl)) | apply quietO_skip rfl)
      refine hK _ ?_
      clear hK K
      simp only [Act.put, List.setIfInBounds_toArray, List.set_cons_zero, List.set_cons_succ]
      rw [← HM.out]
      refine wpS_ps rfl fun K hK => ?_
      simp only [List.map_cons, List.map_nil, Option.getD_some, List.getElem?_toArray, List.getElem?_cons_zero, List.getElem?_cons_succ]
      iterate 2 (first | (apply quietO_cons _ rfl; (intro w' _; go_simp; rfl)) | apply quietO_skip rfl)
      refine hK _ ?_
      clear hK K
      simp only [Act.put, List.setIfInBounds_toArray, List.set_cons_zero, List.set_cons_succ]
      refine wpS_nil ?_
      have hYi := hY _ ⟨k, hlt⟩ wr.drew hJd2 (by rw [firsts_len hk]; exact hlt)
      simp only at hYi
      rw [← Hi.out] at hYi
      obtain ⟨fn, tmps, assign, body, hy, hR⟩ := hYi
      unfold pieceV at hy
      clear q1 q2 hY
      gi_wp2
      refine ⟨(fun h => by cases h), hR.mono ?_⟩
      rintro e W3 (⟨rfl, hJ3, hk3⟩ | ⟨rfl, hJx3⟩)
      · have g1' := hk3.1.trans g1
        have g2' := hk3.2.trans g2
        clear hR hy g1 g2
        gi_wp2
        go_roundw
        case rel => exact ⟨k + 1, i + z, by simp, by rw [Hi.out, Nat.succ_mul], by omega, by rw [firsts_succ hlt]; exact hJ3, by rw [HA'.out]; exact g1', g2'⟩
        case measure =>
          have := HN.out
          simp [intOf]
          omega
      · clear hR hy
        gi_wp2
        refine bodyPost_ret (results_none rfl _ _ _) rfl ?_
        exact ⟨⟨_, rfl⟩, .inr ⟨_, trivial, hJx3⟩⟩
    · obtain rfl : k = n := by omega
      have hiI : ¬ (i : Int) < N := by rw [hN, hi]; omega
      clear h1 h2
      have HN := Lib.hid hN
      have Hi := Lib.hid hi
      clear hN hi
      gi_wp2
      go_end0
      exact ⟨⟨_, rfl⟩, .inl (by rw [← firsts_all]; exact hJs)⟩
theorem grownBy_drew (W : World) : W.grownBy W.drew none := ⟨rfl, rfl, rfl, Nat.le_refl _, fun _ _ _ => rfl⟩
theorem chunk_stopsA (A : Option Addr) (m B1 B2 b o c n z : Nat) (w : World) (hA : 0 < n → A = some ⟨b, o, none⟩) (hz : 0 < z) (hnz : n * z ≤ 100000000) (hc : n * z ≤ c) (hcm : c ≤ maxLen) (l1 : B1 < w.heap.size) (l2 : B2 < w.heap.size) (h1 : w.cell? ⟨B1, 0, none⟩ = some (.slice A (n * z) c)) (h2 : w.cell? ⟨B2, 0, none⟩ = some (.int .i64 z)) :
    SeqStopsK Fence.wide m Try.prog 82 #[.pointer (some ⟨B1, 0, none⟩), .pointer (some ⟨B2, 0, none⟩)] (fun x : Fin n => #[pieceV b o z (x.val * z)]) (KpC B1 B2) (fun ys => ys = List.finRange n) (fun _ => True) n w := fun l J Jx W hW hJ _ hY h0 =>
  chunk1_in A m l B1 B2 b o c n z hA hz hnz J Jx hY W ((hW.cell (p := ⟨B1, 0, none⟩) l1).trans h1) hc hcm ((hW.cell (p := ⟨B2, 0, none⟩) l2).trans h2) h0 (fun pre W' h => hJ pre W' W'.drew none h (grownBy_drew W') (fun r e => by cases e))
theorem chunk_stops (m B1 B2 b o c n z : Nat) (w : World) (hz : 0 < z) (hnz : n * z ≤ 100000000) (hc : n * z ≤ c) (hcm : c ≤ maxLen) (l1 : B1 < w.heap.size) (l2 : B2 < w.heap.size) (h1 : w.cell? ⟨B1, 0, none⟩ = some (.slice (some ⟨b, o, none⟩) (n * z) c)) (h2 : w.cell? ⟨B2, 0, none⟩ = some (.int .i64 z)) :
    SeqStopsK Fence.wide m Try.prog 82 #[.pointer (some ⟨B1, 0, none⟩), .pointer (some ⟨B2, 0, none⟩)] (fun x : Fin n => #[pieceV b o z (x.val * z)]) (KpC B1 B2) (fun ys => ys = List.finRange n) (fun _ => True) n w := 
  chunk_stopsA _ m B1 B2 b o c n z w (fun _ => rfl) hz hnz hc hcm l1 l2 h1 h2
set_option maxHeartbeats 1000000 in
theorem chunk_any (A : Option Addr) (N c z : Nat) (w : World) (hz : 0 < z) : Calls Try.prog 63 #[.slice A N c, .int .i64 z] w fun e w' =>
    e = .returned (.func (.func 82) #[] #[.pointer (some ⟨w.heap.size, 0, none⟩), .pointer (some ⟨w.heap.size + 1, 0, none⟩)]) ∧ w' = (w.alloc (.cells #[.slice A N c] 41)).alloc (.cells #[.int .i64 z] 3) := by
  have hz1 : ¬ (z : Int) < 1 := by omega
  go_enter Try.func63, Try.ntmps63
  go_wp2
  go_ret
  exact ⟨rfl, rfl⟩
end Go.Proofs.Ytnddaildicmneaa
/-
  disk: Of.
-/
namespace Go.Proofs.Ytnddaildicmneaa
open Go.Proofs Go.RowKit Go.Shelf

attribute [local go_sem] Oper.semAt_some

def pieceL (L : List UInt8) (z x : Nat) : List UInt8 := (L.drop x).take z
def ofD {n : Nat} (L : List UInt8) (z : Nat) (pre : List (Fin n)) : DiskV := ⟨z, pre.map (fun x => pieceL L z (x.val * z)), [], false, false, 0, [], 0⟩
theorem keepsFrom_of {B : Nat} {S : Nat → Prop} {W W' : World} (h : Keeps S W W') (hS : ∀ k, S k → ∃ cs T fr, W.heap[k]? = some (.cells cs T fr)) : KeepsFrom B W W' := ⟨h.size, fun k o _ hk ho => by
  by_cases hs : S k
  · obtain ⟨cs, T, fr, e⟩ := hS k hs
    rw [e] at hk
    injection hk with hk
    subst hk
    cases ho
  · exact (h.block k (Array.getElem?_eq_some_iff.1 hk).1 hs).trans hk⟩
/-- between two rounds -/
structure OfI {n : Nat} (w : World) (d b Bt B1 B2 : Nat) (L : List UInt8) (z : Nat) (pre : List (Fin n)) (W : World) (kv : Value) (ks : List SlV) : Prop where
  dat : DAt W d b kv (.slice none 0 0) ks [] (ofD L z pre)
  box : Blk W Bt 43 #[.pointer (some ⟨d, 0, none⟩)]
  own : ∀ k, kv.ownBlock = some k → w.heap.size ≤ k ∧ k ≠ Bt ∧ k ≠ B1 ∧ k ≠ B2
  kp : Keeps nowhere w W
  b1 : B1 < W.heap.size
  b2 : B2 < W.heap.size
section
variable {w W W' : World} {d b Bt B1 B2 : Nat} {L : List UInt8} {n z : Nat} {pre : List (Fin n)} {kv : Value} {ks : List SlV}
theorem OfI.turned (h : OfI w d b Bt B1 B2 L z pre W kv ks) {row : Option Nat} (hg : W.grownBy W' row) {B : Nat} (hbB : b < B) (hB : w.heap.size ≤ B) (hr : ∀ r, row = some r → B ≤ r ∧ ∃ o : Obj, W.heap[r]? = some o ∧ o.isCells = false) : OfI w d b Bt B1 B2 L z pre W' kv ks := by
  have hk : Keeps (fun k => row = some k) W W' := (Keeps.refl _ W).grown hg (fun _ h _ => h)
  have hno : ∀ {k : Nat} {T : TypeId} {cs : Array Value}, Blk W k T cs → row ≠ some k := fun hb e => by
    obtain ⟨-, o, ho, hc⟩ := hr _ e
    unfold Blk at hb
    rw [hb] at ho
    injection ho with ho
    rw [← ho] at hc
    cases hc
  refine ⟨h.dat.keepAll hk ?_ ?_, h.box.keep hk (hno h.box), h.own, h.kp.trans hk (fun k hk e => by have := (hr k e).1; omega), Nat.lt_of_lt_of_le h.b1 hg.size, Nat.lt_of_lt_of_le h.b2 hg.size⟩
  · rintro k (e | e | e) e2
    · subst e; exact hno h.dat.box e2
    · subst e; have := (hr k e2).1; omega
    · rcases h.dat.kept.blk with ⟨rfl, -⟩ | ⟨b2, c2, rest, rfl, hb2, -⟩
      · simp [Value.ownBlock] at e
      · simp only [Value.ownBlock, Option.some.injEq] at e
        subst e
        exact hno hb2 e2
  · intro k e cs T fr hh
    obtain ⟨-, o, ho, hc⟩ := hr k e
    rw [hh] at ho
    injection ho with ho
    rw [← ho] at hc
    cases hc
end
theorem rdB_piece {w : World} {b o N c : Nat} {g : Option Nat} {L : List UInt8} (h : recB.Rd w (.slice (some ⟨b, o, none⟩) N c) g L) {x z : Nat} (hx : x + z ≤ L.length) (hz : 0 < z) : recB.Rd w (.slice (some ⟨b, o + x, none⟩) z z) g (pieceL L z x) ∧ (pieceL L z x).length = z := by
  have hl : (pieceL L z x).length = z := by unfold pieceL; rw [List.length_take, List.length_drop]; omega
  obtain ⟨A, cap, hv, h1, h2, hu, h3, h4⟩ := h
  injection hv with hA _ _
  subst hA
  obtain ⟨b', o', hA, hg, hc⟩ := h3 (by omega)
  injection hA with hA
  injection hA with e1 e2
  subst e1 e2
  refine ⟨⟨some ⟨b, o + x, none⟩, z, by rw [hl], by rw [hl]; exact Nat.le_refl _, by omega, hu, fun _ => ⟨b, o + x, rfl, hg, fun i t hi => ?_⟩, fun h => by cases h⟩, hl⟩
  have hi2 : L[x + i]? = some t := by
    unfold pieceL at hi
    rw [List.getElem?_take] at hi
    split at hi
    · rwa [List.getElem?_drop] at hi
    · cases hi
  have := hc (x + i) t hi2
  rw [show (x + i) * recB.n = x + i from Nat.mul_one _] at this
  rw [show i * recB.n = i from Nat.mul_one _, Nat.add_assoc]
  exact this
set_option maxRecDepth 100000 in
set_option maxHeartbeats 8000000 in
theorem dof_ok (b o c n z : Nat) (g : Option Nat) (L : List UInt8) (w : World) (hr : recB.Rd w (.slice (some ⟨b, o, none⟩) (n * z) c) g L) (hn : 1 ≤ n) (hz1 : 64 ≤ z) (hz2 : z ≤ 1024) (hnz : n * z ≤ 1000000) :
    Calls Try.prog 35 #[.slice (some ⟨b, o, none⟩) (n * z) c, .int .i64 z] w fun e w' => ∃ r, e = .returned (.tuple #[r, .int .i64 0]) ∧ NewD w (ofD L z (List.finRange n)) r w' := by
  obtain ⟨N, hN⟩ : ∃ N, N = n * z := ⟨_, rfl⟩
  have hn16 : n ≤ 16384 := by
    have : n * 64 ≤ n * z := Nat.mul_le_mul_left _ hz1
    omega
  have hrem : Int.tmod (N : Int) (z : Int) = 0 := by rw [hN, Int.tmod_eq_emod_of_nonneg (by omega)]; simp
  have hdiv : Int.tdiv (N : Int) (z : Int) = n := by rw [hN, Int.tdiv_eq_ediv_of_nonneg (by omega)]; push_cast; exact Int.mul_ediv_cancel _ (by omega)
  have hw1 : IntKind.i64.wrap (0 : Int) = 0 := rfl
  have hw2 : IntKind.i64.wrap (n : Int) = n := IntWalk.i64_in _ (by omega)
  have hz0 : ((z : Int) == 0) = false := by simp; omega
  have hz00 : ¬ (z : Int) = 0 := by omega
  have hzl : ¬ (z : Int) < 64 := by omega
  have hzg : ¬ (1024 : Int) < (z : Int) := by omega
  have hright := right_any (n : Int) (z : Int) w
  rw [show (decide ((1 : Int) ≤ (n : Int)) && decide ((n : Int) ≤ 16384) && decide ((64 : Int) ≤ (z : Int)) && decide ((z : Int) ≤ 1024)) = true by simp; omega] at hright
  have hmm := @run_makeMap Try.prog
  rw [← hN] at hr ⊢
  obtain ⟨A', c', hv, hNc, hcm, -⟩ := id hr
  injection hv with hA hNL hcc
  subst hA hcc
  rw [← hNL] at hNc
  obtain ⟨w1, hw1'⟩ : ∃ w1, w1 = ((w.alloc (.map #[] 0)).alloc (.cells #[.int .i64 (z : Int), .slice none 0 0, .map (some w.heap.size), .bool false, .bool false, .int .i64 0, .slice none 0 0, .int .i64 0] 97)) := ⟨_, rfl⟩
  have hS := dnew_start w z w1 hw1'
  have hkw1 : Keeps nowhere w w1 := by rw [hw1']; exact ((Keeps.refl nowhere w).alloc _).alloc _
  have hs1 : w1.heap.size = w.heap.size + 2 := by rw [hw1']; simp
  have hchunk := chunk_any (some ⟨b, o, none⟩) N c z (w1.alloc (.cells #[.pointer (some ⟨w.heap.size + 1, 0, none⟩)] 43)) (by omega)
  have Hr := Lib.hid hr
  have HN := Lib.hid hN
  have Hright := Lib.hid hright
  have HS := Lib.hid hS
  have Hkw1 := Lib.hid hkw1
  have HNL := Lib.hid hNL
  have Hchunk := Lib.hid hchunk
  have Hw1' := Lib.hid hw1'
  have Hs1 := Lib.hid hs1
  clear hr hN hright hS hkw1 hNL hchunk hw1' hs1
  refine (callsIn_wide (n := 9)).1 (callsIn_of_wp_marks Try.func35 rfl trivial ?_ rfl)
  refine wpIn_wide.2 ?_
  simp only [Try.ntmps35, List.size_toArray, List.length_cons, List.length_nil, Nat.reduceAdd, Nat.reduceSub, Array.replicate_succ, Array.replicate_zero, List.push_toArray, List.append_toArray, List.nil_append, List.cons_append]
  go_wp2_with fail
  refine Hright.out.mono ?_
  rintro e w' ⟨rfl, rfl⟩
  go_upto_region 4 with fail
  rw [← Hw1'.out]
  try simp only [Hs1.out]
  go_wp2_with fail
  refine Hchunk.out.mono ?_
  rintro e w' ⟨rfl, rfl⟩
  go_wp2_with fail
  obtain ⟨d, hd⟩ : ∃ d, d = w.heap.size + 1 := ⟨_, rfl⟩
  obtain ⟨b0, hb0⟩ : ∃ b0, b0 = w.heap.size := ⟨_, rfl⟩
  obtain ⟨Bt, hBt⟩ : ∃ B, B = w.heap.size + 1 + 1 := ⟨_, rfl⟩
  obtain ⟨B1, hB1⟩ : ∃ B, B = w1.heap.size + 1 := ⟨_, rfl⟩
  obtain ⟨B2, hB2⟩ : ∃ B, B = w1.heap.size + 1 + 1 := ⟨_, rfl⟩
  obtain ⟨w2, hw2⟩ : ∃ w2, w2 = ((w1.alloc (.cells #[.pointer (some ⟨w.heap.size + 1, 0, none⟩)] 43)).alloc (.cells #[.slice (some ⟨b, o, none⟩) N c] 41)).alloc (.cells #[.int .i64 z] 3) := ⟨_, rfl⟩
  have hs2 : w2.heap.size = w1.heap.size + 3 := by rw [hw2]; simp
  have hk12 : Keeps nowhere w1 w2 := by rw [hw2]; exact (((Keeps.refl nowhere w1).alloc _).alloc _).alloc _
  have x1 : w2.cell? ⟨B1, 0, none⟩ = some (.slice (some ⟨b, o, none⟩) N c) := by
    have h1 := (Blk.new (w1.alloc (.cells #[.pointer (some ⟨w.heap.size + 1, 0, none⟩)] 43)) 41 #[.slice (some ⟨b, o, none⟩) N c]).alloc (.cells #[.int .i64 z] 3)
    rw [← hw2] at h1
    have := h1.cell 0
    rw [World.size_alloc, ← hB1] at this
    simpa using this
  have x2 : w2.cell? ⟨B2, 0, none⟩ = some (.int .i64 z) := by
    have h1 := Blk.new ((w1.alloc (.cells #[.pointer (some ⟨w.heap.size + 1, 0, none⟩)] 43)).alloc (.cells #[.slice (some ⟨b, o, none⟩) N c] 41)) 3 #[.int .i64 z]
    rw [← hw2] at h1
    have := h1.cell 0
    rw [World.size_alloc, World.size_alloc, ← hB2] at this
    simpa using this
  have hbx : Blk w2 Bt 43 #[.pointer (some ⟨d, 0, none⟩)] := by
    have h1 := ((Blk.new w1 43 #[.pointer (some ⟨w.heap.size + 1, 0, none⟩)]).alloc (.cells #[.slice (some ⟨b, o, none⟩) N c] 41)).alloc (.cells #[.int .i64 z] 3)
    rw [← hw2, Hs1.out] at h1
    rw [hd, hBt]; exact h1
  have hI0 : ∃ kv ks, OfI (n := n) w d b0 Bt B1 B2 L z [] w2 kv ks := ⟨.slice none 0 0, [], by rw [hd, hb0]; exact HS.out.same hk12, hbx, fun k h => by simp [Value.ownBlock] at h, Hkw1.out.more hk12, by have := Hs1.out; omega, by have := Hs1.out; omega⟩
  have Hsz := Lib.hid hs2
  rw [← hw2]
  simp only [← hBt]
  simp only [← hd]
  simp only [← hB2]
  simp only [← hB1]
  simp only [← hb0]
  clear hw2 hs2 Hchunk Hright Hw1' HS hmm
  have HI0 := Lib.hid hI0
  have Hbx := Lib.hid hbx
  have X1 := Lib.hid x1
  have X2 := Lib.hid x2
  have Hk12 := Lib.hid hk12
  have Hd := Lib.hid hd
  have Hb0 := Lib.hid hb0
  have HBt := Lib.hid hBt
  have HB1 := Lib.hid hB1
  have HB2 := Lib.hid hB2
  clear hI0 hbx x1 x2 hk12 hd hb0 hBt hB1 hB2
  refine (wpIn_wide (n := 8)).1 ?_
  refine wpIn_rangeFunc_ownG (α := Fin n) rfl (by omega) (gf := 82) (lb := #[.pointer (some ⟨B1, 0, none⟩), .pointer (some ⟨B2, 0, none⟩)]) rfl trivial (enters_of Try.func82 (by kernel_rfl) rfl)
    (chunk_stops (8 - 1) B1 B2 b o c n z w2 (by omega) (by omega) (by rw [← HN.out]; exact hNc) hcm (by have := Hsz.out; have := HB1.out; omega) (by have := Hsz.out; have := HB2.out; omega) (by rw [← HN.out]; exact X1.out) X2.out) KpC.t ?kb (Below.refl _ _) (fun _ => rfl)
    (fun pre W => ∃ kv ks, OfI w d b0 Bt B1 B2 L z pre W kv ks) (fun _ _ _ => False) ?own (fun _ _ _ _ _ h _ _ => h) HI0.out ?act ?assign ?body ?done ?stop
  case kb =>
    intro W l o o' hl ho _ _
    have e1 : B1 ≠ l := by have := Hsz.out; have := HB1.out; omega
    have e2 : B2 ≠ l := by have := Hsz.out; have := HB2.out; omega
    exact ⟨World.cell?_of_block (World.putObj_heap_other e1), World.cell?_of_block (World.putObj_heap_other e2)⟩
  case own =>
    rintro pre W W' row ⟨kv, ks, h⟩ hg hr
    exact ⟨kv, ks, h.turned hg (B := w2.heap.size) (by have := Hsz.out; have := Hs1.out; have := Hb0.out; omega) (by have := Hsz.out; have := Hs1.out; omega) hr⟩
  case assign =>
    intro l x W K hK
    gi_wp2
    exact hK
  case stop =>
    rintro D c pre W hD hS h
    exact h.elim
  case body =>
    rintro l pre x W ⟨kv, ks, h⟩ hlen
    have hLN : L.length = N := HNL.out.symm
    have hxz : x.val * z + z ≤ N := by
      rw [HN.out, ← Nat.succ_mul]
      exact Nat.mul_le_mul_right _ x.isLt
    obtain ⟨i, hi⟩ : ∃ i, i = x.val * z := ⟨_, rfl⟩
    rw [← hi] at hxz
    have hkd := (Keeps.refl nowhere W).drew
    obtain ⟨hpr, hpl⟩ := rdB_piece (Hr.out.same (h.kp.more hkd)) (x := i) (z := z) (by omega) (by omega)
    have hc := clB_any _ _ _ W.drew hpr (by omega)
    rw [show Value.slice (some ⟨b, o + i, none⟩) z z = pieceV b o z i from rfl] at hc
    obtain ⟨A1, c1, hkv, -⟩ := h.dat.kept.form
    have hkl : ks.length = pre.length := by rw [h.dat.klen]; simp [ofD]
    rw [hkl] at hkv
    subst hkv
    obtain ⟨S, hS⟩ : ∃ S : World → Prop, ∀ w', S w' ↔ (w'.cell? ⟨Bt, 0, none⟩ = some (.pointer (some ⟨d, 0, none⟩)) ∧ w'.cell? ⟨d, 1, none⟩ = some (.slice A1 pre.length c1)) := ⟨_, fun _ => Iff.rfl⟩
    have q1 : ∀ w', S w' → w'.cell? ⟨Bt, 0, none⟩ = some (.pointer (some ⟨d, 0, none⟩)) := fun w' h => ((hS w').1 h).1
    have q2 : ∀ w', S w' → w'.cell? ⟨d, 1, none⟩ = some (.slice A1 pre.length c1) := fun w' h => ((hS w').1 h).2
    have hSk : ∀ (w' : World) (S' : Nat → Prop), Keeps S' W w' → ¬ S' Bt → ¬ S' d → S w'   := fun w' S' hk n1 n2 => (hS _).2 ⟨by have := (h.box.keep hk n1).cell 0; simpa using this, by have := (h.dat.box.keep hk n2).cell 1; simpa [ofD] using this⟩
    have s0 : S W.drew := hSk _ _ hkd (fun h => h) (fun h => h)
    rw [← hi]
    clear hpr hS
    have H := Lib.hid h
    have HLN := Lib.hid hLN
    have Hi := Lib.hid hi
    have Hpl := Lib.hid hpl
    have Hc := Lib.hid hc
    have Hkl := Lib.hid hkl
    have HSk := Lib.hid hSk
    clear h hLN hi hpl hc hkl hSk
    refine wpIn_block ?_
    refine wpIn_region_script [0, 1, 2, 3, 4, 5, 9, 10] [0, 1, 4] [.fs [0], .fs [1], .ps [2, 3], .fs [4], .ps [5], .es [6] true, .es [7] true, .es [8] true, .ps [9, 10], .es [11] false] S rfl (by rintro ⟨a, w, h⟩; exact h) (by kernel_rfl) ?_
    refine wpS_fs rfl (s0) fun K hK => ?_
    simp only [List.map_cons, List.map_nil, Option.getD_some, List.getElem?_toArray, List.getElem?_cons_zero, List.getElem?_cons_succ]
    iterate 1 (first | (apply quietO_cons _ rfl; (intro w' hs; have c_0 := q1 w' hs; go_simp; rfl)) | apply quietO_skip rfl)
    refine hK _ ?_
    clear hK K
    simp only [Act.put, List.setIfInBounds_toArray, List.set_cons_zero, List.set_cons_succ]
    refine wpS_fs rfl (s0) fun K hK => ?_
    simp only [List.map_cons, List.map_nil, Option.getD_some, List.getElem?_toArray, List.getElem?_cons_zero, List.getElem?_cons_succ]
    iterate 1 (first | (apply quietO_cons _ rfl; (intro w' hs; have c_0 := q1 w' hs; go_simp; rfl)) | apply quietO_skip rfl)
    refine hK _ ?_
    clear hK K
    simp only [Act.put, List.setIfInBounds_toArray, List.set_cons_zero, List.set_cons_succ]
    refine wpS_ps rfl fun K hK => ?_
    simp only [List.map_cons, List.map_nil, Option.getD_some, List.getElem?_toArray, List.getElem?_cons_zero, List.getElem?_cons_succ]
    iterate 2 (first | (apply quietO_cons _ rfl; (intro w' _; go_simp; rfl)) | apply quietO_skip rfl)
    refine hK _ ?_
    clear hK K
    simp only [Act.put, List.setIfInBounds_toArray, List.set_cons_zero, List.set_cons_succ]
    refine wpS_fs rfl (s0) fun K hK => ?_
    simp only [List.map_cons, List.map_nil, Option.getD_some, List.getElem?_toArray, List.getElem?_cons_zero, List.getElem?_cons_succ]
    iterate 1 (first | (apply quietO_cons _ rfl; (intro w' hs; have c_0 := q2 w' hs; go_simp; rfl)) | apply quietO_skip rfl)
    refine hK _ ?_
    clear hK K
    simp only [Act.put, List.setIfInBounds_toArray, List.set_cons_zero, List.set_cons_succ]
    refine wpS_ps rfl fun K hK => ?_
    simp only [List.map_cons, List.map_nil, Option.getD_some, List.getElem?_toArray, List.getElem?_cons_zero, List.getElem?_cons_succ]
    iterate 1 (first | (apply quietO_cons _ rfl; (intro w' _; go_simp; rfl)) | apply quietO_skip rfl)
    refine hK _ ?_
    clear hK K
    simp only [Act.put, List.setIfInBounds_toArray, List.set_cons_zero, List.set_cons_succ]
    refine wpS_es rfl fun K hK => ?_
    have HK := Lib.hid hK
    clear hK
    simp only [List.map_cons, List.map_nil, Option.getD_some, List.getElem?_toArray, List.getElem?_cons_zero, List.getElem?_cons_succ]
    go_wp2_with fail
    refine Hc.out.mono ?_
    rintro e w3 ⟨v3, rfl, hrow3, hab3, hk3⟩
    have hkW3 := hkd.more hk3
    obtain ⟨A3, c3, hv3, -⟩ := hrow3.form
    rw [Hpl.out] at hv3
    subst hv3
    have s3 := HSk.out w3 _ hkW3 (fun h => h) (fun h => h)
    clear Hc hk3
    have Hrow3 := Lib.hid hrow3
    have Hab3 := Lib.hid hab3
    have HkW3 := Lib.hid hkW3
    clear hrow3 hab3 hkW3
    go_wp2_with fail
    refine HK.out _ _ (fun _ => s3) ?_
    clear HK K
    refine wpS_es rfl fun K hK => ?_
    have HK := Lib.hid hK
    clear hK
    simp only [List.map_cons, List.map_nil, Option.getD_some, List.getElem?_toArray, List.getElem?_cons_zero, List.getElem?_cons_succ]
    refine RecT.wpList_buildOne (R := recS) Try.underlying95 infoS (by decide) rfl (.tmp 44) rfl _ rfl ((A3, z, c3) : SlV) rfl ?_
    have hk4 := HkW3.out.alloc (.cells (recS.cs ((A3, z, c3) : SlV)).toArray recS.t)
    have hk34 := (Keeps.refl nowhere w3).alloc (.cells (recS.cs ((A3, z, c3) : SlV)).toArray recS.t)
    have hrd := RecT.Rd.one recS w3 ((A3, z, c3) : SlV)
    obtain ⟨w4, hw4⟩ : ∃ w4, w4 = w3.alloc (.cells (recS.cs ((A3, z, c3) : SlV)).toArray recS.t) := ⟨_, rfl⟩
    obtain ⟨q2', hq2⟩ : ∃ q2, q2 = w3.heap.size := ⟨_, rfl⟩
    rw [← hw4] at hk4 hk34 hrd ⊢
    simp only [← hq2] at hrd ⊢
    have hD4 := H.out.dat.same hk4
    have hs4 := Hrow3.out.same hk34
    have s4 := HSk.out w4 _ hk4 (fun h => h) (fun h => h)
    have hlb : ks.length + ([((A3, z, c3) : SlV)] : List SlV).length ≤ 100000000 := by have := Hkl.out; simp; omega
    clear hk34
    have Hrd := Lib.hid hrd
    have Hw4 := Lib.hid hw4
    have Hq2 := Lib.hid hq2
    have HD4 := Lib.hid hD4
    have Hs4 := Lib.hid hs4
    have Hlb := Lib.hid hlb
    have Hk4 := Lib.hid hk4
    clear hrd hw4 hq2 hD4 hs4 hlb hk4
    go_wp2_with fail
    refine HK.out _ _ (fun _ => s4) ?_
    clear HK K
    refine wpS_es rfl fun K hK => ?_
    have HK := Lib.hid hK
    clear hK
    simp only [List.map_cons, List.map_nil, Option.getD_some, List.getElem?_toArray, List.getElem?_cons_zero, List.getElem?_cons_succ]
    go_wp2_with (at_builtin; go_must (refine RecT.wpList_append (R := recS) Try.underlying95 infoS rfl (by decide) rfl (.tmp 42) (.tmp 45) rfl _ ks rfl HD4.out.kept _ _ [((A3, z, c3) : SlV)] rfl Hrd.out Hlb.out ?_))
    intro v5 w5 hrow5 hk5 hf5
    obtain ⟨hD6, hk6, ⟨u, cu⟩, fu⟩ := HD4.out.sector hk5 hrow5 (s := ((A3, z, c3) : SlV)) (L := pieceL L z i) (Hs4.out.keep hk5 (fun bb e hs => row_raw Hs4.out (.inl rfl) (HD4.out.notRaw _ (.inr (.inr hs))) e)) (by simp [ofD, Hpl.out])
    have hd1 : w2.heap.size = w.heap.size + 5 := by have := Hsz.out; have := Hs1.out; omega
    have hWs := H.out.kp.size
    have hnd : Value.ownBlock (.slice A1 pre.length c1) ≠ some d := own_blk_ne H.out.dat.kept H.out.dat.box (by decide)
    have s5 := HSk.out w5 (fun k => Value.ownBlock (.slice A1 pre.length c1) = some k) ((Hk4.out.mono (fun _ _ h => h.elim)).trans hk5 (fun _ _ h => h)) (fun e => (H.out.own _ e).2.1 rfl) hnd
    have hBl := H.out.box.lt
    have hab5 : ∀ k, v5.ownBlock = some k → w.heap.size ≤ k ∧ k ≠ Bt ∧ k ≠ B1 ∧ k ≠ B2 := fun k e => by
      rcases hf5 k e with h | h
      · exact H.out.own k h
      · have h1 := Hk4.out.size
        have h2 := H.out.b1
        have h3 := H.out.b2
        have h4 := H.out.kp.size
        exact ⟨by omega, by omega, by omega, by omega⟩
    obtain ⟨A5, c5, hv5, -⟩ := hrow5.form
    generalize hN5 : (ks ++ [((A3, z, c3) : SlV)]).length = N5 at hv5
    subst hv5
    obtain ⟨w6, hw6⟩ : ∃ w6, w6 = w5.setCell ⟨d, 1, none⟩ (.slice A5 N5 c5) := ⟨_, rfl⟩
    rw [← hw6] at hD6 hk6
    have hkW6 : Keeps (fun k => k = d ∨ Value.ownBlock (.slice A1 pre.length c1) = some k) W w6 := (Hk4.out.mono (fun _ _ h => h.elim)).trans hk6 (fun _ _ h => h)
    have hfin : KeepsFrom w2.heap.size W w6 ∧ KpC B1 B2 W w6 ∧ ∃ kv ks, OfI w d b0 Bt B1 B2 L z (pre ++ [x]) w6 kv ks := by
      refine ⟨keepsFrom_of hkW6 ?_, ⟨hkW6.cell (p := ⟨B1, 0, none⟩) H.out.b1 ?_, hkW6.cell (p := ⟨B2, 0, none⟩) H.out.b2 ?_⟩, .slice A5 N5 c5, ks ++ [((A3, z, c3) : SlV)], ⟨?_, H.out.box.keep hkW6 ?_, hab5, H.out.kp.trans hkW6 ?_, Nat.lt_of_lt_of_le H.out.b1 hkW6.size, Nat.lt_of_lt_of_le H.out.b2 hkW6.size⟩⟩
      · rintro k (e | e)
        · subst e
          exact ⟨_, _, _, H.out.dat.box⟩
        · rcases H.out.dat.kept.blk with ⟨hv0, -⟩ | ⟨b2', c2', rest, hv0, hb2, -⟩
          · rw [hv0] at e; simp [Value.ownBlock] at e
          · rw [hv0] at e
            simp only [Value.ownBlock, Option.some.injEq] at e
            subst e
            exact ⟨_, _, _, hb2⟩
      · rintro (e | e)
        · have := Hd.out; have := HB1.out; have := Hs1.out; simp at e; omega
        · exact (H.out.own _ e).2.2.1 rfl
      · rintro (e | e)
        · have := Hd.out; have := HB2.out; have := Hs1.out; simp at e; omega
        · exact (H.out.own _ e).2.2.2 rfl
      · have e : ofD L z (pre ++ [x]) = ⟨(ofD L z pre).size, (ofD L z pre).kept ++ [pieceL L z i], (ofD L z pre).pend, (ofD L z pre).off, (ofD L z pre).armed, (ofD L z pre).left, (ofD L z pre).keep, (ofD L z pre).writes⟩ := by simp [ofD, Hi.out]
        rw [e]
        exact hD6
      · rintro (e | e)
        · have := Hd.out; have := HBt.out; omega
        · exact (H.out.own _ e).2.1 rfl
      · rintro k hk (e | e)
        · have := Hd.out; omega
        · have := (H.out.own k e).1; omega
    clear hD6 hk6 hkW6 hrow5 hk5 hf5 hab5 hN5
    have Hfin := Lib.hid hfin
    have Hw6 := Lib.hid hw6
    clear hfin hw6
    go_wp2_with fail
    refine HK.out _ _ (fun _ => s5) ?_
    clear HK K
    refine wpS_ps rfl fun K hK => ?_
    simp only [List.map_cons, List.map_nil, Option.getD_some, List.getElem?_toArray, List.getElem?_cons_zero, List.getElem?_cons_succ]
    iterate 2 (first | (apply quietO_cons _ rfl; (intro w' _; go_simp; rfl)) | apply quietO_skip rfl)
    refine hK _ ?_
    clear hK K
    simp only [Act.put, List.setIfInBounds_toArray, List.set_cons_zero, List.set_cons_succ]
    refine wpS_es rfl fun K hK => ?_
    have HK := Lib.hid hK
    clear hK
    simp only [List.map_cons, List.map_nil, Option.getD_some, List.getElem?_toArray, List.getElem?_cons_zero, List.getElem?_cons_succ]
    go_wp2_with fail
    rw [← Hw6.out]
    go_wp2_with fail
    refine HK.out _ _ (fun h => by cases h) ?_
    clear HK K
    exact Hfin.out
  case done =>
    rintro D xs W hD rfl ⟨kv, ks, h⟩ hKD
    have y0 := h.box.cell 0
    simp at y0
    have hF : ∀ k, DS d b0 kv k → w.heap.size ≤ k := by
      rintro k (e | e | e)
      · have := Hd.out; omega
      · have := Hb0.out; omega
      · exact (h.own k e).1
    have hDb : d < D ∧ b0 < D := by have := Hsz.out; have := Hs1.out; have := Hd.out; have := Hb0.out; omega
    have hturn : OfI w d b0 Bt B1 B2 L z (List.finRange n) (W.putObj D (.deferred none)) kv ks := h.turned (grownBy_putObj' W D (.deferred none)) (B := w2.heap.size) (by have := Hsz.out; have := Hs1.out; have := Hb0.out; omega) (by have := Hsz.out; have := Hs1.out; omega) (fun r e => by cases e; exact ⟨hD, _, hKD, rfl⟩)
    have hnew : NewD w (ofD L z (List.finRange n)) (.pointer (some ⟨d, 0, none⟩)) (W.putObj D (.deferred none)) := ⟨d, b0, kv, _, ks, [], rfl, hturn.dat, hF, hturn.kp⟩
    clear h hturn hF
    have Hnew := Lib.hid hnew
    clear hnew
    (try simp only [Exit.inBlock, Exit.then])
    go_wp2_with fail
    refine ⟨by simp, .inl ⟨_, _, rfl, run_takeDeferred hKD, ?_⟩⟩
    exact ⟨_, results_tmp2 rfl _ _ _, _, rfl, Hnew.out⟩
end Go.Proofs.Ytnddaildicmneaa
/-
  disk: the power goes at the armed write.
-/
namespace Go.Proofs.Ytnddaildicmneaa
open Go.Proofs Go.RowKit Go.Sort Go.Maps

theorem dok_cut {D : DiskV} (h1 : D.size ≤ 1000000) (h2 : D.kept.length ≤ 1000000) (h3 : D.kept.length * D.size ≤ 100000000) (h4 : D.writes < 900000000) (keep : List Bool) : DOk (D.cut keep) := by
  have hl : (D.cut keep).kept.length = D.kept.length := settleN_len _ _ _ _
  exact ⟨by simp [DiskV.cut], h1, by rw [hl]; exact h2, by rw [hl]; exact h3, h4, (fun h => by cases h), by simp [DiskV.cut]⟩
theorem DOk.lessCut {D : DiskV} (ok : DOk D) (keep : List Bool) : DOk (D.less.cut keep) := dok_cut (D := D.less) ok.size ok.kept ok.all ok.writes keep
theorem DOk.cut {D : DiskV} (ok : DOk D) (keep : List Bool) : DOk (D.cut keep) := dok_cut ok.size ok.kept ok.all ok.writes keep
def armD (k : Nat) : Nat → DiskV
  | 0 => (freshD 4 64).arm (k : Int) []
  | j + 1 => ((armD k j).write 1 (zerosB 64)).2
theorem armD_low (k : Nat) (hk : k ≤ 30) : ∀ j, j < max k 1 → armD k j = ⟨64, List.replicate 4 (zerosB 64), List.replicate j (1, zerosB 64), false, true, (max k 1 : Nat) - j, [], j⟩
  | 0, _ => by simp [armD, freshD, DiskV.arm]; omega
  | j + 1, h => by
    have ih := armD_low k hk j (by omega)
    have hc : (0 : Int) ≤ 1 ∧ (1 : Int) < ((List.replicate 4 (zerosB 64)).length : Nat) ∧ (zerosB 64).length = 64 := by decide
    have hl : ¬ ((max k 1 : Nat) : Int) - j ≤ 1 := by omega
    rw [armD, ih]
    unfold DiskV.write
    simp only [Bool.false_eq_true, if_false, hc, and_self, if_true, hl]
    simp [DiskV.less, DiskV.wrote, List.replicate_succ']
    omega
theorem armD_e (k : Nat) (hk : k ≤ 30) (j : Nat) (h : j < max k 1) : ((armD k j).write 1 (zerosB 64)).1 = if j + 1 < max k 1 then 0 else 22 := by
  rw [armD_low k hk j h]
  have hc : (0 : Int) ≤ 1 ∧ (1 : Int) < ((List.replicate 4 (zerosB 64)).length : Nat) ∧ (zerosB 64).length = 64 := by decide
  unfold DiskV.write
  simp only [Bool.false_eq_true, if_false, hc, and_self, if_true]
  by_cases h2 : j + 1 < max k 1
  · rw [if_pos h2, if_neg (by omega)]
  · rw [if_neg h2, if_pos (by omega)]
/-- behind it: the power is off -/
structure Dead (K : Nat) (D : DiskV) : Prop where
  off : D.off = true
  writes : D.writes = K - 1
  ok : DOk D
theorem armD_high (k : Nat) (hk : k ≤ 30) : ∀ j, max k 1 ≤ j → Dead (max k 1) (armD k j)
  | 0, h => by omega
  | j + 1, h => by
    by_cases hj : max k 1 ≤ j
    · have ih := armD_high k hk j hj
      rw [armD]
      unfold DiskV.write
      rw [if_pos ih.off]
      exact ih
    · have hc : (0 : Int) ≤ 1 ∧ (1 : Int) < ((List.replicate 4 (zerosB 64)).length : Nat) ∧ (zerosB 64).length = 64 := by decide
      have hl : ((max k 1 : Nat) : Int) - j ≤ 1 := by omega
      rw [armD, armD_low k hk j (by omega)]
      unfold DiskV.write
      simp only [Bool.false_eq_true, if_false, hc, and_self, if_true, hl]
      exact ⟨rfl, by show j = _; omega, dok_cut (by show 64 ≤ _; omega) (by show (List.replicate 4 (zerosB 64)).length ≤ _; simp) (by show (List.replicate 4 (zerosB 64)).length * 64 ≤ _; simp) (by show j < _; omega) _⟩
theorem armD_ok (k : Nat) (hk : k ≤ 30) (j : Nat) : DOk (armD k j) := by
  by_cases h : j < max k 1
  · rw [armD_low k hk j h]
    exact ⟨by simp; omega, by simp, by simp, by simp, by simp; omega, fun _ => by simp; omega, by simp⟩
  · exact (armD_high k hk j (by omega)).ok
theorem armD_e2 (k : Nat) (hk : k ≤ 30) (j : Nat) : ((armD k j).write 1 (zerosB 64)).1 = if j + 1 < max k 1 then 0 else 22 := by
  by_cases h : j < max k 1
  · exact armD_e k hk j h
  · rw [if_neg (by omega)]
    unfold DiskV.write
    rw [if_pos (armD_high k hk j (by omega)).off]
set_option maxRecDepth 20000 in
set_option maxHeartbeats 4000000 in
theorem darms_any (n : Nat) (w : World) (hn : n < 256) : Calls Try.prog 6 #[.int .u8 n] w (YesD w) := by
  have hkn := known7 w
  obtain ⟨k, hk⟩ : ∃ k, k = n % 30 := ⟨_, rfl⟩
  have hk30 : k ≤ 30 := by omega
  have hrem : Int.tmod (n : Int) 30 = (k : Int) := by rw [hk, Int.tmod_eq_emod_of_nonneg (by omega)]; omega
  have hw8 : IntKind.u8.wrap (k : Int) = k := by rw [IntKind.wrap_u8]; omega
  have hw64 : IntKind.i64.wrap (k : Int) = k := IntWalk.i64_in _ (by omega)
  have hw3 : IntKind.i64.wrap ((k : Int) + 3) = k + 3 := IntWalk.i64_in _ (by omega)
  have Hkn := Lib.hid hkn
  have Hk := Lib.hid hk
  clear hkn hk
  go_enter Try.func6, Try.ntmps6
  go_wp2_with fail
  refine (Hkn.out).mono ?_
  rintro e w1 ⟨rfl, hk1⟩
  clear Hkn
  have hc := own_new 4 64 hk1 (by decide) (by decide) (by decide) (by decide)
  have Hk1 := Lib.hid hk1
  have Hc := Lib.hid hc
  clear hk1 hc
  go_wp2_with fail
  refine (Hc.out).mono ?_
  rintro e w2 ⟨d, F2, rfl, o2, -, -⟩
  clear Hc
  unfold dp
  have hc := own_arm (k : Int) _ _ [] o2 (RecT.Rd.nil recBo w2) (by decide)
  unfold dp at hc
  have O2 := Lib.hid o2
  have Hc := Lib.hid hc
  clear o2 hc
  go_wp2_with fail
  refine (Hc.out).mono ?_
  rintro e w3 ⟨rfl, F3, o3, -, -⟩
  clear Hc
  change DOwn w w3 d F3 (armD k 0) at o3
  have O3 := Lib.hid o3
  clear o3
  go_wp2_with fail
  go_loopw [6] (fun iv wr => ∃ (j : Nat) (F : Nat → Prop), iv = .int .i64 ((j : Int) + 1) ∧ j ≤ k + 2 ∧ DOwn w wr d F (armD k j)) (fun iv _ => k + 3 - (intOf iv).toNat)
  case atStart => exact ⟨0, F3, rfl, by omega, O3.out⟩
  case round =>
    obtain ⟨j, F, rfl, hj, o⟩ := hrel
    by_cases hlt : j < k + 2
    · have hltI : (j : Int) + 1 < k + 3 := by omega
      have hj1 : IntKind.i64.wrap ((j : Int) + 1 + 1) = ((j + 1 : Nat) : Int) + 1 := by rw [IntWalk.i64_in _ (by omega)]; omega
      have O := Lib.hid o
      clear o
      go_wp2_with (at_make; refine wpList_make_bytesB _ rfl _ _ rfl 64 64 rfl rfl rfl (by omega) ?_)
      intro w4 hx4 hk4
      have o4 := O.out.same hk4
      have hc := own_write 1 _ (zerosB 64) o4 (armD_ok k hk30 j) hx4
      rw [armD_e2 k hk30 j] at hc
      change Calls Try.prog _ _ _ (fun e w' => e = _ ∧ ∃ F', DOwn w w' d F' (armD k (j + 1)) ∧ _ ∧ _ ∧ _) at hc
      unfold dp at hc
      clear hx4 hk4
      by_cases hlow : j + 1 < max k 1
      · rw [if_pos hlow] at hc
        have hlowI : (j : Int) + 1 < k := by omega
        have O4 := Lib.hid o4
        have Hc := Lib.hid hc
        clear o4 hc
        go_wp2_with fail
        refine (Hc.out).mono ?_
        rintro e w5 ⟨rfl, F5, o5, -, -, -⟩
        clear Hc O4
        have O5 := Lib.hid o5
        clear o5
        go_wp2_with fail
        go_roundw
        case rel => exact ⟨j + 1, F5, by simp, by omega, O5.out⟩
        case measure => simp [intOf]; omega
      · rw [if_neg hlow] at hc
        have hlowI : ¬ (j : Int) + 1 < k := by omega
        have O4 := Lib.hid o4
        have Hc := Lib.hid hc
        clear o4 hc
        go_wp2_with fail
        refine (Hc.out).mono ?_
        rintro e w5 ⟨rfl, F5, o5, -, -, -⟩
        clear Hc O4
        have O5 := Lib.hid o5
        clear o5
        go_wp2_with fail
        go_roundw
        case rel => exact ⟨j + 1, F5, by simp, by omega, O5.out⟩
        case measure => simp [intOf]; omega
    · obtain rfl : j = k + 2 := by omega
      have hltI : ¬ ((k + 2 : Nat) : Int) + 1 < k + 3 := by omega
      have hD := armD_high k hk30 (k + 2) (by omega)
      have h1 := dk_off o.k
      have h2 := dk_writes o.k
      rw [hD.off] at h1
      rw [hD.writes] at h2
      unfold dp at h1 h2
      have hs1 : IntKind.i64.wrap ((k : Int) - 1) = (k : Int) - 1 := IntWalk.i64_in _ (by omega)
      clear hD
      have hkk := o.kp
      by_cases h0 : k = 0
      · subst h0
        clear o
        have H1 := Lib.hid h1
        have H2 := Lib.hid h2
        have Hkk := Lib.hid hkk
        clear h1 h2 hkk
        go_wp2_with fail
        go_wp2_with fail
        refine (H1.out).mono ?_
        rintro e w5 ⟨rfl, rfl⟩
        go_wp2_with fail
        refine (H2.out).mono ?_
        rintro e w5 ⟨rfl, rfl⟩
        go_wp2_with fail
        go_ret
        exact ⟨rfl, Hkk.out⟩
      · have hneg : ¬ (k : Int) - 1 < 0 := by omega
        rw [show ((max k 1 - 1 : Nat) : Int) = (k : Int) - 1 by omega] at h2
        clear o
        have H1 := Lib.hid h1
        have H2 := Lib.hid h2
        have Hkk := Lib.hid hkk
        clear h1 h2 hkk
        go_wp2_with fail
        go_wp2_with fail
        refine (H1.out).mono ?_
        rintro e w5 ⟨rfl, rfl⟩
        go_wp2_with fail
        refine (H2.out).mono ?_
        rintro e w5 ⟨rfl, rfl⟩
        go_wp2_with fail
        go_ret
        exact ⟨rfl, Hkk.out⟩
end Go.Proofs.Ytnddaildicmneaa
/-
  disk: what was synced outlasts a cut: plain words.
-/
namespace Go.Proofs.Ytnddaildicmneaa
open Go.Proofs Go.RowKit Go.Sort Go.Maps

def secU (x : UInt8) : Nat := x.toNat % 8
def bX (n : Nat) : List UInt8 := (zerosB 64).set 0 (UInt8.ofNat n)
theorem bX_len (n : Nat) : (bX n).length = 64 := by simp [bX, zerosB]
def pdOf (n0 : Nat) (A : List UInt8) : List (Nat × List UInt8) := A.mapIdx fun i x => (secU x, bX (n0 + i + 1))
theorem pdOf_len (n0 : Nat) (A : List UInt8) : (pdOf n0 A).length = A.length := by simp [pdOf]
theorem pdOf_get {n0 : Nat} {A : List UInt8} {i : Nat} {x : UInt8} (h : A[i]? = some x) : (pdOf n0 A)[i]? = some (secU x, bX (n0 + i + 1)) := by
  simp [pdOf, h]
def hdL (L : List UInt8) : Int := (((L[0]?).getD 0).toNat : Nat)
def heads (k : List (List UInt8)) : List Int := k.map hdL
theorem hd_bX (n : Nat) (h : n < 256) : hdL (bX n) = n := by
  have : (bX n)[0]? = some (UInt8.ofNat n) := by simp [bX, zerosB]
  rw [hdL, this]
  simp
  omega
theorem settle_take (kf : Nat → Bool) (pd : List (Nat × List UInt8)) (k : List (List UInt8)) (n : Nat) : ∀ i, i ≤ n → settleN kf (pd.take n) k i = settleN kf pd k i
  | 0, _ => rfl
  | i + 1, h => by
    have e : (pd.take n)[i]? = pd[i]? := by rw [List.getElem?_take, if_pos (by omega)]
    unfold settleN
    rw [e, settle_take kf pd k n i (by omega)]
theorem settle_step {kf : Nat → Bool} {pd : List (Nat × List UInt8)} {k : List (List UInt8)} {i x : Nat} {L : List UInt8} (h : pd[i]? = some (x, L)) : settleN kf pd k (i + 1) = if kf i = true then (settleN kf pd k i).set x L else settleN kf pd k i := by
  rw [settleN, h]
theorem take_step {α : Type} {l : List α} {i : Nat} {x : α} (h : l[i]? = some x) : l.take (i + 1) = l.take i ++ [x] := by
  rw [List.take_add_one, h]; rfl
def Z8 : List (List UInt8) := List.replicate 8 (zerosB 64)
def keptA (A : List UInt8) : List (List UInt8) := settleN (fun _ => true) (pdOf 0 A) Z8 A.length
theorem keptA_len (A : List UInt8) : (keptA A).length = 8 := by
  rw [keptA, settleN_len]; simp [Z8]
def mkD (k : List (List UInt8)) (pd : List (Nat × List UInt8)) (n : Nat) : DiskV := ⟨64, k, pd, false, false, 0, [], n⟩
def synD (A B : List UInt8) (i : Nat) : DiskV := if i < A.length then mkD Z8 ((pdOf 0 A).take i) i else mkD (keptA A) ((pdOf A.length B).take (i - A.length)) i
def synW (A B : List UInt8) (keep : List Bool) (i : Nat) : List Int := if i < A.length then heads (settleN (fun _ => true) (pdOf 0 A) Z8 i) else heads (settleN (kfOf keep) (pdOf A.length B) (keptA A) (i - A.length))
theorem synW_len (A B : List UInt8) (keep : List Bool) (i : Nat) : (synW A B keep i).length = 8 := by
  unfold synW heads
  split
  · rw [List.length_map, settleN_len]; simp [Z8]
  · rw [List.length_map, settleN_len, keptA_len]
theorem mkD_write (k : List (List UInt8)) (pd : List (Nat × List UInt8)) (n x : Nat) (L : List UInt8) (hk : k.length = 8) (hx : x < 8) (hL : L.length = 64) : (mkD k pd n).write (x : Nat) L = (0, mkD k (pd ++ [(x, L)]) (n + 1)) := by
  have hc : (0 : Int) ≤ (x : Int) ∧ (x : Int) < ((mkD k pd n).kept.length : Nat) ∧ L.length = (mkD k pd n).size := ⟨by omega, by show (x : Int) < (k.length : Nat); omega, hL⟩
  unfold DiskV.write
  rw [if_neg (by simp [mkD]), if_pos hc, if_neg (by simp [mkD])]
  simp [DiskV.wrote, mkD]
theorem mkD_ok (k : List (List UInt8)) (pd : List (Nat × List UInt8)) (n : Nat) (hk : k.length = 8) (hp : pd.length ≤ 80000) (hn : n ≤ 100) : DOk (mkD k pd n) :=
  ⟨hp, by simp [mkD], by simp [mkD, hk], by simp [mkD, hk], by simp [mkD]; omega, fun h => by simp [mkD] at h, by simp [mkD]⟩
theorem synD_ok (A B : List UInt8) (i : Nat) (hA : A.length ≤ 40) (hB : B.length ≤ 40) (hi : i ≤ 80) : DOk (synD A B i) := by
  unfold synD
  split
  · exact mkD_ok _ _ _ (by simp [Z8]) (by rw [List.length_take, pdOf_len]; omega) (by omega)
  · exact mkD_ok _ _ _ (keptA_len A) (by rw [List.length_take, pdOf_len]; omega) (by omega)
theorem secU_lt (x : UInt8) : secU x < 8 := Nat.mod_lt _ (by decide)
/-- a write of the first part that is not its last -/
theorem synA {A : List UInt8} (B : List UInt8) {i : Nat} {x : UInt8} (h : A[i]? = some x) (hl : i + 1 < A.length) : (synD A B i).write (secU x : Nat) (bX (i + 1)) = (0, synD A B (i + 1)) := by
  unfold synD
  rw [if_pos (by omega), if_pos hl, mkD_write _ _ _ _ _ (by simp [Z8]) (secU_lt x) (bX_len _), take_step (pdOf_get (n0 := 0) h), Nat.zero_add]
/-- its last, and the sync -/
theorem synAl {A : List UInt8} (B : List UInt8) {i : Nat} {x : UInt8} (h : A[i]? = some x) (hl : i + 1 = A.length) (hA : A.length ≤ 40) : ∃ D, (synD A B i).write (secU x : Nat) (bX (i + 1)) = (0, D) ∧ DOk D ∧ D.syncs = (0, synD A B (i + 1)) := by
  refine ⟨mkD Z8 (pdOf 0 A) (i + 1), ?_, mkD_ok _ _ _ (by simp [Z8]) (by rw [pdOf_len]; omega) (by omega), ?_⟩
  · have h2 : (pdOf 0 A).take (i + 1) = pdOf 0 A := List.take_of_length_le (by rw [pdOf_len]; omega)
    unfold synD
    rw [if_pos (by omega), mkD_write _ _ _ _ _ (by simp [Z8]) (secU_lt x) (bX_len _)]
    have := take_step (pdOf_get (n0 := 0) h)
    rw [Nat.zero_add, h2] at this
    rw [← this]
  · unfold synD DiskV.syncs
    rw [if_neg (by simp [mkD]), if_neg (by omega), hl, Nat.sub_self, List.take_zero]
    simp [DiskV.sync, DiskV.settle, mkD, keptA, pdOf_len]
/-- a write of the second part -/
theorem synB (A : List UInt8) {B : List UInt8} {j : Nat} {x : UInt8} (h : B[j]? = some x) : (synD A B (A.length + j)).write (secU x : Nat) (bX (A.length + j + 1)) = (0, synD A B (A.length + j + 1)) := by
  unfold synD
  rw [if_neg (by omega), if_neg (by omega), mkD_write _ _ _ _ _ (keptA_len A) (secU_lt x) (bX_len _), Nat.add_sub_cancel_left, Nat.add_assoc, Nat.add_sub_cancel_left, take_step (pdOf_get (n0 := A.length) h), Nat.add_assoc]
theorem heads_set (k : List (List UInt8)) (x : Nat) (L : List UInt8) : heads (k.set x L) = (heads k).set x (hdL L) := by
  unfold heads; rw [List.map_set]
theorem synWA {A : List UInt8} (B : List UInt8) (keep : List Bool) {i : Nat} {x : UInt8} (h : A[i]? = some x) (hi : i < 80) : synW A B keep (i + 1) = (synW A B keep i).set (secU x) ((i : Int) + 1) := by
  have hlt := (List.getElem?_eq_some_iff.1 h).1
  have key : heads (settleN (fun _ => true) (pdOf 0 A) Z8 (i + 1)) = (heads (settleN (fun _ => true) (pdOf 0 A) Z8 i)).set (secU x) ((i : Int) + 1) := by
    rw [settle_step (pdOf_get (n0 := 0) h), if_pos rfl, heads_set, hd_bX _ (by omega)]
    simp
  unfold synW
  rw [if_pos hlt]
  by_cases hl : i + 1 < A.length
  · rw [if_pos hl, key]
  · rw [if_neg hl, show i + 1 - A.length = 0 by omega, show settleN (kfOf keep) (pdOf A.length B) (keptA A) 0 = keptA A from rfl, keptA, show A.length = i + 1 by omega, key]
theorem synWB (A : List UInt8) {B : List UInt8} (keep : List Bool) {j : Nat} {x : UInt8} (h : B[j]? = some x) (hi : A.length + j < 80) : synW A B keep (A.length + j + 1) = if kfOf keep j = true then (synW A B keep (A.length + j)).set (secU x) ((A.length + j : Nat) + 1) else synW A B keep (A.length + j) := by
  have e1 : synW A B keep (A.length + j + 1) = heads (settleN (kfOf keep) (pdOf A.length B) (keptA A) (j + 1)) := by
    unfold synW
    rw [if_neg (by omega), Nat.add_assoc, Nat.add_sub_cancel_left]
  have e2 : synW A B keep (A.length + j) = heads (settleN (kfOf keep) (pdOf A.length B) (keptA A) j) := by
    unfold synW
    rw [if_neg (by omega), Nat.add_sub_cancel_left]
  rw [e1, e2, settle_step (pdOf_get (n0 := A.length) h)]
  by_cases hk : kfOf keep j = true
  · rw [if_pos hk, if_pos hk, heads_set, hd_bX _ (by omega)]
    rfl
  · rw [if_neg hk, if_neg hk]
/-- the end -/
theorem synEnd (A B : List UInt8) (keep : List Bool) : ((synD A B (A.length + B.length)).cut keep).on.off = false ∧ ((synD A B (A.length + B.length)).cut keep).on.pend = [] ∧ ((synD A B (A.length + B.length)).cut keep).on.kept.length = 8 ∧ ((synD A B (A.length + B.length)).cut keep).on.size = 64 ∧
    ∀ k : Nat, k < 8 → (synW A B keep (A.length + B.length))[k]? = some (hdL (((synD A B (A.length + B.length)).cut keep).on.readL (k : Int))) := by
  have hD : synD A B (A.length + B.length) = mkD (keptA A) (pdOf A.length B) (A.length + B.length) := by
    unfold synD
    rw [if_neg (by omega), Nat.add_sub_cancel_left, List.take_of_length_le (by rw [pdOf_len]; omega)]
  have hW : synW A B keep (A.length + B.length) = heads (settleN (kfOf keep) (pdOf A.length B) (keptA A) B.length) := by
    unfold synW
    rw [if_neg (by omega), Nat.add_sub_cancel_left]
  rw [hD, hW]
  have hlen : (settleN (kfOf keep) (pdOf A.length B) (keptA A) B.length).length = 8 := by rw [settleN_len, keptA_len]
  have hkept : ((mkD (keptA A) (pdOf A.length B) (A.length + B.length)).cut keep).on.kept = settleN (kfOf keep) (pdOf A.length B) (keptA A) B.length := by
    show settleN (kfOf keep) (pdOf A.length B) (keptA A) (pdOf A.length B).length = _
    rw [pdOf_len]
  refine ⟨rfl, rfl, by rw [hkept, hlen], rfl, fun k hk => ?_⟩
  unfold DiskV.readL DiskV.read
  rw [hkept, if_neg (by simp [DiskV.on]), if_pos ⟨by omega, by rw [hlen]; omega⟩]
  show _ = some (hdL (readN [] _ _ 0))
  unfold heads
  rw [List.getElem?_map, readN, Int.toNat_natCast]
  rw [List.getElem?_eq_getElem (by rw [hlen]; exact hk)]
  rfl
end Go.Proofs.Ytnddaildicmneaa
/-
  disk: DiskSyncs, walked.
-/
namespace Go.Proofs.Ytnddaildicmneaa
open Go.Proofs Go.RowKit Go.Sort Go.Maps

theorem notRaw_blk {w : World} {q : Nat} {T : TypeId} {cs : Array Value} (h : Blk w q T cs) (hT : T ≠ 5 ∧ T ≠ 4) : NotRaw w q := fun cs2 T2 fr hh => by
  unfold Blk at h
  rw [h] at hh
  injection hh with hh
  injection hh with _ hh
  rw [← hh]; exact hT
theorem DOwn.aside {w0 w w' : World} {d : Nat} {F : Nat → Prop} {D : DiskV} (o : DOwn w0 w d F D) {q : Nat} {T : TypeId} {cs : Array Value} (hq : Blk w q T cs) (hT : T ≠ 5 ∧ T ≠ 4) (hF : ¬ F q) (h0 : w0.heap.size ≤ q) (hk : Keeps (only q) w w') : DOwn w0 w' d F D :=
  ⟨o.k.keepAll hk (fun k hk e => hF (by have e2 : k = q := e; rw [← e2]; exact hk)) (fun k e => by have e2 : k = q := e; rw [e2]; exact notRaw_blk hq hT), o.own, o.kp.trans hk (fun k hk e => by have e2 : k = q := e; omega)⟩
theorem DK.readLen {w : World} {d : Nat} {F : Nat → Prop} {D : DiskV} (h : DK w d F D) (ho : D.off = false) {s : Nat} (hs : s < D.kept.length) : (D.readL (s : Int)).length = D.size := by
  obtain ⟨b, kv, kp, ks, vs, rfl, h⟩ := h
  unfold DiskV.readL DiskV.read
  rw [if_neg (by simp [ho]), if_pos ⟨by omega, by omega⟩, Int.toNat_natCast]
  exact read_len h hs _
/-- a row of ints, an array's block -/
def WArr (w : World) (q : Nat) (l : List Int) : Prop := Blk w q 51 (l.map fun x => Value.int .i64 x).toArray
theorem WArr.set {w : World} {q : Nat} {l : List Int} (h : WArr w q l) (i : Nat) (x : Int) : WArr (w.setCell ⟨q, i, none⟩ (.int .i64 x)) q (l.set i x) := by
  have := Blk.set_ h i (.int .i64 x)
  unfold WArr
  rw [List.map_set]
  simpa using this
theorem WArr.cell {w : World} {q : Nat} {l : List Int} (h : WArr w q l) {i : Nat} {x : Int} (hi : l[i]? = some x) : w.cell? ⟨q, i, none⟩ = some (.int .i64 x) := by
  have := Blk.cell h i
  simpa [hi] using this
theorem rdB_cell {w w' : World} {A : Option Addr} {n c : Nat} {g : Option Nat} {L : List UInt8} (h : recB.Rd w (.slice A n c) g L) (hk : Keeps nowhere w w') {i : Nat} {x : UInt8} (hx : L[i]? = some x) : ∃ b o, A = some ⟨b, o, none⟩ ∧ w'.cell? ⟨b, o + i, none⟩ = some (bv x) := by
  obtain ⟨b, o, c', hv, -, hc⟩ := rdB_at (h.same hk) (by have := (List.getElem?_eq_some_iff.1 hx).1; omega)
  injection hv with h1 _ _
  exact ⟨b, o, h1, hc i x hx⟩
theorem rdBo_cell {w w' : World} {A : Option Addr} {n c : Nat} {g : Option Nat} {L : List Bool} (h : recBo.Rd w (.slice A n c) g L) (hk : Keeps nowhere w w') {i : Nat} {x : Bool} (hx : L[i]? = some x) : ∃ b o, A = some ⟨b, o, none⟩ ∧ w'.cell? ⟨b, o + i, none⟩ = some (.bool x) := by
  obtain ⟨A', c', hv, -, -, -, h3, -⟩ := h.same hk
  injection hv with h1 _ _
  obtain ⟨b, o, hA, -, hc⟩ := h3 (by have := (List.getElem?_eq_some_iff.1 hx).1; omega)
  refine ⟨b, o, h1.trans hA, ?_⟩
  have := hc i x hx 0 (by decide)
  rw [show i * recBo.n = i from Nat.mul_one i] at this
  simpa [recBo] using this
/-- the state at the beginning of a round -/
structure SynAt (w wr : World) (d q : Nat) (F : Nat → Prop) (D : DiskV) (l : List Int) : Prop where
  o : DOwn w wr d F D
  a : WArr wr q l
  hF : ¬ F q
  hq : w.heap.size ≤ q
theorem SynAt.same {w wr wr' : World} {d q : Nat} {F : Nat → Prop} {D : DiskV} {l : List Int} (h : SynAt w wr d q F D l) (hk : Keeps nowhere wr wr') : SynAt w wr' d q F D l := ⟨h.o.same hk, Blk.keep h.a hk (fun h => h), h.hF, h.hq⟩
theorem SynAt.put {w wr : World} {d q : Nat} {F : Nat → Prop} {D : DiskV} {l : List Int} (h : SynAt w wr d q F D l) (i : Nat) (x : Int) : SynAt w (wr.setCell ⟨q, i, none⟩ (.int .i64 x)) d q F D (l.set i x) :=
  ⟨h.o.aside h.a (by decide) h.hF h.hq ((Keeps.refl (only q) wr).setCell (p := ⟨q, i, none⟩) (fun _ => rfl) _), h.a.set i x, h.hF, h.hq⟩
theorem SynAt.go {w wr wr' : World} {d q : Nat} {F F' : Nat → Prop} {D D' : DiskV} {l : List Int} (h : SynAt w wr d q F D l) (o : DOwn w wr' d F' D') (hk : Keeps F wr wr') (hg : Grew wr F F') : SynAt w wr' d q F' D' l :=
  ⟨o, Blk.keep h.a hk h.hF, fun e => (hg q e).elim h.hF (fun e => by have := Blk.lt h.a; omega), h.hq⟩
set_option maxRecDepth 20000 in
set_option maxHeartbeats 8000000 in
theorem dsyncs_any (A0 B0 C0 : Option Addr) (cA cB cC : Nat) (gA gB gC : Option Nat) (A B : List UInt8) (keep : List Bool) (w : World) (hA : recB.Rd w (.slice A0 A.length cA) gA A) (hB : recB.Rd w (.slice B0 B.length cB) gB B) (hC : recBo.Rd w (.slice C0 keep.length cC) gC keep)
    (lA : A.length ≤ 40) (lB : B.length ≤ 40) (lC : keep.length ≤ 60) :
    Calls Try.prog 7 #[.slice A0 A.length cA, .slice B0 B.length cB, .slice C0 keep.length cC] w (YesD w) := by
  have hkn := known7 w
  obtain ⟨na, hna⟩ : ∃ n, n = A.length := ⟨_, rfl⟩
  obtain ⟨nb, hnb⟩ : ∃ n, n = B.length := ⟨_, rfl⟩
  obtain ⟨nc, hnc⟩ : ∃ n, n = keep.length := ⟨_, rfl⟩
  rw [← hna] at hA lA ⊢
  rw [← hnb] at hB lB ⊢
  rw [← hnc] at hC lC ⊢
  have g1 : ¬ (40 : Int) < (na : Int) := by omega
  have g2 : ¬ (40 : Int) < (nb : Int) := by omega
  have g3 : ¬ (60 : Int) < (nc : Int) := by omega
  have hsum : IntKind.i64.wrap ((na : Int) + nb) = ((na + nb : Nat) : Int) := by rw [IntWalk.i64_in _ (by omega)]; omega
  have hna1 : IntKind.i64.wrap ((na : Int) - 1) = (na : Int) - 1 := IntWalk.i64_in _ (by omega)
  have Hkn := Lib.hid hkn
  have HA := Lib.hid hA
  have HB := Lib.hid hB
  have HC := Lib.hid hC
  have Hna := Lib.hid hna
  have Hnb := Lib.hid hnb
  have Hnc := Lib.hid hnc
  clear hkn hA hB hC hna hnb hnc
  go_enter Try.func7, Try.ntmps7
  go_wp2_with fail
  refine (Hkn.out).mono ?_
  rintro e w1 ⟨rfl, hk1⟩
  clear Hkn
  have hc := own_new 8 64 hk1 (by decide) (by decide) (by decide) (by decide)
  have Hk1 := Lib.hid hk1
  have Hc := Lib.hid hc
  clear hk1 hc
  go_wp2_with fail
  refine (Hc.out).mono ?_
  rintro e w2 ⟨d, F2, rfl, o2, -, -⟩
  clear Hc
  unfold dp
  obtain ⟨w3, hw3⟩ : ∃ w3, w3 = w2.alloc (.cells #[.int .i64 0, .int .i64 0, .int .i64 0, .int .i64 0, .int .i64 0, .int .i64 0, .int .i64 0, .int .i64 0] 51) := ⟨_, rfl⟩
  obtain ⟨q, hq⟩ : ∃ q, q = w2.heap.size := ⟨_, rfl⟩
  have hs : SynAt w w3 d q F2 (freshD 8 64) (List.replicate 8 0) := by
    rw [hw3]
    refine ⟨o2.same ((Keeps.refl nowhere w2).alloc _), ?_, fun h => by have := o2.k.lt q h; omega, by rw [hq]; exact o2.kp.size⟩
    rw [hq]; exact Blk.new _ _ _
  have e0 : freshD 8 64 = synD A B 0 := by
    unfold synD
    split
    · rfl
    · rename_i h0
      have : A = [] := List.eq_nil_of_length_eq_zero (by omega)
      subst this; rfl
  have e1 : (List.replicate 8 0 : List Int) = synW A B keep 0 := by
    unfold synW
    split
    · rfl
    · rename_i h0
      have : A = [] := List.eq_nil_of_length_eq_zero (by omega)
      subst this; rfl
  rw [e0, e1] at hs
  clear e0 e1 o2
  have Hs := Lib.hid hs
  have Hw3 := Lib.hid hw3
  have Hq := Lib.hid hq
  clear hs hw3 hq
  go_upto_region 8 with fail
  rw [← Hw3.out]
  simp only [← Hq.out]
  clear Hw3
  have hk13 : Keeps nowhere w w3 := Hs.out.o.kp
  go_loopw [10] (fun iv wr => ∃ (i : Nat) (F : Nat → Prop), iv = .int .i64 i ∧ i ≤ na + nb ∧ SynAt w wr d q F (synD A B i) (synW A B keep i)) (fun iv _ => na + nb - (intOf iv).toNat)
  case atStart => exact ⟨0, F2, rfl, Nat.zero_le _, Hs.out⟩
  case round =>
    obtain ⟨i, F, rfl, hi, h⟩ := hrel
    by_cases hlt : i < na + nb
    · have hltI : (i : Int) < ((na + nb : Nat) : Int) := by omega
      have hi1 : IntKind.i64.wrap ((i : Int) + 1) = i + 1 := IntWalk.i64_in _ (by omega)
      have hi8 : IntKind.u8.wrap ((i : Int) + 1) = i + 1 := by rw [IntKind.wrap_u8]; omega
      have hkr : Keeps nowhere w wr := h.o.kp
      have H := Lib.hid h
      have Hkr := Lib.hid hkr
      clear h hkr
      go_wp2_with (at_make; refine wpList_make_bytesB _ rfl _ _ rfl 64 64 rfl rfl rfl (by omega) ?_)
      intro w4 hx4 hk4
      obtain ⟨x, hx⟩ : ∃ x, x = wr.heap.size := ⟨_, rfl⟩
      rw [← hx] at hx4
      simp only [← hx]
      obtain ⟨⟨u, cu⟩, fu, hx5, hk5⟩ := row_set hx4 (i := 0) (by decide) (UInt8.ofNat (i + 1))
      have hbv : bv (UInt8.ofNat (i + 1)) = .int .u8 ((i : Int) + 1) := by
        unfold bv
        rw [UInt8.toNat_ofNat', Nat.mod_eq_of_lt (by omega)]
        rfl
      rw [hbv] at hx5 hk5
      obtain ⟨w5, hw5⟩ : ∃ w5, w5 = w4.setCell ⟨x, 0, none⟩ (.int .u8 ((i : Int) + 1)) := ⟨_, rfl⟩
      rw [← hw5] at hx5 hk5
      have hk45 : Keeps nowhere wr w5 := hk4.trans hk5 (fun k hk e => by have e2 : k = x := e; omega)
      have h5 := H.out.same hk45
      have hkw5 := Hkr.out.more hk45
      change recB.Row w5 _ (bX (i + 1)) at hx5
      clear hx4 hk4 hk5 hk45 hbv
      have Hx5 := Lib.hid hx5
      have H5 := Lib.hid h5
      have Hw5 := Lib.hid hw5
      have Hx := Lib.hid hx
      have Hkw5 := Lib.hid hkw5
      clear hx5 h5 hw5 hx hkw5
      go_upto_region 12 with fail
      rw [← Hw5.out]
      clear cu fu Hw5 H
      by_cases hA1 : i < na
      · have hA1I : (i : Int) < na := by omega
        obtain ⟨y, hy⟩ : ∃ y, A[i]? = some y := ⟨_, List.getElem?_eq_getElem (by have := Hna.out; omega)⟩
        obtain ⟨ba, oa, hAa, ca⟩ := rdB_cell HA.out Hkw5.out hy
        have hyr : Int.tmod (y.toNat : Int) 8 = (secU y : Nat) := by rw [Int.tmod_eq_emod_of_nonneg (by omega)]; unfold secU; omega
        have hy8 : IntKind.u8.wrap ((secU y : Nat) : Int) = (secU y : Nat) := by have := secU_lt y; rw [IntKind.wrap_u8]; omega
        have hy64 : IntKind.i64.wrap ((secU y : Nat) : Int) = (secU y : Nat) := by have := secU_lt y; exact IntWalk.i64_in _ (by omega)
        have hs0 : (0 : Int) ≤ (secU y : Nat) := by omega
        have hs8 : ((secU y : Nat) : Int) < 8 := by have := secU_lt y; omega
        have hsL : secU y < 8 := secU_lt y
        unfold bv at ca
        obtain ⟨sy, hsy⟩ : ∃ sy, sy = secU y := ⟨_, rfl⟩
        rw [← hsy] at hyr hy8 hy64 hs0 hs8 hsL
        have h6 := H5.out.put sy ((i : Int) + 1)
        have hW := synWA B keep hy (by omega)
        rw [← hsy] at hW
        rw [← hW] at h6
        obtain ⟨w6, hw6⟩ : ∃ w6, w6 = w5.setCell ⟨q, sy, none⟩ (.int .i64 ((i : Int) + 1)) := ⟨_, rfl⟩
        rw [← hw6] at h6
        have hx6 : recB.Row w6 _ (bX (i + 1)) := Hx5.out.keep (S := only q) (by rw [hw6]; exact (Keeps.refl (only q) w5).setCell (p := ⟨q, sy, none⟩) (fun _ => rfl) _) (fun k e e2 => by
          have e3 : k = q := e2
          subst e3
          exact own_blk_ne Hx5.out H5.out.a (by decide) e)
        have cq : ∃ z, w5.cell? ⟨q, sy, none⟩ = some z := ⟨_, H5.out.a.cell (List.getElem?_eq_getElem (by rw [synW_len]; exact hsL))⟩
        obtain ⟨z, cq⟩ := cq
        have fq : w5.frozen? ⟨q, sy, none⟩ = false := Blk.frozen H5.out.a sy
        subst hAa
        clear hW
        have Hy := Lib.hid hy
        have Hx6 := Lib.hid hx6
        have H6 := Lib.hid h6
        have Hw6 := Lib.hid hw6
        have Hsy := Lib.hid hsy
        clear hy hx6 h6 hw6 hsy
        go_upto_region 19 with fail
        rw [← Hw6.out]
        clear ca cq fq
        by_cases hlast : i + 1 < na
        · have hne : ((i : Int) == (na : Int) - 1) = false := by simp; omega
          have hwr := synA B Hy.out (by have := Hna.out; omega)
          rw [← Hsy.out] at hwr
          have hc := own_write (sy : Nat) _ (bX (i + 1)) H6.out.o (synD_ok A B i (by have := Hna.out; omega) (by have := Hnb.out; omega) (by omega)) Hx6.out
          rw [hwr] at hc
          unfold dp at hc
          have Hc := Lib.hid hc
          have Hwr := Lib.hid hwr
          have Hlast := Lib.hid hlast
          clear hc hwr hlast
          go_wp2_with fail
          refine (Hc.out).mono ?_
          rintro e w7 ⟨rfl, F7, o7, -, hk7, hg7⟩
          have h7 := H6.out.go o7 hk7 hg7
          clear Hc o7 hk7 hg7
          have H7 := Lib.hid h7
          clear h7
          go_wp2_with fail
          go_roundw
          case rel => exact ⟨i + 1, F7, by simp, by omega, H7.out⟩
          case measure => simp [intOf]; omega
        · have heq : ((i : Int) == (na : Int) - 1) = true := by simp; omega
          obtain ⟨D7, hwr, hok, hsy2⟩ := synAl B Hy.out (by have := Hna.out; omega) (by have := Hna.out; omega)
          rw [← Hsy.out] at hwr
          have hc := own_write (sy : Nat) _ (bX (i + 1)) H6.out.o (synD_ok A B i (by have := Hna.out; omega) (by have := Hnb.out; omega) (by omega)) Hx6.out
          rw [hwr] at hc
          unfold dp at hc
          have Hc := Lib.hid hc
          have Hwr := Lib.hid hwr
          have Hlast := Lib.hid hlast
          clear hc hwr hlast
          go_wp2_with fail
          refine (Hc.out).mono ?_
          rintro e w7 ⟨rfl, F7, o7, -, hk7, hg7⟩
          have h7 := H6.out.go o7 hk7 hg7
          clear Hc o7 hk7 hg7
          have hc := own_sync h7.o hok
          rw [hsy2] at hc
          unfold dp at hc
          have H7 := Lib.hid h7
          have Hc := Lib.hid hc
          have Hsy2 := Lib.hid hsy2
          clear h7 hc hsy2
          go_wp2_with fail
          refine (Hc.out).mono ?_
          rintro e w8 ⟨rfl, F8, o8, hk8, hg8⟩
          have h8 := H7.out.go o8 hk8 hg8
          clear Hc o8 hk8 hg8
          have H8 := Lib.hid h8
          clear h8
          go_wp2_with fail
          go_roundw
          case rel => exact ⟨i + 1, F8, by simp, by omega, H8.out⟩
          case measure => simp [intOf]; omega
      · have hA1I : ¬ (i : Int) < na := by omega
        obtain ⟨j, hij⟩ : ∃ j, i = na + j := ⟨i - na, by omega⟩
        have hin : IntKind.i64.wrap ((i : Int) - na) = (j : Int) := by rw [IntWalk.i64_in _ (by omega)]; omega
        obtain ⟨y, hy⟩ : ∃ y, B[j]? = some y := ⟨_, List.getElem?_eq_getElem (by have := Hnb.out; omega)⟩
        obtain ⟨bb, ob, hBb, cb⟩ := rdB_cell HB.out Hkw5.out hy
        have hj0 : (0 : Int) ≤ (j : Int) := by omega
        have hjn : (j : Int) < nb := by omega
        have hyr : Int.tmod (y.toNat : Int) 8 = (secU y : Nat) := by rw [Int.tmod_eq_emod_of_nonneg (by omega)]; unfold secU; omega
        have hy8 : IntKind.u8.wrap ((secU y : Nat) : Int) = (secU y : Nat) := by have := secU_lt y; rw [IntKind.wrap_u8]; omega
        have hy64 : IntKind.i64.wrap ((secU y : Nat) : Int) = (secU y : Nat) := by have := secU_lt y; exact IntWalk.i64_in _ (by omega)
        have hs0 : (0 : Int) ≤ (secU y : Nat) := by omega
        have hs8 : ((secU y : Nat) : Int) < 8 := by have := secU_lt y; omega
        have hsL : secU y < 8 := secU_lt y
        unfold bv at cb
        obtain ⟨sy, hsy⟩ : ∃ sy, sy = secU y := ⟨_, rfl⟩
        rw [← hsy] at hyr hy8 hy64 hs0 hs8 hsL
        have hW := synWB A keep hy (by have := Hna.out; omega)
        rw [← hsy, show A.length + j = i by have := Hna.out; omega] at hW
        subst hBb
        have Hy := Lib.hid hy
        have Hsy := Lib.hid hsy
        have Hij := Lib.hid hij
        clear hy hsy hij
        by_cases hk : kfOf keep j = true
        · rw [if_pos hk] at hW
          obtain ⟨hkj, hkl⟩ : keep[j]? = some true ∧ j < nc := by
            unfold kfOf at hk
            cases hh : keep[j]? with
            | none => rw [hh] at hk; cases hk
            | some v =>
              rw [hh] at hk
              have := (List.getElem?_eq_some_iff.1 hh).1
              exact ⟨by simpa using hk, by have := Hnc.out; omega⟩
          obtain ⟨bc, oc, hCc, cc⟩ := rdBo_cell HC.out Hkw5.out hkj
          have hjc : (j : Int) < nc := by omega
          have h6 := H5.out.put sy ((i : Int) + 1)
          rw [← hW] at h6
          obtain ⟨w6, hw6⟩ : ∃ w6, w6 = w5.setCell ⟨q, sy, none⟩ (.int .i64 ((i : Int) + 1)) := ⟨_, rfl⟩
          rw [← hw6] at h6
          have hx6 : recB.Row w6 _ (bX (i + 1)) := Hx5.out.keep (S := only q) (by rw [hw6]; exact (Keeps.refl (only q) w5).setCell (p := ⟨q, sy, none⟩) (fun _ => rfl) _) (fun k e e2 => by
            have e3 : k = q := e2
            subst e3
            exact own_blk_ne Hx5.out H5.out.a (by decide) e)
          have cq : ∃ z, w5.cell? ⟨q, sy, none⟩ = some z := ⟨_, H5.out.a.cell (List.getElem?_eq_getElem (by rw [synW_len]; exact hsL))⟩
          obtain ⟨z, cq⟩ := cq
          have fq : w5.frozen? ⟨q, sy, none⟩ = false := Blk.frozen H5.out.a sy
          subst hCc
          clear hW
          have Hx6 := Lib.hid hx6
          have H6 := Lib.hid h6
          have Hw6 := Lib.hid hw6
          have Hk := Lib.hid hk
          have Hkj := Lib.hid hkj
          clear hx6 h6 hw6 hk hkj
          go_upto_region 19 with fail
          rw [← Hw6.out]
          clear cb cc cq fq
          have hwr := synB A Hy.out
          rw [← Hsy.out, show A.length + j = i by have := Hna.out; have := Hij.out; omega] at hwr
          have hne : ((i : Int) == (na : Int) - 1) = false := by have := Hij.out; simp; omega
          have hc := own_write (sy : Nat) _ (bX (i + 1)) H6.out.o (synD_ok A B i (by have := Hna.out; omega) (by have := Hnb.out; omega) (by omega)) Hx6.out
          rw [hwr] at hc
          unfold dp at hc
          have Hc := Lib.hid hc
          have Hwr := Lib.hid hwr
          clear hc hwr
          go_wp2_with fail
          refine (Hc.out).mono ?_
          rintro e w7 ⟨rfl, F7, o7, -, hk7, hg7⟩
          have h7 := H6.out.go o7 hk7 hg7
          clear Hc o7 hk7 hg7
          have H7 := Lib.hid h7
          clear h7
          go_wp2_with fail
          go_roundw
          case rel => exact ⟨i + 1, F7, by simp, by omega, H7.out⟩
          case measure => simp [intOf]; omega
        · rw [if_neg hk] at hW
          have h6 := H5.out
          rw [← hW] at h6
          have hx6 := Hx5.out
          by_cases hkl : j < nc
          · have hjc : (j : Int) < nc := by omega
            have hkj : keep[j]? = some false := by
              have hh : keep[j]? = some (keep[j]'(by have := Hnc.out; omega)) := List.getElem?_eq_getElem _
              unfold kfOf at hk
              rw [hh] at hk ⊢
              simpa using hk
            obtain ⟨bc, oc, hCc, cc⟩ := rdBo_cell HC.out Hkw5.out hkj
            subst hCc
            clear hW
            have Hx6 := Lib.hid hx6
            have H6 := Lib.hid h6
            have Hk := Lib.hid hk
            have Hkj := Lib.hid hkj
            clear hx6 h6 hk hkj
            go_upto_region 19 with fail
            clear cb cc
            have hwr := synB A Hy.out
            rw [← Hsy.out, show A.length + j = i by have := Hna.out; have := Hij.out; omega] at hwr
            have hne : ((i : Int) == (na : Int) - 1) = false := by have := Hij.out; simp; omega
            have hc := own_write (sy : Nat) _ (bX (i + 1)) H6.out.o (synD_ok A B i (by have := Hna.out; omega) (by have := Hnb.out; omega) (by omega)) Hx6.out
            rw [hwr] at hc
            unfold dp at hc
            have Hc := Lib.hid hc
            have Hwr := Lib.hid hwr
            clear hc hwr
            go_wp2_with fail
            refine (Hc.out).mono ?_
            rintro e w7 ⟨rfl, F7, o7, -, hk7, hg7⟩
            have h7 := H6.out.go o7 hk7 hg7
            clear Hc o7 hk7 hg7
            have H7 := Lib.hid h7
            clear h7
            go_wp2_with fail
            go_roundw
            case rel => exact ⟨i + 1, F7, by simp, by omega, H7.out⟩
            case measure => simp [intOf]; omega
          · have hjc : ¬ (j : Int) < nc := by omega
            clear hW
            have Hx6 := Lib.hid hx6
            have H6 := Lib.hid h6
            have Hk := Lib.hid hk
            clear hx6 h6 hk
            go_upto_region 19 with fail
            clear cb
            have hwr := synB A Hy.out
            rw [← Hsy.out, show A.length + j = i by have := Hna.out; have := Hij.out; omega] at hwr
            have hne : ((i : Int) == (na : Int) - 1) = false := by have := Hij.out; simp; omega
            have hc := own_write (sy : Nat) _ (bX (i + 1)) H6.out.o (synD_ok A B i (by have := Hna.out; omega) (by have := Hnb.out; omega) (by omega)) Hx6.out
            rw [hwr] at hc
            unfold dp at hc
            have Hc := Lib.hid hc
            have Hwr := Lib.hid hwr
            clear hc hwr
            go_wp2_with fail
            refine (Hc.out).mono ?_
            rintro e w7 ⟨rfl, F7, o7, -, hk7, hg7⟩
            have h7 := H6.out.go o7 hk7 hg7
            clear Hc o7 hk7 hg7
            have H7 := Lib.hid h7
            clear h7
            go_wp2_with fail
            go_roundw
            case rel => exact ⟨i + 1, F7, by simp, by omega, H7.out⟩
            case measure => simp [intOf]; omega
    · obtain rfl : i = na + nb := by omega
      have hltI : ¬ ((na + nb : Nat) : Int) < ((na + nb : Nat) : Int) := by omega
      have hN : na + nb = A.length + B.length := by have := Hna.out; have := Hnb.out; omega
      have hok := synD_ok A B (na + nb) (by have := Hna.out; omega) (by have := Hnb.out; omega) (by omega)
      have hend := synEnd A B keep
      rw [← hN] at hend
      have hc := own_cut _ gC keep h.o hok (HC.out.same h.o.kp) (fun k e hF => by
        obtain ⟨_, _, _, _, _, hu, _⟩ := HC.out
        have := hu k e
        have := h.o.own k hF
        omega)
      unfold dp at hc
      have H := Lib.hid h
      have Hc := Lib.hid hc
      have Hend := Lib.hid hend
      have Hok := Lib.hid hok
      clear h hc hend hok
      go_wp2_with fail
      refine (Hc.out).mono ?_
      rintro e w7 ⟨rfl, F7, o7, hk7, hg7⟩
      have h7 := H.out.go o7 hk7 hg7
      clear Hc o7 hk7 hg7
      have hc := own_on h7.o
      unfold dp at hc
      have H7 := Lib.hid h7
      have Hc := Lib.hid hc
      clear h7 hc
      go_wp2_with fail
      refine (Hc.out).mono ?_
      rintro e w8 ⟨rfl, F8, o8, hk8, hg8⟩
      have h8 := H7.out.go o8 hk8 hg8
      have hok8 : DOk ((synD A B (na + nb)).cut keep).on := ⟨(Hok.out.cut keep).pend, (Hok.out.cut keep).size, (Hok.out.cut keep).kept, (Hok.out.cut keep).all, (Hok.out.cut keep).writes, (Hok.out.cut keep).arm, (Hok.out.cut keep).keep⟩
      clear Hc o8 hk8 hg8
      obtain ⟨e1, e2, e3, e4, e5⟩ := Hend.out
      generalize hD9 : ((synD A B (na + nb)).cut keep).on = D9 at *
      generalize hl9 : synW A B keep (na + nb) = l9 at *
      clear Hend Hok
      have H8 := Lib.hid h8
      have Hok8 := Lib.hid hok8
      have E1 := Lib.hid e1
      have E2 := Lib.hid e2
      have E3 := Lib.hid e3
      have E4 := Lib.hid e4
      have E5 := Lib.hid e5
      have HD9 := Lib.hid hD9
      have Hl9 := Lib.hid hl9
      clear h8 hok8 e1 e2 e3 e4 e5 hD9 hl9
      go_wp2_with fail
      go_loopw [13] (fun iv wr => ∃ k : Nat, iv = .int .i64 k ∧ k ≤ 8 ∧ SynAt w wr d q F8 D9 l9) (fun iv _ => 8 - (intOf iv).toNat)
      case atStart => exact ⟨0, rfl, by omega, H8.out⟩
      case round =>
        obtain ⟨k, rfl, hk, h⟩ := hrel
        by_cases hlt : k < 8
        · have hltI : (k : Int) < 8 := by omega
          have hk1 : IntKind.i64.wrap ((k : Int) + 1) = k + 1 := IntWalk.i64_in _ (by omega)
          have hk0 : (0 : Int) ≤ (k : Int) := by omega
          have hlen := h.o.k.readLen E1.out (s := k) (by rw [E3.out]; exact hlt)
          rw [E4.out] at hlen
          have hre : D9.readE (k : Int) = 0 := by
            unfold DiskV.readE
            rw [if_neg (by rw [E1.out]; simp), if_pos ⟨by omega, by rw [E3.out]; omega⟩]
          have hwk := E5.out k hlt
          have hc := own_read (k : Int) h.o Hok8.out
          rw [hlen, hre] at hc
          unfold dp at hc
          obtain ⟨L, hL⟩ : ∃ L, L = D9.readL (k : Int) := ⟨_, rfl⟩
          rw [← hL] at hc hlen hwk
          have H := Lib.hid h
          have Hc := Lib.hid hc
          have HL := Lib.hid hL
          clear h hc hL
          go_wp2_with fail
          refine (Hc.out).mono ?_
          rintro e w9 ⟨A9, c9, g9, rfl, hr9, -, -, hk9⟩
          have h9 := H.out.same hk9
          obtain ⟨y, hy⟩ : ∃ y, L[0]? = some y := ⟨_, List.getElem?_eq_getElem (by omega)⟩
          obtain ⟨b9, o9, hA9, c9'⟩ := rdB_cell hr9 (Keeps.refl nowhere w9) hy
          have cw := h9.a.cell hwk
          rw [hdL, hy, Option.getD_some] at cw
          unfold bv at c9'
          rw [Nat.add_zero] at c9'
          subst hA9
          have hy64 : IntKind.i64.wrap (y.toNat : Int) = (y.toNat : Int) := IntWalk.i64_in _ (by have := y.toNat_lt; omega)
          clear hr9 Hc hwk hlen
          have H9 := Lib.hid h9
          have Hy := Lib.hid hy
          have Hre := Lib.hid hre
          clear h9 hy hre
          go_wp2_with fail
          go_quiet (fail)
          go_wp2_with fail
          go_roundw
          case rel => exact ⟨k + 1, by simp, by omega, H9.out.same ((Keeps.refl nowhere w9).drewN _)⟩
          case measure => simp [intOf]; omega
        · obtain rfl : k = 8 := by omega
          have hp := dk_pending h.o.k
          rw [E2.out] at hp
          unfold dp at hp
          have hkk := h.o.kp
          have H := Lib.hid h
          have Hp := Lib.hid hp
          have Hkk := Lib.hid hkk
          clear h hp hkk
          go_wp2_with fail
          go_wp2_with fail
          refine (Hp.out).mono ?_
          rintro e w9 ⟨rfl, rfl⟩
          go_wp2_with fail
          go_ret
          exact ⟨by simp, Hkk.out⟩
end Go.Proofs.Ytnddaildicmneaa
/-
  disk: the document's disk, in memory; the power goes.
-/
namespace Go.Proofs.Ytnddaildicmneaa
open Go.Proofs Go.RowKit Go.Sort Go.Maps

def recStr : RecT (List UInt8) := ⟨9, 1, fun L => [.string (strOf L)], fun _ => rfl, fun _ u hu => by rw [List.mem_singleton.1 hu]; rfl, by decide⟩
def recLate : RecT (Nat × List UInt8) := ⟨109, 2, fun x => [.int .i64 x.1, .string (strOf x.2)], fun _ => rfl, fun _ u hu => by simp at hu; rcases hu with rfl | rfl <;> rfl, by decide⟩
theorem infoStr : (Try.prog.info? 9).map (fun i => (i.zero, i.size, i.bytes)) = some (some (.string ⟨#[]⟩), 1, 16) := by kernel_rfl
theorem infoLate : (Try.prog.info? 109).map (fun i => (i.zero, i.size, i.bytes)) = some (some (.agg #[.int .i64 0, .string ⟨#[]⟩]), 2, 24) := by kernel_rfl

structure PlV where
  size : Nat
  kept : List (List UInt8)
  now : List (List UInt8)
  wait : List (Nat × List UInt8)
  off : Bool
  arm : Int
  keep : List Bool
  writes : Nat
structure PAt (w0 w : World) (p : Nat) (kv nv wv kp : Value) (gk : Option Nat) (P : PlV) : Prop where
  box : Blk w p 62 #[.int .i64 P.size, kv, nv, wv, .bool P.off, .int .i64 P.arm, kp, .int .i64 P.writes]
  kept : recStr.Row w kv P.kept
  now : recStr.Row w nv P.now
  wait : recLate.Row w wv P.wait
  keep : recBo.Rd w kp gk P.keep
  hp : w0.heap.size ≤ p
  hg : ∀ b, gk = some b → b < w0.heap.size
  wlt : ∀ (i : Nat) (q : Nat × List UInt8), P.wait[i]? = some q → q.1 < P.kept.length
  nlen : P.now.length = P.kept.length
def PK (w0 w : World) (p : Nat) (P : PlV) : Prop := ∃ kv nv wv kp gk, PAt w0 w p kv nv wv kp gk P
section
variable {w0 w w' : World} {p : Nat} {kv nv wv kp : Value} {gk : Option Nat} {P : PlV} {S : Nat → Prop}
theorem PAt.keepAll (h : PAt w0 w p kv nv wv kp gk P) (hk : Keeps S w w') (hp : ¬ S p) (hs : ∀ b, recStr.t = 9 → S b → kv.ownBlock ≠ some b ∧ nv.ownBlock ≠ some b ∧ wv.ownBlock ≠ some b) (h0 : ∀ b, S b → w0.heap.size ≤ b) : PAt w0 w' p kv nv wv kp gk P :=
  { h with
    box := h.box.keep hk hp
    kept := h.kept.keep hk (fun b e hS => (hs b rfl hS).1 e)
    now := h.now.keep hk (fun b e hS => (hs b rfl hS).2.1 e)
    wait := h.wait.keep hk (fun b e hS => (hs b rfl hS).2.2 e)
    keep := h.keep.keep hk (fun b e hS => by have := h.hg b e; have := h0 b hS; omega) }
theorem PAt.same (h : PAt w0 w p kv nv wv kp gk P) (hk : Keeps nowhere w w') : PAt w0 w' p kv nv wv kp gk P := h.keepAll hk (fun h => h) (fun _ _ h => h.elim) (fun _ h => h.elim)
theorem PK.same (h : PK w0 w p P) (hk : Keeps nowhere w w') : PK w0 w' p P := by
  obtain ⟨kv, nv, wv, kp, gk, h⟩ := h
  exact ⟨kv, nv, wv, kp, gk, h.same hk⟩
theorem PAt.cell (h : PAt w0 w p kv nv wv kp gk P) (k : Nat) : w.cell? ⟨p, k, none⟩ = (#[.int .i64 P.size, kv, nv, wv, .bool P.off, .int .i64 P.arm, kp, .int .i64 P.writes] : Array Value)[k]? := h.box.cell k
theorem row_own_ne {α : Type} {R : RecT α} {v : Value} {l : List α} (h : R.Row w v l) {q : Nat} {T : TypeId} {cs : Array Value} (hb : Blk w q T cs) (ht : R.t ≠ T) : v.ownBlock ≠ some q := own_blk_ne h hb ht
/-- fields of it are set -/
theorem PAt.turn (h : PAt w0 w p kv nv wv kp gk P) (hk : Keeps (only p) w w') {kv' nv' wv' kp' : Value} {gk' : Option Nat} {P' : PlV}
    (hb : Blk w' p 62 #[.int .i64 P'.size, kv', nv', wv', .bool P'.off, .int .i64 P'.arm, kp', .int .i64 P'.writes])
    (h1 : recStr.Row w kv' P'.kept) (h2 : recStr.Row w nv' P'.now) (h3 : recLate.Row w wv' P'.wait) (h4 : recBo.Rd w kp' gk' P'.keep) (h5 : ∀ b, gk' = some b → b < w0.heap.size)
    (h6 : ∀ (i : Nat) (q : Nat × List UInt8), P'.wait[i]? = some q → q.1 < P'.kept.length) (h7 : P'.now.length = P'.kept.length) : PAt w0 w' p kv' nv' wv' kp' gk' P' where
  box := hb
  kept := h1.keep hk (fun b e hs => by have e2 : b = p := hs; subst e2; exact row_own_ne h1 h.box (by decide) e)
  now := h2.keep hk (fun b e hs => by have e2 : b = p := hs; subst e2; exact row_own_ne h2 h.box (by decide) e)
  wait := h3.keep hk (fun b e hs => by have e2 : b = p := hs; subst e2; exact row_own_ne h3 h.box (by decide) e)
  keep := h4.keep hk (fun b e hs => by have e2 : b = p := hs; have := h5 b e; have := h.hp; omega)
  hp := h.hp
  hg := h5
  wlt := h6
  nlen := h7
/-- across a method of a disk -/
theorem PAt.disk (h : PAt w0 w p kv nv wv kp gk P) {d : Nat} {F : Nat → Prop} {D : DiskV} (o : DOwn w0 w d F D) (hF : ¬ F p) (hk : Keeps F w w') : PAt w0 w' p kv nv wv kp gk P := by
  obtain ⟨b, kvd, kpd, ks, vs, hFe, hd⟩ := o.k
  refine h.keepAll hk hF (fun k _ hk => ?_) o.own
  subst hFe
  have key : ∀ {α : Type} {R : RecT α} {v : Value} {l : List α}, R.Row w v l → R.t ≠ 97 → R.t ≠ 41 → v.ownBlock ≠ some k := fun {α R v l} hr h1 h2 e => by
    rcases hk with e2 | e2 | e2
    · subst e2; exact own_blk_ne hr hd.box h1 e
    · subst e2
      rcases hr.blk with ⟨rfl, -⟩ | ⟨b', c', rest, rfl, hb2, -⟩
      · simp [Value.ownBlock] at e
      · simp only [Value.ownBlock, Option.some.injEq] at e
        subst e
        exact hd.map.ne_blk hb2 rfl
    · rcases hd.kept.blk with ⟨rfl, -⟩ | ⟨b2, c2, rest, rfl, hb2, -⟩
      · simp [Value.ownBlock] at e2
      · simp only [Value.ownBlock, Option.some.injEq] at e2
        subst e2
        exact own_blk_ne hr hb2 h2 e
  exact ⟨key h.kept (by decide) (by decide), key h.now (by decide) (by decide), key h.wait (by decide) (by decide)⟩
end
def PlV.power (P : PlV) (keep : List Bool) : PlV := ⟨P.size, settleN (kfOf keep) P.wait P.kept P.wait.length, settleN (kfOf keep) P.wait P.kept P.wait.length, [], true, 0, P.keep, P.writes⟩
section
variable {w0 w : World} {p : Nat} {kv nv wv kp : Value} {gk : Option Nat} {P : PlV}
theorem kfOf_true {keep : List Bool} {i : Nat} (h : kfOf keep i = true) : keep[i]? = some true := by
  unfold kfOf at h
  cases hh : keep[i]? with
  | none => rw [hh] at h; cases h
  | some v => rw [hh] at h; simpa using h
theorem kfOf_false {keep : List Bool} {i : Nat} (h : kfOf keep i = false) (hl : i < keep.length) : keep[i]? = some false := by
  have hh : keep[i]? = some (keep[i]) := List.getElem?_eq_getElem _
  unfold kfOf at h
  rw [hh] at h ⊢
  simpa using h
set_option maxRecDepth 20000 in
set_option maxHeartbeats 8000000 in
theorem ppower_any (A0 : Option Addr) (c0 : Nat) (g : Option Nat) (keep : List Bool) (h : PAt w0 w p kv nv wv kp gk P) (hr : recBo.Rd w (.slice A0 keep.length c0) g keep) (hw : P.wait.length ≤ 100000) (hn : P.kept.length ≤ 100000) :
    Calls Try.prog 32 #[.pointer (some ⟨p, 0, none⟩), .slice A0 keep.length c0] w fun e w' => e = .returned (.tuple #[]) ∧ PK w0 w' p (P.power keep) ∧ Keeps (only p) w w' := by
  obtain ⟨nk, hnk⟩ : ∃ n, n = keep.length := ⟨_, rfl⟩
  obtain ⟨m, hm⟩ : ∃ m, m = P.wait.length := ⟨_, rfl⟩
  obtain ⟨n, hnn⟩ : ∃ n, n = P.kept.length := ⟨_, rfl⟩
  obtain ⟨Ak, ck, hkv, -⟩ := h.kept.form
  obtain ⟨Aw, cw, hwv, -⟩ := h.wait.form
  rw [← hnk] at hr ⊢
  rw [← hm] at hw hwv
  rw [← hnn] at hn hkv
  subst hkv hwv
  have hka := (Keeps.refl nowhere w).alloc (.cells #[] 9)
  have c1 := (h.same hka).cell 1
  simp only [List.getElem?_toArray, List.getElem?_cons_succ, List.getElem?_cons_zero] at c1
  have hE := RecT.Row.empty recStr w
  have hkr := (h.same hka).kept.rd
  have hlb : ([] : List (List UInt8)).length + P.kept.length ≤ 100000000 := by simp; omega
  have H := Lib.hid h
  have Hr := Lib.hid hr
  have Hnk := Lib.hid hnk
  have Hm := Lib.hid hm
  have Hnn := Lib.hid hnn
  have Hka := Lib.hid hka
  have HE := Lib.hid hE
  have Hkr := Lib.hid hkr
  have Hlb := Lib.hid hlb
  clear h hr hnk hm hnn hka hE hkr hlb
  go_enter Try.func32, Try.ntmps32
  go_wp2_with (at_builtin; go_must (refine RecT.wpList_append (R := recStr) Try.underlying59 infoStr rfl (by decide) rfl (.tmp 6) (.tmp 10) rfl _ [] rfl HE.out _ _ P.kept rfl Hkr.out Hlb.out ?_))
  intro v1 w1 hrow hk1 hf1
  try rw [List.nil_append] at hrow
  obtain ⟨A1, c1', hv1, -⟩ := hrow.form
  rw [← Hnn.out] at hv1
  have hab : ∀ b, A1 = some b → w.heap.size ≤ b.block := fun b e => by
    rcases hf1 b.block (by rw [hv1, e]; rfl) with h | h
    · simp [Value.ownBlock] at h; omega
    · (try simp at h); omega
  have hkw1 : Keeps nowhere w w1 := Hka.out.trans hk1 (fun k hk e => by simp [Value.ownBlock] at e; omega)
  subst hv1
  clear hk1 hf1
  have Hrow := Lib.hid hrow
  have Hab := Lib.hid hab
  have Hkw1 := Lib.hid hkw1
  clear hrow hab hkw1
  clear c1
  go_wp2_with fail
  go_loopw [5] (fun iv wr => ∃ i : Nat, iv = .int .i64 i ∧ i ≤ m ∧ recStr.Row wr (.slice A1 n c1') (settleN (kfOf keep) P.wait P.kept i) ∧ Keeps nowhere w wr) (fun iv _ => m - (intOf iv).toNat)
  case atStart => exact ⟨0, rfl, Nat.zero_le _, Hrow.out, Hkw1.out⟩
  case round =>
    obtain ⟨i, rfl, hi, hR, hkw⟩ := hrel
    have hP := H.out.same hkw
    have c3 := hP.cell 3
    simp only [List.getElem?_toArray, List.getElem?_cons_succ, List.getElem?_cons_zero] at c3
    by_cases hlt : i < m
    · have hltI : (i : Int) < m := by omega
      have hi0 : (0 : Int) ≤ (i : Int) := by omega
      have hi1 : IntKind.i64.wrap ((i : Int) + 1) = i + 1 := IntWalk.i64_in _ (by omega)
      obtain ⟨⟨x, L⟩, hq⟩ : ∃ q, P.wait[i]? = some q := ⟨_, List.getElem?_eq_getElem (by rw [← Hm.out]; exact hlt)⟩
      have hxn : x < n := by rw [Hnn.out]; exact hP.wlt i _ hq
      cases hk : kfOf keep i with
      | true =>
        have hst : settleN (kfOf keep) P.wait P.kept (i + 1) = (settleN (kfOf keep) P.wait P.kept i).set x L := by rw [settle_step hq, if_pos hk]
        have hkk := kfOf_true hk
        obtain ⟨bc, oc, hCc, cc⟩ := rdBo_cell Hr.out hkw hkk
        have hil : i < nk := by have := (List.getElem?_eq_some_iff.1 hkk).1; have := Hnk.out; omega
        have hilI : (i : Int) < nk := by omega
        subst hCc
        rcases hP.wait.blk with ⟨hv0, h0⟩ | ⟨bw, capw, restw, hvw, hbw, -, -, -⟩
        · rw [h0] at hq; simp at hq
        injection hvw with e1 e2 e3
        subst e1 e3
        clear e2
        have hat := RecT.Row.at_ (b := bw) (cap := cw) (n := m) hP.wait hq
        have d0 := hat 0 (by decide)
        have d1 := hat 1 (by decide)
        rw [show i * recLate.n = i * 2 from rfl] at d0 d1
        simp only [recLate, List.getElem?_cons_zero, List.getElem?_cons_succ, Nat.add_zero] at d0 d1
        have hlenR : (settleN (kfOf keep) P.wait P.kept i).length = n := by rw [settleN_len, Hnn.out]
        rcases hR.blk with ⟨hv0, h0⟩ | ⟨bl, capl, restl, hvl, hbl, -, -, -⟩
        · rw [h0] at hlenR; simp at hlenR; omega
        injection hvl with e4 e5 e6
        subst e4 e6
        clear e5
        have hR' := hR
        rw [← hlenR] at hR'
        obtain ⟨hcs, hR2, hk2⟩ := hR'.store (i := x) (by rw [hlenR]; exact hxn) L
        obtain ⟨⟨u, hu⟩, hf⟩ := hcs 0 (by decide)
        have ew : wr.setCells bl (x * recStr.n) (recStr.cs L) = wr.setCell ⟨bl, x, none⟩ (.string (strOf L)) := by show wr.setCell ⟨bl, x * 1, none⟩ _ = _; rw [Nat.mul_one]
        rw [ew, hlenR, ← hst] at hR2
        rw [ew] at hk2
        rw [Nat.add_zero, show x * recStr.n = x from Nat.mul_one x] at hu hf
        have hblw : w.heap.size ≤ bl := Hab.out _ rfl
        have hkw2 : Keeps nowhere w (wr.setCell ⟨bl, x, none⟩ (.string (strOf L))) := hkw.trans hk2 (fun k hk e => by have e2 : k = bl := e; omega)
        have hx0 : (0 : Int) ≤ (x : Int) := by omega
        have hxI : (x : Int) < n := by omega
        have hkd := (Keeps.refl nowhere wr).drew
        have q3 : ∀ w', w' = wr.drew → w'.cell? ⟨p, 3, none⟩ = some (.slice (some ⟨bw, 0, none⟩) m cw) := fun w' e => by rw [e]; exact c3
        have q0 : ∀ w', w' = wr.drew → w'.cell? ⟨bw, i * 2, none⟩ = some (.int .i64 (x : Int)) := fun w' e => by rw [e]; exact d0
        have q1 : ∀ w', w' = wr.drew → w'.cell? ⟨bw, i * 2 + 1, none⟩ = some (.string (strOf L)) := fun w' e => by rw [e]; exact d1
        obtain ⟨w2, hw2⟩ : ∃ w2, w2 = wr.setCell ⟨bl, x, none⟩ (.string (strOf L)) := ⟨_, rfl⟩
        rw [← hw2] at hR2 hkw2
        clear hcs hR hR' hbl hbw hat hP hk2 hkd d0 d1 ew
        have HR2 := Lib.hid hR2
        have Hkw2 := Lib.hid hkw2
        have Hq := Lib.hid hq
        have Hst := Lib.hid hst
        have Hkk := Lib.hid hkk
        have Hk := Lib.hid hk
        have HlenR := Lib.hid hlenR
        have Hw2 := Lib.hid hw2
        clear hR2 hkw2 hq hst hkk hk hlenR hw2
        go_upto_region 5 with fail
        refine wp_region_script [0, 1, 2, 3, 4, 5, 6, 7, 8, 9, 10, 11, 12, 13, 14, 15, 16, 17] [4, 8, 12, 16] [.ps [0, 1, 2, 3], .fs [4], .ps [5, 6, 7], .fs [8], .ps [9, 10, 11], .fs [12], .ps [13, 14, 15], .fs [16], .ps [17], .es [18] false] (fun w' => w' = wr.drew) rfl (by kernel_rfl) ?_
        clear c3 cc
        refine wpS_ps rfl fun K hK => ?_
        simp only [List.map_cons, List.map_nil, Option.getD_some, List.getElem?_toArray, List.getElem?_cons_zero, List.getElem?_cons_succ]
        iterate 4 (first | (apply quietO_cons _ rfl; (intro w' _; go_simp; rfl)) | apply quietO_skip rfl)
        refine hK _ ?_
        clear hK K
        simp only [Act.put, List.setIfInBounds_toArray, List.set_cons_zero, List.set_cons_succ]
        refine wpS_fs rfl (rfl) fun K hK => ?_
        simp only [List.map_cons, List.map_nil, Option.getD_some, List.getElem?_toArray, List.getElem?_cons_zero, List.getElem?_cons_succ]
        iterate 1 (first | (apply quietO_cons _ rfl; (intro w' hs; have c_0 := q3 w' hs; go_simp; rfl)) | apply quietO_skip rfl)
        refine hK _ ?_
        clear hK K
        simp only [Act.put, List.setIfInBounds_toArray, List.set_cons_zero, List.set_cons_succ]
        refine wpS_ps rfl fun K hK => ?_
        simp only [List.map_cons, List.map_nil, Option.getD_some, List.getElem?_toArray, List.getElem?_cons_zero, List.getElem?_cons_succ]
        iterate 3 (first | (apply quietO_cons _ rfl; (intro w' _; go_simp; rfl)) | apply quietO_skip rfl)
        refine hK _ ?_
        clear hK K
        simp only [Act.put, List.setIfInBounds_toArray, List.set_cons_zero, List.set_cons_succ]
        refine wpS_fs rfl (rfl) fun K hK => ?_
        simp only [List.map_cons, List.map_nil, Option.getD_some, List.getElem?_toArray, List.getElem?_cons_zero, List.getElem?_cons_succ]
        iterate 1 (first | (apply quietO_cons _ rfl; (intro w' hs; have c_0 := q0 w' hs; go_simp; rfl)) | apply quietO_skip rfl)
        refine hK _ ?_
        clear hK K
        simp only [Act.put, List.setIfInBounds_toArray, List.set_cons_zero, List.set_cons_succ]
        refine wpS_ps rfl fun K hK => ?_
        simp only [List.map_cons, List.map_nil, Option.getD_some, List.getElem?_toArray, List.getElem?_cons_zero, List.getElem?_cons_succ]
        iterate 3 (first | (apply quietO_cons _ rfl; (intro w' _; go_simp; rfl)) | apply quietO_skip rfl)
        refine hK _ ?_
        clear hK K
        simp only [Act.put, List.setIfInBounds_toArray, List.set_cons_zero, List.set_cons_succ]
        refine wpS_fs rfl (rfl) fun K hK => ?_
        simp only [List.map_cons, List.map_nil, Option.getD_some, List.getElem?_toArray, List.getElem?_cons_zero, List.getElem?_cons_succ]
        iterate 1 (first | (apply quietO_cons _ rfl; (intro w' hs; have c_0 := q3 w' hs; go_simp; rfl)) | apply quietO_skip rfl)
        refine hK _ ?_
        clear hK K
        simp only [Act.put, List.setIfInBounds_toArray, List.set_cons_zero, List.set_cons_succ]
        refine wpS_ps rfl fun K hK => ?_
        simp only [List.map_cons, List.map_nil, Option.getD_some, List.getElem?_toArray, List.getElem?_cons_zero, List.getElem?_cons_succ]
        iterate 3 (first | (apply quietO_cons _ rfl; (intro w' _; go_simp; rfl)) | apply quietO_skip rfl)
        refine hK _ ?_
        clear hK K
        simp only [Act.put, List.setIfInBounds_toArray, List.set_cons_zero, List.set_cons_succ]
        refine wpS_fs rfl (rfl) fun K hK => ?_
        simp only [List.map_cons, List.map_nil, Option.getD_some, List.getElem?_toArray, List.getElem?_cons_zero, List.getElem?_cons_succ]
        iterate 1 (first | (apply quietO_cons _ rfl; (intro w' hs; have c_0 := q1 w' hs; go_simp; rfl)) | apply quietO_skip rfl)
        refine hK _ ?_
        clear hK K
        simp only [Act.put, List.setIfInBounds_toArray, List.set_cons_zero, List.set_cons_succ]
        refine wpS_ps rfl fun K hK => ?_
        simp only [List.map_cons, List.map_nil, Option.getD_some, List.getElem?_toArray, List.getElem?_cons_zero, List.getElem?_cons_succ]
        iterate 1 (first | (apply quietO_cons _ rfl; (intro w' _; go_simp; rfl)) | apply quietO_skip rfl)
        refine hK _ ?_
        clear hK K
        simp only [Act.put, List.setIfInBounds_toArray, List.set_cons_zero, List.set_cons_succ]
        clear q0 q1 q3
        refine wpS_es rfl fun K hK => ?_
        have HK := Lib.hid hK
        clear hK
        simp only [List.map_cons, List.map_nil, Option.getD_some, List.getElem?_toArray, List.getElem?_cons_zero, List.getElem?_cons_succ]
        go_wp2_with fail
        rw [← Hw2.out]
        go_wp2_with fail
        refine HK.out _ _ (fun h => by cases h) ?_
        clear HK K
        refine wpS_nil ?_
        go_wp2_with fail
        go_roundw
        case rel => exact ⟨i + 1, by simp, by omega, HR2.out.same (Keeps.refl nowhere w2).drew, Hkw2.out.drew⟩
        case measure => simp [intOf]; omega
      | false =>
        have hst : settleN (kfOf keep) P.wait P.kept (i + 1) = settleN (kfOf keep) P.wait P.kept i := by rw [settle_step hq, if_neg (by simp [hk])]
        rw [← hst] at hR
        by_cases hil : i < nk
        · have hkk := kfOf_false hk (by have := Hnk.out; omega)
          obtain ⟨bc, oc, hCc, cc⟩ := rdBo_cell Hr.out hkw hkk
          have hilI : (i : Int) < nk := by omega
          subst hCc
          clear hP
          have HR := Lib.hid hR
          have Hkw := Lib.hid hkw
          have Hq := Lib.hid hq
          have Hst := Lib.hid hst
          have Hkk := Lib.hid hkk
          have Hk := Lib.hid hk
          clear hR hkw hq hst hkk hk
          go_wp2_with fail
          go_roundw
          case rel => exact ⟨i + 1, by simp, by omega, HR.out, Hkw.out⟩
          case measure => simp [intOf]; omega
        · have hilI : ¬ (i : Int) < nk := by omega
          clear hP
          have HR := Lib.hid hR
          have Hkw := Lib.hid hkw
          have Hq := Lib.hid hq
          have Hst := Lib.hid hst
          have Hk := Lib.hid hk
          clear hR hkw hq hst hk
          go_wp2_with fail
          go_roundw
          case rel => exact ⟨i + 1, by simp, by omega, HR.out, Hkw.out⟩
          case measure => simp [intOf]; omega
    · obtain rfl : i = m := by omega
      have hltI : ¬ (i : Int) < i := by omega
      obtain ⟨l, hl⟩ : ∃ l, l = settleN (kfOf keep) P.wait P.kept i := ⟨_, rfl⟩
      rw [← hl] at hR
      have hll : l.length = n := by rw [hl, settleN_len, Hnn.out]
      obtain ⟨w5, hw5⟩ : ∃ w5, w5 = ((((wr.setCell ⟨p, 1, none⟩ (.slice A1 n c1')).setCell ⟨p, 2, none⟩ (.slice A1 n c1')).setCell ⟨p, 3, none⟩ (.slice none 0 0)).setCell ⟨p, 4, none⟩ (.bool true)).setCell ⟨p, 5, none⟩ (.int .i64 0) := ⟨_, rfl⟩
      have hk5 : Keeps (only p) wr w5 := by rw [hw5]; exact (((((Keeps.refl (only p) wr).setCell (p := ⟨p, 1, none⟩) (fun _ => rfl) _).setCell (p := ⟨p, 2, none⟩) (fun _ => rfl) _).setCell (p := ⟨p, 3, none⟩) (fun _ => rfl) _).setCell (p := ⟨p, 4, none⟩) (fun _ => rfl) _).setCell (p := ⟨p, 5, none⟩) (fun _ => rfl) _
      have hb5 := ((((hP.box.set_ 1 (.slice A1 n c1')).set_ 2 (.slice A1 n c1')).set_ 3 (.slice none 0 0)).set_ 4 (.bool true)).set_ 5 (.int .i64 0)
      rw [← hw5] at hb5
      have hP5 := hP.turn hk5 (P' := P.power keep) (kv' := .slice A1 n c1') (nv' := .slice A1 n c1') (wv' := .slice none 0 0) (kp' := kp) (gk' := gk) (by simpa [PlV.power] using hb5)
        (by rw [hl, Hm.out] at hR; exact hR) (by rw [hl, Hm.out] at hR; exact hR) (RecT.Row.nil _ _) hP.keep hP.hg (fun i q hq => by simp [PlV.power] at hq) rfl
      have hkf : Keeps (only p) w w5 := (hkw.mono (fun _ _ h => h.elim)).trans hk5 (fun _ _ h => h)
      have f1 := hP.box.frozen 1
      have f2 := hP.box.frozen 2
      have f3 := hP.box.frozen 3
      have f4 := hP.box.frozen 4
      have f5 := hP.box.frozen 5
      have c1 := hP.cell 1
      have c2 := hP.cell 2
      have c4 := hP.cell 4
      have c5 := hP.cell 5
      simp only [List.getElem?_toArray, List.getElem?_cons_succ, List.getElem?_cons_zero] at c1 c2 c4 c5
      obtain ⟨An, cn, hnv, -⟩ := hP.now.form
      subst hnv
      clear hR hP hk5 hb5 hl hll
      have HP5 := Lib.hid hP5
      have Hkf := Lib.hid hkf
      have Hw5 := Lib.hid hw5
      have Hkw := Lib.hid hkw
      clear hP5 hkf hw5 hkw
      go_wp2_with fail
      rw [← Hw5.out]
      go_end0
      exact ⟨rfl, ⟨_, _, _, _, _, HP5.out⟩, Hkf.out⟩
end
end Go.Proofs.Ytnddaildicmneaa
/-
  disk: the document's disk: write. (wip/gen_pl1.py)
-/
namespace Go.Proofs.Ytnddaildicmneaa
open Go.Proofs Go.RowKit Go.Sort Go.Maps

def PlV.less (P : PlV) : PlV := ⟨P.size, P.kept, P.now, P.wait, P.off, P.arm - 1, P.keep, P.writes⟩
def PlV.put (P : PlV) (x : Nat) (b : List UInt8) : PlV := ⟨P.size, P.kept, P.now.set x b, P.wait ++ [(x, b)], P.off, P.arm, P.keep, P.writes + 1⟩
def PlV.write (P : PlV) (s : Int) (b : List UInt8) : Int × PlV :=
  if P.off = true then (22, P) else if 0 ≤ s ∧ s < P.now.length ∧ b.length = P.size then
    (if 0 < P.arm then (if P.arm = 1 then (22, P.less.power P.keep) else (0, P.less.put s.toNat b)) else (0, P.put s.toNat b))
  else (1, P)
def RetP (x : Int) (w0 w : World) (p : Nat) (P : PlV) : Ending → World → Prop := fun e w' => e = .returned (.int .i64 x) ∧ PK w0 w' p P ∧ Keeps (only p) w w'
section
variable {w0 w : World} {p : Nat} {kv nv wv kp : Value} {gk : Option Nat} {P : PlV}
theorem pwrite_off (s : Int) (b : List UInt8) (h : PAt w0 w p kv nv wv kp gk P) (ho : P.off = true) : Calls Try.prog 31 #[.pointer (some ⟨p, 0, none⟩), .int .i64 s, .string (strOf b)] w (RetP 22 w0 w p P) := by
  have c4 := h.cell 4
  rw [ho] at c4
  simp only [List.getElem?_toArray, List.getElem?_cons_succ, List.getElem?_cons_zero] at c4
  have H := Lib.hid h
  clear h
  go_enter Try.func31, Try.ntmps31
  go_wp2_with fail
  go_ret
  exact ⟨rfl, ⟨_, _, _, _, _, H.out⟩, Keeps.refl _ _⟩
theorem pwrite_arg (s : Int) (b : List UInt8) (h : PAt w0 w p kv nv wv kp gk P) (ho : P.off = false) (hbad : ¬ (0 ≤ s ∧ s < P.now.length ∧ b.length = P.size)) : Calls Try.prog 31 #[.pointer (some ⟨p, 0, none⟩), .int .i64 s, .string (strOf b)] w (RetP 1 w0 w p P) := by
  have c4 := h.cell 4
  have c2 := h.cell 2
  have c0 := h.cell 0
  rw [ho] at c4
  obtain ⟨An, cn, hnv, -⟩ := h.now.form
  subst hnv
  obtain ⟨n, hn⟩ : ∃ n, n = P.now.length := ⟨_, rfl⟩
  obtain ⟨z, hz⟩ : ∃ z, z = P.size := ⟨_, rfl⟩
  have hlen : (strOf b).data.size = b.length := by simp [strOf]
  have hlen2 : (strOf b).size = b.length := by simp [strOf, ByteArray.size]
  obtain ⟨k, hk⟩ : ∃ k, k = b.length := ⟨_, rfl⟩
  rw [← hk] at hlen hlen2 hbad
  rw [← hn] at c2 hbad
  rw [← hz] at c0 hbad
  simp only [List.getElem?_toArray, List.getElem?_cons_succ, List.getElem?_cons_zero] at c4 c2 c0
  have H := Lib.hid h
  have Hk := Lib.hid hk
  have Hn := Lib.hid hn
  have Hz := Lib.hid hz
  clear h hk hn hz
  by_cases h1 : s < 0
  · go_enter Try.func31, Try.ntmps31
    go_wp2_with fail
    go_ret
    exact ⟨rfl, ⟨_, _, _, _, _, H.out⟩, Keeps.refl _ _⟩
  · by_cases h2 : (n : Int) ≤ s
    · go_enter Try.func31, Try.ntmps31
      go_wp2_with fail
      go_ret
      exact ⟨rfl, ⟨_, _, _, _, _, H.out⟩, Keeps.refl _ _⟩
    · have h3 : ((k : Int) != (z : Int)) = true := by simp; intro e; exact hbad ⟨by omega, by omega, by omega⟩
      clear hbad
      go_enter Try.func31, Try.ntmps31
      go_wp2_with fail
      go_ret
      exact ⟨rfl, ⟨_, _, _, _, _, H.out⟩, Keeps.refl _ _⟩
set_option maxRecDepth 20000 in
set_option maxHeartbeats 8000000 in
theorem pwrite_put (x : Nat) (b : List UInt8) (h : PAt w0 w p kv nv wv kp gk P) (ho : P.off = false) (hx : x < P.now.length) (hb : b.length = P.size) (hnb : P.now.length ≤ 100000) (hmb : P.wait.length ≤ 100000) (hwb : P.writes < 1000000000) (ha : P.arm ≤ 0) : Calls Try.prog 31 #[.pointer (some ⟨p, 0, none⟩), .int .i64 x, .string (strOf b)] w (RetP 0 w0 w p (P.put x b)) := by
  have c4 := h.cell 4
  have c2 := h.cell 2
  have c0 := h.cell 0
  have c5 := h.cell 5
  rw [ho] at c4
  obtain ⟨An, cn, hnv, -⟩ := h.now.form
  obtain ⟨Aw, cw, hwv, -⟩ := h.wait.form
  obtain ⟨Ap, cp, hkp, -⟩ := id h.keep
  subst hnv hwv hkp
  obtain ⟨n, hn⟩ : ∃ n, n = P.now.length := ⟨_, rfl⟩
  obtain ⟨m, hm⟩ : ∃ m, m = P.wait.length := ⟨_, rfl⟩
  obtain ⟨z, hz⟩ : ∃ z, z = P.size := ⟨_, rfl⟩
  obtain ⟨nk, hnk⟩ : ∃ n, n = P.keep.length := ⟨_, rfl⟩
  have hlen : (strOf b).data.size = b.length := by simp [strOf]
  have hlen2 : (strOf b).size = b.length := by simp [strOf, ByteArray.size]
  rw [hb] at hlen hlen2
  rw [← hn] at c2 hx hnb h
  rw [← hm] at hmb h
  rw [← hz] at c0 hlen hlen2
  rw [← hnk] at h
  simp only [List.getElem?_toArray, List.getElem?_cons_succ, List.getElem?_cons_zero] at c4 c2 c0 c5
  have h3 : ((z : Int) != (z : Int)) = false := by simp
  have hxI : ¬ (n : Int) ≤ (x : Int) := by omega
  have hx0 : ¬ (x : Int) < 0 := by omega
  have hx1 : (0 : Int) ≤ (x : Int) := by omega
  have hx2 : (x : Int) < n := by omega
  have haI : ¬ 0 < P.arm := by omega
  have hH := h
  have H := Lib.hid h
  have Hn := Lib.hid hn
  have Hm := Lib.hid hm
  have Hz := Lib.hid hz
  have Hnk := Lib.hid hnk
  have HH := Lib.hid hH
  clear h hn hm hz hnk hH
  have hka := (Keeps.refl nowhere w).alloc (.cells #[] 9)
  have hE := RecT.Row.empty recStr w
  have hrd := (HH.out.same hka).now.rd
  have hlb : ([] : List (List UInt8)).length + P.now.length ≤ 100000000 := by have := Hn.out; have e : P.now = P.now := rfl; rw [e]; simp; omega
  have d2 := (HH.out.same hka).cell 2
  simp only [List.getElem?_toArray, List.getElem?_cons_succ, List.getElem?_cons_zero] at d2
  have Hka := Lib.hid hka
  have HE := Lib.hid hE
  have Hrd := Lib.hid hrd
  have Hlb := Lib.hid hlb
  clear hka hE hrd hlb
  go_enter Try.func31, Try.ntmps31
  go_wp2_with (at_builtin; go_must (refine RecT.wpList_append (R := recStr) Try.underlying59 infoStr rfl (by decide) rfl (.tmp 57) (.tmp 61) rfl _ [] rfl HE.out _ _ P.now rfl Hrd.out Hlb.out ?_))
  intro v2 w2 hrow2 hk2 hf2
  try rw [List.nil_append] at hrow2
  obtain ⟨A2, c2', hv2, -⟩ := hrow2.form
  rw [show P.now.length = n from Hn.out.symm] at hv2
  have hkw2 : Keeps nowhere w w2 := Hka.out.trans hk2 (fun k hk e => by simp [Value.ownBlock] at e; omega)
  have hab2 : ∀ k, v2.ownBlock = some k → w.heap.size ≤ k := fun k e => by
    rcases hf2 k e with h | h
    · simp [Value.ownBlock] at h; omega
    · (try simp at h); omega
  subst hv2
  clear hk2 hf2 d2
  have hPn : P.now.length = n := Hn.out.symm
  rcases hrow2.blk with ⟨hv0, h0⟩ | ⟨bl, capl, restl, hvl, hbl, -, -, -⟩
  · rw [h0] at hPn; simp at hPn; omega
  injection hvl with e4 e5 e6
  subst e4 e6
  clear e5
  have hrow2' := hrow2
  rw [← hPn] at hrow2'
  obtain ⟨hcs, hR3, hk3⟩ := hrow2'.store (i := x) (by rw [hPn]; exact hx) b
  obtain ⟨⟨u, hu⟩, hf⟩ := hcs 0 (by decide)
  have ew : w2.setCells bl (x * recStr.n) (recStr.cs b) = w2.setCell ⟨bl, x, none⟩ (.string (strOf b)) := by show w2.setCell ⟨bl, x * 1, none⟩ _ = _; rw [Nat.mul_one]
  rw [ew, hPn] at hR3
  rw [ew] at hk3
  rw [Nat.add_zero, show x * recStr.n = x from Nat.mul_one x] at hu hf
  obtain ⟨w3, hw3⟩ : ∃ w3, w3 = w2.setCell ⟨bl, x, none⟩ (.string (strOf b)) := ⟨_, rfl⟩
  rw [← hw3] at hR3 hk3
  have hblw : w.heap.size ≤ bl := hab2 bl rfl
  have hkw3 : Keeps nowhere w w3 := hkw2.trans hk3 (fun k hk e => by have e2 : k = bl := e; omega)
  have h4 := HH.out.same hkw3
  -- now is stored
  obtain ⟨w4, hw4⟩ : ∃ w4, w4 = w3.setCell ⟨p, 2, none⟩ (.slice (some ⟨bl, 0, none⟩) n c2') := ⟨_, rfl⟩
  have hk4 : Keeps (only p) w3 w4 := by rw [hw4]; exact (Keeps.refl (only p) w3).setCell (p := ⟨p, 2, none⟩) (fun _ => rfl) _
  have hb4 := h4.box.set_ 2 (.slice (some ⟨bl, 0, none⟩) n c2')
  rw [← hw4] at hb4
  have g2 := h4.box.frozen 2
  have d2 := h4.cell 2
  simp only [List.getElem?_toArray, List.getElem?_cons_succ, List.getElem?_cons_zero] at d2
  have h5 : PAt w0 w4 p kv (.slice (some ⟨bl, 0, none⟩) n c2') (.slice Aw m cw) (.slice Ap nk cp) gk ⟨P.size, P.kept, P.now.set x b, P.wait, P.off, P.arm, P.keep, P.writes⟩ := h4.turn hk4 (P' := ⟨P.size, P.kept, P.now.set x b, P.wait, P.off, P.arm, P.keep, P.writes⟩) (by simpa using hb4) h4.kept hR3 h4.wait h4.keep h4.hg h4.wlt (by show (P.now.set x b).length = _; rw [List.length_set]; exact h4.nlen)
  have hkw4 : Keeps (only p) w w4 := (hkw3.mono (fun _ _ h => h.elim)).trans hk4 (fun _ _ h => h)
  clear hcs hrow2 hrow2' hbl hk3 hab2 hkw2 hkw3 hk4 hb4 h4 hR3 ew
  have H5 := Lib.hid h5
  have Hkw4 := Lib.hid hkw4
  have Hw3 := Lib.hid hw3
  have Hw4 := Lib.hid hw4
  have HPn := Lib.hid hPn
  clear h5 hkw4 hw3 hw4 hPn
  go_upto_region 12 with fail
  rw [← Hw3.out]
  go_upto_region 13 with fail
  rw [← Hw4.out]
  clear hu hf g2 d2
  have hka := (Keeps.refl nowhere w4).alloc (.cells #[] 109)
  have hE := RecT.Row.empty recLate w4
  have h6 := H5.out.same hka
  have hrd := h6.wait.rd
  have hlb : ([] : List (Nat × List UInt8)).length + P.wait.length ≤ 100000000 := by have := Hm.out; have e : P.wait = P.wait := rfl; rw [e]; simp; omega
  have d3 := h6.cell 3
  simp only [List.getElem?_toArray, List.getElem?_cons_succ, List.getElem?_cons_zero] at d3
  clear h6
  have Hka := Lib.hid hka
  have HE := Lib.hid hE
  have Hrd := Lib.hid hrd
  have Hlb := Lib.hid hlb
  clear hka hE hrd hlb
  go_wp2_with (at_builtin; go_must (refine RecT.wpList_append (R := recLate) Try.underlying60 infoLate rfl (by decide) rfl (.tmp 72) (.tmp 76) rfl _ [] rfl HE.out _ _ P.wait rfl Hrd.out Hlb.out ?_))
  intro v6 w6 hrow6 hk6 hf6
  try rw [List.nil_append] at hrow6
  have hab6 : ∀ k, v6.ownBlock = some k → w4.heap.size ≤ k := fun k e => by
    rcases hf6 k e with h | h
    · simp [Value.ownBlock] at h; omega
    · (try simp at h); omega
  have hkw6 : Keeps nowhere w4 w6 := Hka.out.trans hk6 (fun k hk e => by simp [Value.ownBlock] at e; omega)
  have hkb := (Keeps.refl nowhere w6).alloc (.cells #[.int .i64 x, .string (strOf b)] 109)
  have hrowb := hrow6.same hkb
  have hrdb := RecT.Rd.one recLate w6 (x, b)
  have hlb6 : P.wait.length + ([(x, b)] : List (Nat × List UInt8)).length ≤ 100000000 := by have := Hm.out; have e : P.wait = P.wait := rfl; rw [e]; simp; omega
  clear hk6 hf6 d3
  have Hrow6 := Lib.hid hrow6
  have Hab6 := Lib.hid hab6
  have Hkw6 := Lib.hid hkw6
  have Hkb := Lib.hid hkb
  have Hrowb := Lib.hid hrowb
  have Hrdb := Lib.hid hrdb
  have Hlb6 := Lib.hid hlb6
  clear hrow6 hab6 hkw6 hkb hrowb hrdb hlb6
  go_wp2_with (at_builtin; go_must (refine RecT.wpList_append (R := recLate) Try.underlying60 infoLate rfl (by decide) rfl (.tmp 77) (.tmp 81) rfl _ P.wait rfl Hrowb.out _ _ [(x, b)] rfl Hrdb.out Hlb6.out ?_))
  intro v7 w7 hrow7 hk7 hf7
  obtain ⟨A7, c7, hv7, -⟩ := hrow7.form
  have hkw7 : Keeps nowhere w4 w7 := (Hkw6.out.more Hkb.out).trans hk7 (fun k hk e => by have := Hab6.out k e; omega)
  generalize hN7 : (P.wait ++ [(x, b)]).length = N7 at hv7
  subst hv7
  have h7 := H5.out.same hkw7
  obtain ⟨w8, hw8⟩ : ∃ w8, w8 = (w7.setCell ⟨p, 3, none⟩ (.slice A7 N7 c7)).setCell ⟨p, 7, none⟩ (.int .i64 ((P.writes : Int) + 1)) := ⟨_, rfl⟩
  have hk8 : Keeps (only p) w7 w8 := by rw [hw8]; exact ((Keeps.refl (only p) w7).setCell (p := ⟨p, 3, none⟩) (fun _ => rfl) _).setCell (p := ⟨p, 7, none⟩) (fun _ => rfl) _
  have hb8 := (h7.box.set_ 3 (.slice A7 N7 c7)).set_ 7 (.int .i64 ((P.writes : Int) + 1))
  rw [← hw8] at hb8
  have g3 := h7.box.frozen 3
  have g7 := h7.box.frozen 7
  have d3 := h7.cell 3
  have d7 := h7.cell 7
  simp only [List.getElem?_toArray, List.getElem?_cons_succ, List.getElem?_cons_zero] at d3 d7
  have h8 : PAt w0 w8 p kv (.slice (some ⟨bl, 0, none⟩) n c2') (.slice A7 N7 c7) (.slice Ap nk cp) gk (P.put x b) := h7.turn hk8 (P' := P.put x b) (by simpa [PlV.put] using hb8) h7.kept h7.now hrow7 h7.keep h7.hg (fun i q hq => by
    simp only [PlV.put] at hq ⊢
    by_cases hi : i < P.wait.length
    · rw [List.getElem?_append_left hi] at hq
      exact h7.wlt i q hq
    · rw [List.getElem?_append_right (by omega)] at hq
      have : i - P.wait.length = 0 := by have := (List.getElem?_eq_some_iff.1 hq).1; simp at this; omega
      rw [this] at hq
      simp at hq
      subst hq
      have := h7.nlen
      simp only [List.length_set] at this
      have := HPn.out
      show x < P.kept.length
      omega) h7.nlen
  have hwr : IntKind.i64.wrap ((P.writes : Int) + 1) = (P.writes : Int) + 1 := IntWalk.i64_in _ (by have e : P.writes = P.writes := rfl; omega)
  have hkw8 : Keeps (only p) w w8 := Hkw4.out.trans ((hkw7.mono (fun _ _ h => h.elim)).trans hk8 (fun _ _ h => h)) (fun _ _ h => h)
  obtain ⟨Wr, hWr⟩ : ∃ W, W = P.writes := ⟨_, rfl⟩
  rw [show (⟨P.size, P.kept, P.now.set x b, P.wait, P.off, P.arm, P.keep, P.writes⟩ : PlV).writes = P.writes from rfl] at d7
  rw [← hWr] at d7 hwr hw8
  clear h7 hk8 hb8 hrow7 hk7 hf7 hN7 hkw7
  have H8 := Lib.hid h8
  have Hkw8 := Lib.hid hkw8
  have Hw8 := Lib.hid hw8
  have HWr := Lib.hid hWr
  clear h8 hkw8 hw8 hWr
  go_wp2_with fail
  rw [← Hw8.out]
  go_ret
  exact ⟨rfl, ⟨_, _, _, _, _, H8.out⟩, Hkw8.out⟩
set_option maxRecDepth 20000 in
set_option maxHeartbeats 8000000 in
theorem pwrite_less (x : Nat) (b : List UInt8) (h : PAt w0 w p kv nv wv kp gk P) (ho : P.off = false) (hx : x < P.now.length) (hb : b.length = P.size) (hnb : P.now.length ≤ 100000) (hmb : P.wait.length ≤ 100000) (hwb : P.writes < 1000000000) (ha1 : 2 ≤ P.arm) (ha2 : P.arm ≤ 9223372036854775807) : Calls Try.prog 31 #[.pointer (some ⟨p, 0, none⟩), .int .i64 x, .string (strOf b)] w (RetP 0 w0 w p (P.less.put x b)) := by
  have c4 := h.cell 4
  have c2 := h.cell 2
  have c0 := h.cell 0
  have c5 := h.cell 5
  rw [ho] at c4
  obtain ⟨An, cn, hnv, -⟩ := h.now.form
  obtain ⟨Aw, cw, hwv, -⟩ := h.wait.form
  obtain ⟨Ap, cp, hkp, -⟩ := id h.keep
  subst hnv hwv hkp
  obtain ⟨n, hn⟩ : ∃ n, n = P.now.length := ⟨_, rfl⟩
  obtain ⟨m, hm⟩ : ∃ m, m = P.wait.length := ⟨_, rfl⟩
  obtain ⟨z, hz⟩ : ∃ z, z = P.size := ⟨_, rfl⟩
  obtain ⟨nk, hnk⟩ : ∃ n, n = P.keep.length := ⟨_, rfl⟩
  have hlen : (strOf b).data.size = b.length := by simp [strOf]
  have hlen2 : (strOf b).size = b.length := by simp [strOf, ByteArray.size]
  rw [hb] at hlen hlen2
  rw [← hn] at c2 hx hnb h
  rw [← hm] at hmb h
  rw [← hz] at c0 hlen hlen2
  rw [← hnk] at h
  simp only [List.getElem?_toArray, List.getElem?_cons_succ, List.getElem?_cons_zero] at c4 c2 c0 c5
  have h3 : ((z : Int) != (z : Int)) = false := by simp
  have hxI : ¬ (n : Int) ≤ (x : Int) := by omega
  have hx0 : ¬ (x : Int) < 0 := by omega
  have hx1 : (0 : Int) ≤ (x : Int) := by omega
  have hx2 : (x : Int) < n := by omega
  have hwl : IntKind.i64.wrap (P.arm - 1) = P.arm - 1 := IntWalk.i64_in _ (by omega)
  obtain ⟨w1, hw1⟩ : ∃ w1, w1 = w.setCell ⟨p, 5, none⟩ (.int .i64 (P.arm - 1)) := ⟨_, rfl⟩
  have hk1 : Keeps (only p) w w1 := by rw [hw1]; exact (Keeps.refl (only p) w).setCell (p := ⟨p, 5, none⟩) (fun _ => rfl) _
  have hb1 := h.box.set_ 5 (.int .i64 (P.arm - 1))
  rw [← hw1] at hb1
  have h1 : PAt w0 w1 p kv (.slice An n cn) (.slice Aw m cw) (.slice Ap nk cp) gk P.less := h.turn hk1 (P' := P.less) (by simpa [PlV.less] using hb1) h.kept h.now h.wait h.keep h.hg h.wlt h.nlen
  have f5 := h.box.frozen 5
  have c5b := h1.cell 5
  simp only [List.getElem?_toArray, List.getElem?_cons_succ, List.getElem?_cons_zero] at c5b
  have e5 : P.less.arm = P.arm - 1 := rfl
  rw [e5] at c5b
  obtain ⟨a, hA⟩ : ∃ a, a = P.arm := ⟨_, rfl⟩
  rw [← hA] at c5 hwl hw1 c5b ha1 ha2
  clear hb1 e5
  have haI : 0 < a := by omega
  have hne : (a - 1 == 0) = false := by simp; omega
  have hH := h1
  have H := Lib.hid h
  have H1 := Lib.hid h1
  have Hn := Lib.hid hn
  have Hm := Lib.hid hm
  have Hz := Lib.hid hz
  have Hnk := Lib.hid hnk
  have Hk1 := Lib.hid hk1
  have Hw1 := Lib.hid hw1
  have HA := Lib.hid hA
  have HH := Lib.hid hH
  clear h h1 hn hm hz hnk hk1 hw1 hA hH
  go_enter Try.func31, Try.ntmps31
  go_upto_region 7 with fail
  rw [← Hw1.out]
  go_upto_region 10 with fail
  have hka := (Keeps.refl nowhere w1).alloc (.cells #[] 9)
  have hE := RecT.Row.empty recStr w1
  have hrd := (HH.out.same hka).now.rd
  have hlb : ([] : List (List UInt8)).length + P.less.now.length ≤ 100000000 := by have := Hn.out; have e : P.less.now = P.now := rfl; rw [e]; simp; omega
  have d2 := (HH.out.same hka).cell 2
  simp only [List.getElem?_toArray, List.getElem?_cons_succ, List.getElem?_cons_zero] at d2
  have Hka := Lib.hid hka
  have HE := Lib.hid hE
  have Hrd := Lib.hid hrd
  have Hlb := Lib.hid hlb
  clear hka hE hrd hlb
  go_wp2_with (at_builtin; go_must (refine RecT.wpList_append (R := recStr) Try.underlying59 infoStr rfl (by decide) rfl (.tmp 57) (.tmp 61) rfl _ [] rfl HE.out _ _ P.less.now rfl Hrd.out Hlb.out ?_))
  intro v2 w2 hrow2 hk2 hf2
  try rw [List.nil_append] at hrow2
  obtain ⟨A2, c2', hv2, -⟩ := hrow2.form
  rw [show P.less.now.length = n from Hn.out.symm] at hv2
  have hkw2 : Keeps nowhere w1 w2 := Hka.out.trans hk2 (fun k hk e => by simp [Value.ownBlock] at e; omega)
  have hab2 : ∀ k, v2.ownBlock = some k → w1.heap.size ≤ k := fun k e => by
    rcases hf2 k e with h | h
    · simp [Value.ownBlock] at h; omega
    · (try simp at h); omega
  subst hv2
  clear hk2 hf2 d2
  have hPn : P.less.now.length = n := Hn.out.symm
  rcases hrow2.blk with ⟨hv0, h0⟩ | ⟨bl, capl, restl, hvl, hbl, -, -, -⟩
  · rw [h0] at hPn; simp at hPn; omega
  injection hvl with e4 e5 e6
  subst e4 e6
  clear e5
  have hrow2' := hrow2
  rw [← hPn] at hrow2'
  obtain ⟨hcs, hR3, hk3⟩ := hrow2'.store (i := x) (by rw [hPn]; exact hx) b
  obtain ⟨⟨u, hu⟩, hf⟩ := hcs 0 (by decide)
  have ew : w2.setCells bl (x * recStr.n) (recStr.cs b) = w2.setCell ⟨bl, x, none⟩ (.string (strOf b)) := by show w2.setCell ⟨bl, x * 1, none⟩ _ = _; rw [Nat.mul_one]
  rw [ew, hPn] at hR3
  rw [ew] at hk3
  rw [Nat.add_zero, show x * recStr.n = x from Nat.mul_one x] at hu hf
  obtain ⟨w3, hw3⟩ : ∃ w3, w3 = w2.setCell ⟨bl, x, none⟩ (.string (strOf b)) := ⟨_, rfl⟩
  rw [← hw3] at hR3 hk3
  have hblw : w1.heap.size ≤ bl := hab2 bl rfl
  have hkw3 : Keeps nowhere w1 w3 := hkw2.trans hk3 (fun k hk e => by have e2 : k = bl := e; omega)
  have h4 := HH.out.same hkw3
  -- now is stored
  obtain ⟨w4, hw4⟩ : ∃ w4, w4 = w3.setCell ⟨p, 2, none⟩ (.slice (some ⟨bl, 0, none⟩) n c2') := ⟨_, rfl⟩
  have hk4 : Keeps (only p) w3 w4 := by rw [hw4]; exact (Keeps.refl (only p) w3).setCell (p := ⟨p, 2, none⟩) (fun _ => rfl) _
  have hb4 := h4.box.set_ 2 (.slice (some ⟨bl, 0, none⟩) n c2')
  rw [← hw4] at hb4
  have g2 := h4.box.frozen 2
  have d2 := h4.cell 2
  simp only [List.getElem?_toArray, List.getElem?_cons_succ, List.getElem?_cons_zero] at d2
  have h5 : PAt w0 w4 p kv (.slice (some ⟨bl, 0, none⟩) n c2') (.slice Aw m cw) (.slice Ap nk cp) gk ⟨P.less.size, P.less.kept, P.less.now.set x b, P.less.wait, P.less.off, P.less.arm, P.less.keep, P.less.writes⟩ := h4.turn hk4 (P' := ⟨P.less.size, P.less.kept, P.less.now.set x b, P.less.wait, P.less.off, P.less.arm, P.less.keep, P.less.writes⟩) (by simpa using hb4) h4.kept hR3 h4.wait h4.keep h4.hg h4.wlt (by show (P.less.now.set x b).length = _; rw [List.length_set]; exact h4.nlen)
  have hkw4 : Keeps (only p) w1 w4 := (hkw3.mono (fun _ _ h => h.elim)).trans hk4 (fun _ _ h => h)
  clear hcs hrow2 hrow2' hbl hk3 hab2 hkw2 hkw3 hk4 hb4 h4 hR3 ew
  have H5 := Lib.hid h5
  have Hkw4 := Lib.hid hkw4
  have Hw3 := Lib.hid hw3
  have Hw4 := Lib.hid hw4
  have HPn := Lib.hid hPn
  clear h5 hkw4 hw3 hw4 hPn
  go_upto_region 12 with fail
  rw [← Hw3.out]
  go_upto_region 13 with fail
  rw [← Hw4.out]
  clear hu hf g2 d2
  have hka := (Keeps.refl nowhere w4).alloc (.cells #[] 109)
  have hE := RecT.Row.empty recLate w4
  have h6 := H5.out.same hka
  have hrd := h6.wait.rd
  have hlb : ([] : List (Nat × List UInt8)).length + P.less.wait.length ≤ 100000000 := by have := Hm.out; have e : P.less.wait = P.wait := rfl; rw [e]; simp; omega
  have d3 := h6.cell 3
  simp only [List.getElem?_toArray, List.getElem?_cons_succ, List.getElem?_cons_zero] at d3
  clear h6
  have Hka := Lib.hid hka
  have HE := Lib.hid hE
  have Hrd := Lib.hid hrd
  have Hlb := Lib.hid hlb
  clear hka hE hrd hlb
  go_wp2_with (at_builtin; go_must (refine RecT.wpList_append (R := recLate) Try.underlying60 infoLate rfl (by decide) rfl (.tmp 72) (.tmp 76) rfl _ [] rfl HE.out _ _ P.less.wait rfl Hrd.out Hlb.out ?_))
  intro v6 w6 hrow6 hk6 hf6
  try rw [List.nil_append] at hrow6
  have hab6 : ∀ k, v6.ownBlock = some k → w4.heap.size ≤ k := fun k e => by
    rcases hf6 k e with h | h
    · simp [Value.ownBlock] at h; omega
    · (try simp at h); omega
  have hkw6 : Keeps nowhere w4 w6 := Hka.out.trans hk6 (fun k hk e => by simp [Value.ownBlock] at e; omega)
  have hkb := (Keeps.refl nowhere w6).alloc (.cells #[.int .i64 x, .string (strOf b)] 109)
  have hrowb := hrow6.same hkb
  have hrdb := RecT.Rd.one recLate w6 (x, b)
  have hlb6 : P.less.wait.length + ([(x, b)] : List (Nat × List UInt8)).length ≤ 100000000 := by have := Hm.out; have e : P.less.wait = P.wait := rfl; rw [e]; simp; omega
  clear hk6 hf6 d3
  have Hrow6 := Lib.hid hrow6
  have Hab6 := Lib.hid hab6
  have Hkw6 := Lib.hid hkw6
  have Hkb := Lib.hid hkb
  have Hrowb := Lib.hid hrowb
  have Hrdb := Lib.hid hrdb
  have Hlb6 := Lib.hid hlb6
  clear hrow6 hab6 hkw6 hkb hrowb hrdb hlb6
  go_wp2_with (at_builtin; go_must (refine RecT.wpList_append (R := recLate) Try.underlying60 infoLate rfl (by decide) rfl (.tmp 77) (.tmp 81) rfl _ P.less.wait rfl Hrowb.out _ _ [(x, b)] rfl Hrdb.out Hlb6.out ?_))
  intro v7 w7 hrow7 hk7 hf7
  obtain ⟨A7, c7, hv7, -⟩ := hrow7.form
  have hkw7 : Keeps nowhere w4 w7 := (Hkw6.out.more Hkb.out).trans hk7 (fun k hk e => by have := Hab6.out k e; omega)
  generalize hN7 : (P.less.wait ++ [(x, b)]).length = N7 at hv7
  subst hv7
  have h7 := H5.out.same hkw7
  obtain ⟨w8, hw8⟩ : ∃ w8, w8 = (w7.setCell ⟨p, 3, none⟩ (.slice A7 N7 c7)).setCell ⟨p, 7, none⟩ (.int .i64 ((P.less.writes : Int) + 1)) := ⟨_, rfl⟩
  have hk8 : Keeps (only p) w7 w8 := by rw [hw8]; exact ((Keeps.refl (only p) w7).setCell (p := ⟨p, 3, none⟩) (fun _ => rfl) _).setCell (p := ⟨p, 7, none⟩) (fun _ => rfl) _
  have hb8 := (h7.box.set_ 3 (.slice A7 N7 c7)).set_ 7 (.int .i64 ((P.less.writes : Int) + 1))
  rw [← hw8] at hb8
  have g3 := h7.box.frozen 3
  have g7 := h7.box.frozen 7
  have d3 := h7.cell 3
  have d7 := h7.cell 7
  simp only [List.getElem?_toArray, List.getElem?_cons_succ, List.getElem?_cons_zero] at d3 d7
  have h8 : PAt w0 w8 p kv (.slice (some ⟨bl, 0, none⟩) n c2') (.slice A7 N7 c7) (.slice Ap nk cp) gk (P.less.put x b) := h7.turn hk8 (P' := P.less.put x b) (by simpa [PlV.put] using hb8) h7.kept h7.now hrow7 h7.keep h7.hg (fun i q hq => by
    simp only [PlV.put] at hq ⊢
    by_cases hi : i < P.less.wait.length
    · rw [List.getElem?_append_left hi] at hq
      exact h7.wlt i q hq
    · rw [List.getElem?_append_right (by omega)] at hq
      have : i - P.less.wait.length = 0 := by have := (List.getElem?_eq_some_iff.1 hq).1; simp at this; omega
      rw [this] at hq
      simp at hq
      subst hq
      have := h7.nlen
      simp only [List.length_set] at this
      have := HPn.out
      show x < P.less.kept.length
      omega) h7.nlen
  have hwr : IntKind.i64.wrap ((P.less.writes : Int) + 1) = (P.less.writes : Int) + 1 := IntWalk.i64_in _ (by have e : P.less.writes = P.writes := rfl; omega)
  have hkw8 : Keeps (only p) w1 w8 := Hkw4.out.trans ((hkw7.mono (fun _ _ h => h.elim)).trans hk8 (fun _ _ h => h)) (fun _ _ h => h)
  obtain ⟨Wr, hWr⟩ : ∃ W, W = P.less.writes := ⟨_, rfl⟩
  rw [show (⟨P.less.size, P.less.kept, P.less.now.set x b, P.less.wait, P.less.off, P.less.arm, P.less.keep, P.less.writes⟩ : PlV).writes = P.less.writes from rfl] at d7
  rw [← hWr] at d7 hwr hw8
  clear h7 hk8 hb8 hrow7 hk7 hf7 hN7 hkw7
  have H8 := Lib.hid h8
  have Hkw8 := Lib.hid hkw8
  have Hw8 := Lib.hid hw8
  have HWr := Lib.hid hWr
  clear h8 hkw8 hw8 hWr
  go_wp2_with fail
  rw [← Hw8.out]
  go_ret
  exact ⟨rfl, ⟨_, _, _, _, _, H8.out⟩, Hk1.out.trans Hkw8.out (fun _ _ h => h)⟩
set_option maxRecDepth 20000 in
set_option maxHeartbeats 8000000 in
theorem pwrite_cut (x : Nat) (b : List UInt8) (h : PAt w0 w p kv nv wv kp gk P) (ho : P.off = false) (hx : x < P.now.length) (hb : b.length = P.size) (hnb : P.now.length ≤ 100000) (hmb : P.wait.length ≤ 100000) (hwb : P.writes < 1000000000) (ha1 : P.arm = 1) : Calls Try.prog 31 #[.pointer (some ⟨p, 0, none⟩), .int .i64 x, .string (strOf b)] w (RetP 22 w0 w p (P.less.power P.keep)) := by
  have ha2 : P.arm ≤ 9223372036854775807 := by omega
  have c4 := h.cell 4
  have c2 := h.cell 2
  have c0 := h.cell 0
  have c5 := h.cell 5
  rw [ho] at c4
  obtain ⟨An, cn, hnv, -⟩ := h.now.form
  obtain ⟨Aw, cw, hwv, -⟩ := h.wait.form
  obtain ⟨Ap, cp, hkp, -⟩ := id h.keep
  subst hnv hwv hkp
  obtain ⟨n, hn⟩ : ∃ n, n = P.now.length := ⟨_, rfl⟩
  obtain ⟨m, hm⟩ : ∃ m, m = P.wait.length := ⟨_, rfl⟩
  obtain ⟨z, hz⟩ : ∃ z, z = P.size := ⟨_, rfl⟩
  obtain ⟨nk, hnk⟩ : ∃ n, n = P.keep.length := ⟨_, rfl⟩
  have hlen : (strOf b).data.size = b.length := by simp [strOf]
  have hlen2 : (strOf b).size = b.length := by simp [strOf, ByteArray.size]
  rw [hb] at hlen hlen2
  rw [← hn] at c2 hx hnb h
  rw [← hm] at hmb h
  rw [← hz] at c0 hlen hlen2
  rw [← hnk] at h
  simp only [List.getElem?_toArray, List.getElem?_cons_succ, List.getElem?_cons_zero] at c4 c2 c0 c5
  have h3 : ((z : Int) != (z : Int)) = false := by simp
  have hxI : ¬ (n : Int) ≤ (x : Int) := by omega
  have hx0 : ¬ (x : Int) < 0 := by omega
  have hx1 : (0 : Int) ≤ (x : Int) := by omega
  have hx2 : (x : Int) < n := by omega
  have hwl : IntKind.i64.wrap (P.arm - 1) = P.arm - 1 := IntWalk.i64_in _ (by omega)
  obtain ⟨w1, hw1⟩ : ∃ w1, w1 = w.setCell ⟨p, 5, none⟩ (.int .i64 (P.arm - 1)) := ⟨_, rfl⟩
  have hk1 : Keeps (only p) w w1 := by rw [hw1]; exact (Keeps.refl (only p) w).setCell (p := ⟨p, 5, none⟩) (fun _ => rfl) _
  have hb1 := h.box.set_ 5 (.int .i64 (P.arm - 1))
  rw [← hw1] at hb1
  have h1 : PAt w0 w1 p kv (.slice An n cn) (.slice Aw m cw) (.slice Ap nk cp) gk P.less := h.turn hk1 (P' := P.less) (by simpa [PlV.less] using hb1) h.kept h.now h.wait h.keep h.hg h.wlt h.nlen
  have f5 := h.box.frozen 5
  have c5b := h1.cell 5
  simp only [List.getElem?_toArray, List.getElem?_cons_succ, List.getElem?_cons_zero] at c5b
  have e5 : P.less.arm = P.arm - 1 := rfl
  rw [e5] at c5b
  obtain ⟨a, hA⟩ : ∃ a, a = P.arm := ⟨_, rfl⟩
  rw [← hA] at c5 hwl hw1 c5b ha1 ha2
  clear hb1 e5
  have haI : 0 < a := by omega
  have hne : (a - 1 == 0) = true := by simp; omega
  have hc := ppower_any Ap cp gk P.keep h1 (by have := h1.keep; rw [hnk] at this; exact this) (by show P.wait.length ≤ _; omega) (by have := h1.nlen; show P.kept.length ≤ _; have e : P.less.now.length = P.now.length := rfl; have e2 : P.less.kept.length = P.kept.length := rfl; omega)
  rw [← hnk] at hc
  have c6 := h1.cell 6
  simp only [List.getElem?_toArray, List.getElem?_cons_succ, List.getElem?_cons_zero] at c6
  have H := Lib.hid h
  have H1 := Lib.hid h1
  have Hn := Lib.hid hn
  have Hm := Lib.hid hm
  have Hz := Lib.hid hz
  have Hnk := Lib.hid hnk
  have Hk1 := Lib.hid hk1
  have Hw1 := Lib.hid hw1
  have HA := Lib.hid hA
  have Hc := Lib.hid hc
  have Ha1 := Lib.hid ha1
  clear h h1 hn hm hz hnk hk1 hw1 hA hc ha1
  go_enter Try.func31, Try.ntmps31
  go_upto_region 7 with fail
  rw [← Hw1.out]
  go_wp2_with fail
  refine Hc.out.mono ?_
  rintro e w2 ⟨rfl, hp, hk2⟩
  go_wp2_with fail
  go_ret
  exact ⟨rfl, hp, Hk1.out.trans hk2 (fun _ _ h => h)⟩
/-- the document's write -/
theorem pk_write (s : Int) (b : List UInt8) (h : PK w0 w p P) (hnb : P.now.length ≤ 100000) (hmb : P.wait.length ≤ 100000) (hwb : P.writes < 1000000000) (ha2 : P.arm ≤ 9223372036854775807) :
    Calls Try.prog 31 #[.pointer (some ⟨p, 0, none⟩), .int .i64 s, .string (strOf b)] w (RetP (P.write s b).1 w0 w p (P.write s b).2) := by
  obtain ⟨kv, nv, wv, kp, gk, h⟩ := h
  unfold PlV.write
  by_cases ho : P.off = true
  · rw [if_pos ho]; exact pwrite_off s b h ho
  · rw [if_neg ho]
    have ho' : P.off = false := by simpa using ho
    by_cases hb : 0 ≤ s ∧ s < P.now.length ∧ b.length = P.size
    · rw [if_pos hb]
      obtain ⟨h1, h2, h3⟩ := hb
      obtain ⟨x, rfl⟩ := Int.eq_ofNat_of_zero_le h1
      rw [Int.toNat_natCast]
      by_cases ha : 0 < P.arm
      · rw [if_pos ha]
        by_cases h1 : P.arm = 1
        · rw [if_pos h1]; exact pwrite_cut x b h ho' (by omega) h3 hnb hmb hwb h1
        · rw [if_neg h1]; exact pwrite_less x b h ho' (by omega) h3 hnb hmb hwb (by omega) ha2
      · rw [if_neg ha]; exact pwrite_put x b h ho' (by omega) h3 hnb hmb hwb (by omega)
    · rw [if_neg hb]; exact pwrite_arg s b h ho' hb
end
end Go.Proofs.Ytnddaildicmneaa
