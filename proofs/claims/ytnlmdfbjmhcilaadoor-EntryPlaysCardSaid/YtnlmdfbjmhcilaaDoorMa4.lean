/-
  Parts of the proof, joined in build order: NumTake, Ex10, Ex11, ExP, ExQ, Ex14, Ex15, OpenS, OpenBy, OpenE.
-/
import Derived.Test.YtnlmdfbjmhcilaaDoorMa3
import Derived.RangeFuncWrites
import Derived.Sort.Walk0
import Derived.Deep.Slices
import Derived.Deep.Fields
import Derived.ChangeSame
import Derived.ProofKit
import Derived.OpenShut
import Derived.Test.YtnlmdfbjmhcilaaDoorRows
import Derived.Lib.SmallJoins
set_option linter.unusedVariables false
set_option linter.unusedSimpArgs false
/-
  num.In.Take and num.In.Raw: a number, bytes; or an error that stays.
-/
namespace Go.Proofs.YtnlmdfbjmhcilaaDoor
open Go.RowKit

/-- what Take does: the value and what is left, the error -/
def takeVal (L : List UInt8) (err n : Int) : Nat := if err = 0 ∧ 1 ≤ n ∧ n ≤ 8 ∧ n ≤ L.length then le (L.take n.toNat) else 0
def takeErr (L : List UInt8) (err n : Int) : Int := if err ≠ 0 then err else if n < 1 ∨ 8 < n then 1 else if L.length < n then 4 else 0
def takeLeft (L : List UInt8) (err n : Int) : List UInt8 := if err = 0 ∧ 1 ≤ n ∧ n ≤ 8 ∧ n ≤ L.length then L.drop n.toNat else L

def RetTake (w : World) (p : Nat) (g : Option Nat) (L : List UInt8) (err n : Int) : Ending → World → Prop := fun e w' =>
  e = .returned (.int .u64 (takeVal L err n)) ∧ InAt w' p g (takeLeft L err n) (takeErr L err n) ∧ Keeps (only p) w w'

set_option maxHeartbeats 400000 in
theorem take_bad (p : Nat) (g : Option Nat) (L : List UInt8) (err n : Int) (w : World) (h : InAt w p g L err) (he : err ≠ 0) :
    Calls Tryd.prog 61 #[.pointer (some ⟨p, 0, none⟩), .int .i64 n] w (RetTake w p g L err n) := by
  have hfin : RetTake w p g L err n (.returned (.int .u64 0)) w := ⟨by simp [takeVal, he], by simpa [takeLeft, takeErr, he] using h, Keeps.refl _ _⟩
  obtain ⟨v, hb, hr, _⟩ := h
  have hc1 := hb.cell 1
  simp at hc1
  have he' : (err != 0) = true := by simpa using he
  have Hfin := Lib.hid hfin
  clear hr hb he hfin
  go_enter Tryd.func61, Tryd.ntmps61
  go_wp2
  go_ret
  exact Hfin.out

set_option maxHeartbeats 400000 in
theorem take_arg (p : Nat) (g : Option Nat) (L : List UInt8) (n : Int) (w : World) (h : InAt w p g L 0) (hn : n < 1 ∨ 8 < n) :
    Calls Tryd.prog 61 #[.pointer (some ⟨p, 0, none⟩), .int .i64 n] w (RetTake w p g L 0 n) := by
  obtain ⟨v, hb, hr, hg⟩ := h
  have hc1 := hb.cell 1
  simp at hc1
  have hk := (Keeps.refl (only p) w).setCell (p := ⟨p, 1, none⟩) (fun _ => rfl) (.int .i64 1)
  have hfin : RetTake w p g L 0 n (.returned (.int .u64 0)) (w.setCell ⟨p, 1, none⟩ (.int .i64 1)) := by
    refine ⟨?_, ?_, hk⟩
    · rw [takeVal, if_neg (by omega)]; rfl
    · rw [takeLeft, if_neg (by omega), takeErr, if_neg (by simp), if_pos hn]
      exact ⟨v, by simpa using hb.set_ 1 (.int .i64 1), hr.keep hk (fun b hb' e => hg (by rw [hb']; exact congrArg some e)), hg⟩
  have Hfin := Lib.hid hfin
  have Hb := Lib.hid hb
  have hmi : ∀ w, (Instr.makeInterface 26 (.int .i64 1)).run Tryd.prog w = .ok (.iface 26 (.int .i64 1)) w := fun _ => by kernel_rfl
  clear hr hb hfin hk
  by_cases h1 : n < 1
  all_goals
    try have h8 : (8 : Int) < n := by omega
    go_enter_defers Tryd.func61, Tryd.ntmps61
    go_wp2
    refine leaves_cons (f := 89) (args := #[.pointer (some ⟨p, 0, none⟩)]) (by simp) (by simp [go_sem]) ?_
    refine (caught_panic p 1 v 0 [] w Hb.out).mono ?_
    rintro e u' w'' ⟨rfl, rfl, rfl⟩
    simp [Leaves, settle, results, Tryd.results61, go_sem]
    exact Hfin.out

set_option maxHeartbeats 400000 in
theorem take_short (p : Nat) (g : Option Nat) (L : List UInt8) (n : Int) (w : World) (h : InAt w p g L 0) (h1 : 1 ≤ n) (h8 : n ≤ 8) (hn : L.length < n) :
    Calls Tryd.prog 61 #[.pointer (some ⟨p, 0, none⟩), .int .i64 n] w (RetTake w p g L 0 n) := by
  have hcut := cut_short p g L 0 n w h hn
  obtain ⟨v, hb, hr, hg⟩ := h
  have hc1 := hb.cell 1
  simp at hc1
  have hk := (Keeps.refl (only p) w).setCell (p := ⟨p, 1, none⟩) (fun _ => rfl) (.int .i64 4)
  have hfin : RetTake w p g L 0 n (.returned (.int .u64 0)) (w.setCell ⟨p, 1, none⟩ (.int .i64 4)) := by
    refine ⟨?_, ?_, hk⟩
    · rw [takeVal, if_neg (by omega)]; rfl
    · rw [takeLeft, if_neg (by omega), takeErr, if_neg (by simp), if_neg (by omega), if_pos hn]
      exact ⟨v, by simpa using hb.set_ 1 (.int .i64 4), hr.keep hk (fun b hb' e => hg (by rw [hb']; exact congrArg some e)), hg⟩
  have Hfin := Lib.hid hfin
  have Hb := Lib.hid hb
  have Hcut := Lib.hid hcut
  clear hr hb hfin hk hcut
  have h1' : ¬ n < 1 := by omega
  have h8' : ¬ (8 : Int) < n := by omega
  go_enter_defers Tryd.func61, Tryd.ntmps61
  go_wp2_with fail
  refine Hcut.out.mono ?_
  rintro e w' ⟨rfl, rfl⟩
  refine leaves_cons (f := 89) (args := #[.pointer (some ⟨p, 0, none⟩)]) (by simp) (by simp [go_sem]) ?_
  refine (caught_panic p 4 v 0 [] w Hb.out).mono ?_
  rintro e u' w'' ⟨rfl, rfl, rfl⟩
  simp [Leaves, settle, results, Tryd.results61, go_sem]
  exact Hfin.out

set_option maxHeartbeats 400000 in
theorem take_ok (p : Nat) (g : Option Nat) (L : List UInt8) (n : Nat) (w : World) (h : InAt w p g L 0) (h1 : 1 ≤ n) (h8 : n ≤ 8) (hn : n ≤ L.length) :
    Calls Tryd.prog 61 #[.pointer (some ⟨p, 0, none⟩), .int .i64 n] w (RetTake w p g L 0 n) := by
  have hcut := cut_ok p g L 0 n w h hn
  have hc1 : w.cell? ⟨p, 1, none⟩ = some (.int .i64 0) := by
    obtain ⟨v, hb, hr, hg⟩ := h
    simpa using hb.cell 1
  have Hcut := Lib.hid hcut
  clear hcut h
  have h1' : ¬ (n : Int) < 1 := by omega
  have h8' : ¬ (8 : Int) < n := by omega
  go_enter_defers Tryd.func61, Tryd.ntmps61
  go_wp2_with fail
  refine Hcut.out.mono ?_
  rintro e w1 ⟨v', rfl, hr, hin, hk⟩
  have Hin := Lib.hid hin
  have Hk := Lib.hid hk
  have hTn : (L.take n).length = n := by simp; omega
  obtain ⟨A, c, rfl, hlc, hcm⟩ := hr.form
  have hlen : ((L.take n).map bv).length = n := by simp; omega
  rw [hlen]
  rw [hlen] at hr
  obtain ⟨T, hT⟩ : ∃ T, T = L.take n := ⟨_, rfl⟩
  rw [← hT] at hr hTn
  have HT := Lib.hid hT
  clear hin hk hlen hlc hT
  obtain ⟨b, off, cap, hv, rfl, _, hl, hm, hc⟩ := hr.plain (by simp [hTn]; omega)
  injection hv with hv1 hv2 hv3
  subst hv1
  clear hv2 hv3
  have Hc := Lib.hid hc
  have HTn := Lib.hid hTn
  clear hc hTn
  go_wp2_with fail
  go_loop [4, 24] (fun x i => ∃ k : Nat, k ≤ n ∧ i = .int .i64 k ∧ x = .int .u64 (le (T.take k))) (fun _ i => n - (intOf i).toNat)
  case atStart => exact ⟨0, Nat.zero_le _, rfl, by simp [le]⟩
  case round =>
    obtain ⟨k, hkn, rfl, rfl⟩ := hrel
    by_cases hlt : k < n
    · have hkT : k < T.length := by rw [HTn.out]; exact hlt
      have hcell : w1.cell? ⟨b, off + k, none⟩ = some (.int .u8 (T[k].toNat : Int)) := Hc.out k _ (get_bv T k hkT)
      have hw8 : IntKind.i64.wrap (8 * (k : Int)) = 8 * k := IntWalk.i64_in _ (by omega)
      have h80 : (0 : Int) ≤ 8 * k := by omega
      have hor := or_byte (le (T.take k)) k T[k] (by omega) (by have := le_lt (T.take k); rwa [show (T.take k).length = k from by simp; omega] at this)
      have hsn : le (T.take (k + 1)) = le (T.take k) + T[k].toNat * 256 ^ k := by
        rw [List.take_succ_eq_append_getElem hkT, le_snoc, show (T.take k).length = k from by simp; omega]
      have Hor := Lib.hid hor
      have Hsn := Lib.hid hsn
      clear hor hsn
      go_wp2_with fail
      refine ⟨⟨k + 1, by omega, by go_num, ?_⟩, by simp [intOf]; omega⟩
      rw [Hor.out, Hsn.out]
    · go_wp2_with fail
      obtain rfl : k = n := by omega
      refine leaves_cons (f := 89) (args := #[.pointer (some ⟨p, 0, none⟩)]) (by simp) (by simp [go_sem]) ?_
      refine (caught_idle p w1).mono ?_
      rintro e u' w'' ⟨rfl, rfl, rfl⟩
      simp [Leaves, settle, results, Tryd.results61, go_sem]
      have hT := HT.out
      have hfull : T.take k = T := List.take_of_length_le (by rw [HTn.out]; exact Nat.le_refl _)
      rw [hfull]
      refine ⟨?_, ?_, Hk.out⟩
      · rw [takeVal, if_pos (by omega), hT]; simp
      · rw [takeLeft, if_pos (by omega), takeErr, if_neg (by simp), if_neg (by omega), if_neg (by omega)]
        simpa using Hin.out

theorem take_any (p : Nat) (g : Option Nat) (L : List UInt8) (err n : Int) (w : World) (h : InAt w p g L err) :
    Calls Tryd.prog 61 #[.pointer (some ⟨p, 0, none⟩), .int .i64 n] w (RetTake w p g L err n) := by
  by_cases he : err = 0
  · subst he
    by_cases h1 : n < 1 ∨ 8 < n
    · exact take_arg p g L n w h h1
    · by_cases h2 : L.length < n
      · exact take_short p g L n w h (by omega) (by omega) h2
      · obtain ⟨m, rfl⟩ := Int.eq_ofNat_of_zero_le (show 0 ≤ n by omega)
        exact take_ok p g L m w h (by omega) (by omega) (by omega)
  · exact take_bad p g L err n w h he
end Go.Proofs.YtnlmdfbjmhcilaaDoor
/-
  entry: read (the range over Chunk).
-/
namespace Go.Proofs.YtnlmdfbjmhcilaaDoor
open Go.Proofs Go.RowKit Go.Shelf

attribute [local go_sem] Oper.semAt_some strOf_size strOf_get strOf_toList

def pieceL (L : List UInt8) (z x : Nat) : List UInt8 := (L.drop x).take z
def entP (R : List UInt8) : EntV := ((R.drop 4).take (trimN (R.drop 4) (R.drop 4).length), le (R.take 4))
def parseE {n : Nat} (L : List UInt8) (xs : List (Fin n)) : List EntV := xs.map fun x => entP (pieceL L 32 (x.val * 32))
theorem keepsFrom_of {B : Nat} {S : Nat → Prop} {W W' : World} (h : Keeps S W W') (hS : ∀ k, S k → ∃ cs T fr, W.heap[k]? = some (.cells cs T fr)) : KeepsFrom B W W' := ⟨h.size, fun k o _ hk ho => by
  by_cases hs : S k
  · obtain ⟨cs, T, fr, e⟩ := hS k hs
    rw [e] at hk
    injection hk with hk
    subst hk
    cases ho
  · exact (h.block k (Array.getElem?_eq_some_iff.1 hk).1 hs).trans hk⟩
/-- between two rounds -/
structure RdI {n : Nat} (w : World) (Bt B1 B2 : Nat) (L : List UInt8) (pre : List (Fin n)) (W : World) (lv : Value) : Prop where
  row : recE.Row W lv (parseE L pre)
  box : Blk W Bt 22 #[lv]
  own : ∀ k, lv.ownBlock = some k → w.heap.size ≤ k ∧ k ≠ Bt ∧ k ≠ B1 ∧ k ≠ B2
  kp : Keeps nowhere w W
  b1 : B1 < W.heap.size
  b2 : B2 < W.heap.size
section
variable {w W W' : World} {Bt B1 B2 : Nat} {L : List UInt8} {n : Nat} {pre : List (Fin n)} {lv : Value}
theorem RdI.turned (h : RdI w Bt B1 B2 L pre W lv) {row : Option Nat} (hg : W.grownBy W' row) {B : Nat} (hB : w.heap.size ≤ B) (hr : ∀ r, row = some r → B ≤ r ∧ ∃ o : Obj, W.heap[r]? = some o ∧ o.isCells = false) : RdI w Bt B1 B2 L pre W' lv := by
  have hk : Keeps (fun k => row = some k) W W' := (Keeps.refl _ W).grown hg (fun _ h _ => h)
  have hno : ∀ {k : Nat} {T : TypeId} {cs : Array Value}, Blk W k T cs → row ≠ some k := fun hb e => by
    obtain ⟨-, o, ho, hc⟩ := hr _ e
    unfold Blk at hb
    rw [hb] at ho
    injection ho with ho
    rw [← ho] at hc
    cases hc
  refine ⟨h.row.keep hk (fun k e e2 => ?_), h.box.keep hk (hno h.box), h.own, h.kp.trans hk (fun k hk e => by have := (hr k e).1; omega), Nat.lt_of_lt_of_le h.b1 hg.size, Nat.lt_of_lt_of_le h.b2 hg.size⟩
  rcases h.row.blk with ⟨rfl, -⟩ | ⟨b2, c2, rest, rfl, hb2, -⟩
  · simp [Value.ownBlock] at e
  · simp only [Value.ownBlock, Option.some.injEq] at e
    subst e
    exact hno hb2 e2
end
theorem entP_ok {L : List UInt8} {n : Nat} (xs : List (Fin n)) : OkE (parseE L xs) := by
  intro i x hx
  unfold parseE at hx
  rw [List.getElem?_map] at hx
  obtain ⟨y, -, rfl⟩ := Option.map_eq_some_iff.1 hx
  have h1 := trimN_le ((pieceL L 32 (y.val * 32)).drop 4) ((pieceL L 32 (y.val * 32)).drop 4).length
  have h2 : (pieceL L 32 (y.val * 32)).length ≤ 32 := by unfold pieceL; rw [List.length_take]; omega
  have h3 := le_lt ((pieceL L 32 (y.val * 32)).take 4)
  have h4 : ((pieceL L 32 (y.val * 32)).take 4).length ≤ 4 := by rw [List.length_take]; omega
  have h5 : 256 ^ ((pieceL L 32 (y.val * 32)).take 4).length ≤ 256 ^ 4 := Nat.pow_le_pow_right (by decide) h4
  refine ⟨?_, ?_⟩
  · unfold entP
    simp only [List.length_take, List.length_drop]
    omega
  · show le _ < 4294967296
    have h6 : (256 : Nat) ^ 4 = 4294967296 := by decide
    omega
theorem rdB_piece {w : World} {b o N c : Nat} {g : Option Nat} {L : List UInt8} (h : recB.Rd w (.slice (some ⟨b, o, none⟩) N c) g L) {x z : Nat} (hx : x + z ≤ L.length) (hz : 0 < z) : recB.Rd w (.slice (some ⟨b, o + x, none⟩) z z) g (pieceL L z x) ∧ (pieceL L z x).length = z := by
  have hl : (pieceL L z x).length = z := by unfold pieceL; rw [List.length_take, List.length_drop]; omega
  obtain ⟨A, cap, hv, h1, h2, hu, h3, h4⟩ := h
  injection hv with hA _ _
  subst hA
  obtain ⟨b', o', hA, hg, hc⟩ := h3 (by omega)
  injection hA with hA
  injection hA with e1 e2
  subst e1 e2
  refine ⟨⟨some ⟨b, o + x, none⟩, z, by rw [hl], by rw [hl]; exact Nat.le_refl _, by omega, hu, fun _ => ⟨b, o + x, rfl, hg, fun i t hi => ?_⟩, fun h => by cases h⟩, hl⟩
  have hi2 : L[x + i]? = some t := by
    unfold pieceL at hi
    rw [List.getElem?_take] at hi
    split at hi
    · rwa [List.getElem?_drop] at hi
    · cases hi
  have := hc (x + i) t hi2
  rw [show (x + i) * recB.n = x + i from Nat.mul_one _] at this
  rw [show i * recB.n = i from Nat.mul_one _, Nat.add_assoc]
  exact this
def rowsE (L : List UInt8) : Option (List EntV) := if L.length % 32 = 0 then (if checkE (parseE L (List.finRange (L.length / 32))) = 0 ∧ bytesE (parseE L (List.finRange (L.length / 32))) = L then some (parseE L (List.finRange (L.length / 32))) else none) else none
def ReadP (L : List UInt8) (w : World) : Ending → World → Prop := fun e w' => Keeps nowhere w w' ∧ match rowsE L with
  | none => e = .panicked [{ v := .iface 69 (.agg #[]), recovered := false }]
  | some l => ∃ v g, e = .returned v ∧ recE.Rd w' v g l ∧ Above w.heap.size g
theorem ReadP.yes {L : List UInt8} {w w' : World} {l : List EntV} {v : Value} {g : Option Nat} (h : rowsE L = some l) (hk : Keeps nowhere w w') (hr : recE.Rd w' v g l) (ha : Above w.heap.size g) : ReadP L w (.returned v) w' := ⟨hk, by rw [h]; exact ⟨v, g, rfl, hr, ha⟩⟩
theorem ReadP.no {L : List UInt8} {w w' : World} (h : rowsE L = none) (hk : Keeps nowhere w w') : ReadP L w (.panicked [{ v := .iface 69 (.agg #[]), recovered := false }]) w' := ⟨hk, by rw [h]⟩
set_option maxRecDepth 100000 in
set_option maxHeartbeats 8000000 in
theorem read_any (A : Option Addr) (b o c n : Nat) (g : Option Nat) (L : List UInt8) (w : World) (hr : recB.Rd w (.slice A (n * 32) c) g L) (hA : 0 < n → A = some ⟨b, o, none⟩) (hn : n ≤ 10000) :
    Calls Tryd.prog 31 #[.slice A (n * 32) c] w (ReadP L w) := by
  obtain ⟨N, hN⟩ : ∃ N, N = n * 32 := ⟨_, rfl⟩
  have hrem : Int.tmod (N : Int) (32 : Int) = 0 := by rw [hN, Int.tmod_eq_emod_of_nonneg (by omega)]; simp
  have hw1 : IntKind.i64.wrap (0 : Int) = 0 := rfl
  rw [← hN] at hr ⊢
  obtain ⟨A', c', hv, hNc, hcm, -⟩ := id hr
  injection hv with hA' hNL hcc
  subst hA' hcc
  rw [← hNL] at hNc
  obtain ⟨Bt, hBt⟩ : ∃ B, B = w.heap.size := ⟨_, rfl⟩
  obtain ⟨w1, hw1'⟩ : ∃ w1, w1 = w.alloc (.cells #[.slice none 0 0] 22) := ⟨_, rfl⟩
  have hkw1 : Keeps nowhere w w1 := by rw [hw1']; exact (Keeps.refl nowhere w).alloc _
  have hs1 : w1.heap.size = w.heap.size + 1 := by rw [hw1']; simp
  have hbx1 : Blk w1 Bt 22 #[.slice none 0 0] := by rw [hw1', hBt]; exact Blk.new _ _ _
  have hchunk := chunk_any A N c 32 w1 (by omega)
  have Hr := Lib.hid hr
  have HN := Lib.hid hN
  have Hkw1 := Lib.hid hkw1
  have HNL := Lib.hid hNL
  have Hchunk := Lib.hid hchunk
  have Hw1' := Lib.hid hw1'
  have Hs1 := Lib.hid hs1
  have Hbx1 := Lib.hid hbx1
  have HBt := Lib.hid hBt
  have HA := Lib.hid hA
  clear hr hN hkw1 hNL hchunk hw1' hs1 hbx1 hBt hA
  refine (callsIn_wide (n := 9)).1 (callsIn_of_wp_marks Tryd.func31 rfl trivial ?_ rfl)
  refine wpIn_wide.2 ?_
  simp only [Tryd.ntmps31, List.size_toArray, List.length_cons, List.length_nil, Nat.reduceAdd, Nat.reduceSub, Array.replicate_succ, Array.replicate_zero, List.push_toArray, List.append_toArray, List.nil_append, List.cons_append]
  go_upto_region 4 with fail
  rw [← Hw1'.out]
  simp only [← HBt.out]
  go_wp2_with fail
  refine Hchunk.out.mono ?_
  rintro e w' ⟨rfl, rfl⟩
  go_wp2_with fail
  obtain ⟨B1, hB1⟩ : ∃ B, B = w1.heap.size := ⟨_, rfl⟩
  obtain ⟨B2, hB2⟩ : ∃ B, B = w1.heap.size + 1 := ⟨_, rfl⟩
  obtain ⟨w2, hw2⟩ : ∃ w2, w2 = (w1.alloc (.cells #[.slice A N c] 25)).alloc (.cells #[.int .i64 32] 3) := ⟨_, rfl⟩
  have hs2 : w2.heap.size = w1.heap.size + 2 := by rw [hw2]; simp
  have hk12 : Keeps nowhere w1 w2 := by rw [hw2]; exact ((Keeps.refl nowhere w1).alloc _).alloc _
  have x1 : w2.cell? ⟨B1, 0, none⟩ = some (.slice A N c) := by
    have h1 := (Blk.new w1 25 #[.slice A N c]).alloc (.cells #[.int .i64 32] 3)
    rw [← hw2, ← hB1] at h1
    have := h1.cell 0
    simpa using this
  have x2 : w2.cell? ⟨B2, 0, none⟩ = some (.int .i64 32) := by
    have h1 := Blk.new (w1.alloc (.cells #[.slice A N c] 25)) 3 #[.int .i64 32]
    rw [← hw2] at h1
    have := h1.cell 0
    rw [World.size_alloc, ← hB2] at this
    simpa using this
  have hI0 : ∃ lv, RdI (n := n) w Bt B1 B2 L [] w2 lv := ⟨.slice none 0 0, by simpa [parseE] using (RecT.Row.nil recE w2), Hbx1.out.keep hk12 (fun h => h), fun k h => by simp [Value.ownBlock] at h, Hkw1.out.more hk12, by omega, by omega⟩
  have Hsz := Lib.hid hs2
  rw [← hw2]
  simp only [← hB2]
  simp only [← hB1]
  clear hw2 hs2 Hchunk Hw1' 
  have HI0 := Lib.hid hI0
  have X1 := Lib.hid x1
  have X2 := Lib.hid x2
  have Hk12 := Lib.hid hk12
  have HB1 := Lib.hid hB1
  have HB2 := Lib.hid hB2
  clear hI0 x1 x2 hk12 hB1 hB2
  refine (wpIn_wide (n := 8)).1 ?_
  refine wpIn_rangeFunc_ownG (α := Fin n) rfl (by omega) (gf := 84) (lb := #[.pointer (some ⟨B1, 0, none⟩), .pointer (some ⟨B2, 0, none⟩)]) rfl trivial (enters_of Tryd.func84 (by kernel_rfl) rfl)
    (chunk_stopsA A (8 - 1) B1 B2 b o c n 32 w2 HA.out (by omega) (by omega) (by rw [← HN.out]; exact hNc) hcm (by have := Hsz.out; have := HB1.out; omega) (by have := Hsz.out; have := HB2.out; omega) (by rw [← HN.out]; exact X1.out) X2.out) KpC.t ?kb (Below.refl _ _) (fun _ => rfl)
    (fun pre W => ∃ lv, RdI w Bt B1 B2 L pre W lv) (fun _ _ _ => False) ?own (fun _ _ _ _ _ h _ _ => h) HI0.out ?act ?assign ?body ?done ?stop
  case kb =>
    intro W l o o' hl ho _ _
    have e1 : B1 ≠ l := by have := Hsz.out; have := HB1.out; omega
    have e2 : B2 ≠ l := by have := Hsz.out; have := HB2.out; omega
    exact ⟨World.cell?_of_block (World.putObj_heap_other e1), World.cell?_of_block (World.putObj_heap_other e2)⟩
  case own =>
    rintro pre W W' row ⟨lv, h⟩ hg hr
    exact ⟨lv, h.turned hg (B := w2.heap.size) (by have := Hsz.out; have := Hs1.out; omega) hr⟩
  case assign =>
    intro l x W K hK
    gi_wp2
    exact hK
  case stop =>
    rintro D c pre W hD hS h
    exact h.elim
  case body =>
    rintro l pre x W ⟨lv, h⟩ hlen
    have hLN : L.length = N := HNL.out.symm
    have hxz : x.val * 32 + 32 ≤ N := by
      rw [HN.out, ← Nat.succ_mul]
      exact Nat.mul_le_mul_right _ x.isLt
    obtain ⟨i, hi⟩ : ∃ i, i = x.val * 32 := ⟨_, rfl⟩
    rw [← hi] at hxz
    have hRA := Hr.out
    rw [HA.out (by have := x.isLt; omega)] at hRA
    obtain ⟨hpr, hpl⟩ := rdB_piece (hRA.same h.kp) (x := i) (z := 32) (by omega) (by omega)
    obtain ⟨R, hR⟩ : ∃ R, R = pieceL L 32 i := ⟨_, rfl⟩
    rw [← hR] at hpr hpl
    have hp4 := hpr.drop 4 (by omega)
    rw [show o + i + 4 * recB.n = o + i + 4 from rfl] at hp4
    have htr := trimR_any b (o + i + 4) 28 28 g (R.drop 4) W hp4 (by rw [List.length_drop, hpl]) (by omega)
    obtain ⟨r, hrr⟩ : ∃ r, r = trimN (R.drop 4) 28 := ⟨_, rfl⟩
    have hr28 : r ≤ 28 := by rw [hrr]; exact trimN_le _ _
    rw [← hrr] at htr
    have hcs := conv_str _ g ((R.drop 4).take r) W (rd_of (hp4.take r (by rw [List.length_drop, hpl]; omega)))
    obtain ⟨A1, c1, hkv, -⟩ := h.row.form
    have hkl : (parseE L pre).length = pre.length := by simp [parseE]
    rw [hkl] at hkv
    subst hkv
    unfold pieceV
    rw [← hi]
    have H := Lib.hid h
    have HLN := Lib.hid hLN
    have Hi := Lib.hid hi
    have HR := Lib.hid hR
    have Hpr := Lib.hid hpr
    have Hpl := Lib.hid hpl
    have Hrr := Lib.hid hrr
    have Htr := Lib.hid htr
    have Hkl := Lib.hid hkl
    have Hp4 := Lib.hid hp4
    clear h hLN hi hR hpr hpl hrr htr hkl hp4
    refine wpIn_block ?_
    refine wpIn_seq_k fun K hK => ?_
    refine wpIn_region_plain (by rintro ⟨a, w, h⟩; exact h) (by kernel_rfl) fun K2 hK2 => ?_
    go_wp2_with fail
    refine Htr.out.mono ?_
    rintro e w' ⟨rfl, rfl⟩
    go_wp2_with fail
    clear hcs
    have hkd := (Keeps.refl nowhere W).drew
    obtain ⟨S, hS⟩ : ∃ S : World → Prop, ∀ w', S w' ↔ w'.cell? ⟨Bt, 0, none⟩ = some (.slice A1 pre.length c1) := ⟨_, fun _ => Iff.rfl⟩
    have q1 : ∀ w', S w' → w'.cell? ⟨Bt, 0, none⟩ = some (.slice A1 pre.length c1) := fun w' h => (hS w').1 h
    have hSk : ∀ (w' : World) (S' : Nat → Prop), Keeps S' W w' → ¬ S' Bt → S w' := fun w' S' hk n1 => (hS _).2 (by have := (H.out.box.keep hk n1).cell 0; simpa using this)
    have s0 : S W.drew := hSk _ _ hkd (fun h => h)
    have hof := in_of _ g R W.drew (rd_of (Hpr.out.same hkd)) (by have := Hpl.out; omega)
    clear hS
    have HSk := Lib.hid hSk
    have Hof := Lib.hid hof
    clear hSk hof
    refine wpIn_region_script [0, 1, 2, 5, 6] [0] [.fs [0], .ps [1, 2], .es [3] true, .es [4] true, .ps [5, 6], .es [7] true, .es [8, 9] false] S rfl (by rintro ⟨a, w, h⟩; exact h) (by kernel_rfl) ?_
    refine wpS_fs rfl (s0) fun K hK => ?_
    simp only [List.map_cons, List.map_nil, Option.getD_some, List.getElem?_toArray, List.getElem?_cons_zero, List.getElem?_cons_succ]
    iterate 1 (first | (apply quietO_cons _ rfl; (intro w' hs; have c_0 := q1 w' hs; go_simp; rfl)) | apply quietO_skip rfl)
    refine hK _ ?_
    clear hK K
    simp only [Act.put, List.setIfInBounds_toArray, List.set_cons_zero, List.set_cons_succ]
    refine wpS_ps rfl fun K hK => ?_
    simp only [List.map_cons, List.map_nil, Option.getD_some, List.getElem?_toArray, List.getElem?_cons_zero, List.getElem?_cons_succ]
    iterate 2 (first | (apply quietO_cons _ rfl; (intro w' _; go_simp; rfl)) | apply quietO_skip rfl)
    refine hK _ ?_
    clear hK K
    simp only [Act.put, List.setIfInBounds_toArray, List.set_cons_zero, List.set_cons_succ]
    refine wpS_es rfl fun K hK => ?_
    have HK := Lib.hid hK
    clear hK
    simp only [List.map_cons, List.map_nil, Option.getD_some, List.getElem?_toArray, List.getElem?_cons_zero, List.getElem?_cons_succ]
    go_wp2_with fail
    refine Hof.out.mono ?_
    rintro e w3 ⟨p, gp, rfl, hin, hpw, hgp, hk3⟩
    have hkW3 := hkd.more hk3
    have s3 := HSk.out w3 _ hkW3 (fun h => h)
    have htk := take_ok p gp R 4 w3 hin (by omega) (by omega) (by rw [Hpl.out]; omega)
    clear hk3 hin
    have HkW3 := Lib.hid hkW3
    have Hpw := Lib.hid hpw
    have Hgp := Lib.hid hgp
    have Htk := Lib.hid htk
    clear hkW3 hpw hgp htk
    go_wp2_with fail
    refine HK.out _ _ (fun _ => s3) ?_
    clear HK K
    refine wpS_es rfl fun K hK => ?_
    have HK := Lib.hid hK
    clear hK
    simp only [List.map_cons, List.map_nil, Option.getD_some, List.getElem?_toArray, List.getElem?_cons_zero, List.getElem?_cons_succ]
    go_wp2_with fail
    refine Htk.out.mono ?_
    rintro e w4 ⟨rfl, hin4, hk4⟩
    have hkW4 := HkW3.out.fresh hk4 (by have := Hpw.out; simp at this; exact this)
    have s4 := HSk.out w4 _ hkW4 (fun h => h)
    obtain ⟨u, hu⟩ : ∃ u, u = takeVal R 0 4 := ⟨_, rfl⟩
    have hu2 : u = le (R.take 4) := by
      rw [hu]
      unfold takeVal
      rw [if_pos ⟨rfl, by omega, by omega, by rw [Hpl.out]; omega⟩]
      rfl
    have hul : u < 4294967296 := by
      have h1 := le_lt (R.take 4)
      rw [List.length_take, Hpl.out] at h1
      rw [hu2]
      simpa using h1
    have huw : IntKind.u32.wrap (u : Int) = u := by rw [IntKind.wrap_u32]; omega
    rw [show ((4 : Nat) : Int) = 4 from rfl, ← hu]
    clear hin4 hk4
    have Hu := Lib.hid hu
    have Hu2 := Lib.hid hu2
    have Hul := Lib.hid hul
    have HkW4 := Lib.hid hkW4
    clear hu hu2 hul hkW4
    go_wp2_with fail
    refine HK.out _ _ (fun _ => s4) ?_
    clear HK K
    refine wpS_ps rfl fun K hK => ?_
    simp only [List.map_cons, List.map_nil, Option.getD_some, List.getElem?_toArray, List.getElem?_cons_zero, List.getElem?_cons_succ]
    iterate 2 (first | (apply quietO_cons _ rfl; (intro w' _; go_simp; rfl)) | apply quietO_skip rfl)
    refine hK _ ?_
    clear hK K
    simp only [Act.put, List.setIfInBounds_toArray, List.set_cons_zero, List.set_cons_succ]
    refine wpS_es rfl fun K hK => ?_
    have HK := Lib.hid hK
    clear hK
    simp only [List.map_cons, List.map_nil, Option.getD_some, List.getElem?_toArray, List.getElem?_cons_zero, List.getElem?_cons_succ]
    obtain ⟨y, hy⟩ : ∃ y : EntV, y = ((R.drop 4).take r, u) := ⟨_, rfl⟩
    have hyE : y = entP R := by rw [hy, entP, List.length_drop, Hpl.out, Hrr.out, Hu2.out]
    refine RecT.wpList_buildOne (R := recE) Tryd.underlying22 infoE (by decide) rfl (.tmp 27) rfl _ rfl y (by rw [hy]; rfl) ?_
    have hk5 := HkW4.out.alloc (.cells (recE.cs y).toArray recE.t)
    have hk45 := (Keeps.refl nowhere w4).alloc (.cells (recE.cs y).toArray recE.t)
    have hrd := RecT.Rd.one recE w4 y
    obtain ⟨w5, hw5⟩ : ∃ w5, w5 = w4.alloc (.cells (recE.cs y).toArray recE.t) := ⟨_, rfl⟩
    obtain ⟨q5, hq5⟩ : ∃ q, q = w4.heap.size := ⟨_, rfl⟩
    rw [← hw5] at hk5 hk45 hrd ⊢
    simp only [← hq5] at hrd ⊢
    have hrow5 := H.out.row.same hk5
    have s5 := HSk.out w5 _ hk5 (fun h => h)
    have hlb : (parseE L pre).length + ([y] : List EntV).length ≤ 100000000 := by have := Hkl.out; simp; omega
    clear hk45
    have Hrd := Lib.hid hrd
    have Hw5 := Lib.hid hw5
    have Hq5 := Lib.hid hq5
    have Hy := Lib.hid hy
    have HyE := Lib.hid hyE
    have Hrow5 := Lib.hid hrow5
    have Hlb := Lib.hid hlb
    have Hk5 := Lib.hid hk5
    clear hrd hw5 hq5 hy hyE hrow5 hlb hk5
    go_wp2_with fail
    refine HK.out _ _ (fun _ => s5) ?_
    clear HK K
    refine wpS_es rfl fun K hK => ?_
    have HK := Lib.hid hK
    clear hK
    simp only [List.map_cons, List.map_nil, Option.getD_some, List.getElem?_toArray, List.getElem?_cons_zero, List.getElem?_cons_succ]
    go_wp2_with (at_builtin; go_must (refine RecT.wpList_append (R := recE) Tryd.underlying22 infoE rfl (by decide) rfl (.tmp 21) (.tmp 28) rfl _ (parseE L pre) rfl Hrow5.out _ _ [y] rfl Hrd.out Hlb.out ?_))
    intro v6 w6 hrow6 hk6 hf6
    have hWs := H.out.kp.size
    have hnB : Value.ownBlock (.slice A1 pre.length c1) ≠ some Bt := fun e => (H.out.own _ e).2.1 rfl
    have hkW6 : Keeps (fun k => Value.ownBlock (.slice A1 pre.length c1) = some k) W w6 := (Hk5.out.mono (fun _ _ h => h.elim)).trans hk6 (fun _ _ h => h)
    have hbx6 := H.out.box.keep hkW6 hnB
    have cu := hbx6.cell 0
    have fu := hbx6.frozen 0
    simp at cu
    have hab6 : ∀ k, v6.ownBlock = some k → w.heap.size ≤ k ∧ k ≠ Bt ∧ k ≠ B1 ∧ k ≠ B2 := fun k e => by
      rcases hf6 k e with h | h
      · exact H.out.own k h
      · have h1 := Hk5.out.size
        have h2 := H.out.b1
        have h3 := H.out.b2
        have h4 := H.out.box.lt
        exact ⟨by omega, by omega, by omega, by omega⟩
    obtain ⟨A6, c6, hv6, -⟩ := hrow6.form
    generalize hN6 : (parseE L pre ++ [y]).length = N6 at hv6
    subst hv6
    obtain ⟨w7, hw7⟩ : ∃ w7, w7 = w6.setCell ⟨Bt, 0, none⟩ (.slice A6 N6 c6) := ⟨_, rfl⟩
    have hnB6 : Value.ownBlock (.slice A6 N6 c6) ≠ some Bt := fun e => (hab6 _ e).2.1 rfl
    have hk67 : Keeps (only Bt) w6 w7 := by rw [hw7]; exact (Keeps.refl (only Bt) w6).setCell (p := ⟨Bt, 0, none⟩) (fun _ => rfl) _
    have hkW7 : Keeps (fun k => k = Bt ∨ Value.ownBlock (.slice A1 pre.length c1) = some k) W w7 := (hkW6.mono (fun _ _ h => .inr h)).trans hk67 (fun _ _ e => .inl e)
    have hrow7 := hrow6.keep hk67 (fun b e e2 => by have e2 : b = Bt := e2; subst e2; exact hnB6 e)
    have hbx7 : Blk w7 Bt 22 #[.slice A6 N6 c6] := by
      have := hbx6.set_ 0 (.slice A6 N6 c6)
      rw [← hw7] at this
      simpa using this
    have hpre : parseE L (pre ++ [x]) = parseE L pre ++ [y] := by simp [parseE, HyE.out, HR.out, Hi.out]
    have hfin : KeepsFrom w2.heap.size W w7 ∧ KpC B1 B2 W w7 ∧ ∃ lv, RdI w Bt B1 B2 L (pre ++ [x]) w7 lv := by
      refine ⟨keepsFrom_of hkW7 ?_, ⟨hkW7.cell (p := ⟨B1, 0, none⟩) H.out.b1 ?_, hkW7.cell (p := ⟨B2, 0, none⟩) H.out.b2 ?_⟩, .slice A6 N6 c6, ⟨by rw [hpre]; exact hrow7, hbx7, hab6, H.out.kp.trans hkW7 ?_, Nat.lt_of_lt_of_le H.out.b1 hkW7.size, Nat.lt_of_lt_of_le H.out.b2 hkW7.size⟩⟩
      · rintro k (e | e)
        · subst e
          exact ⟨_, _, _, H.out.box⟩
        · rcases H.out.row.blk with ⟨hv0, -⟩ | ⟨b2', c2', rest, hv0, hb2, -⟩
          · rw [hv0] at e; simp [Value.ownBlock] at e
          · rw [hv0] at e
            simp only [Value.ownBlock, Option.some.injEq] at e
            subst e
            exact ⟨_, _, _, hb2⟩
      · rintro (e | e)
        · have := HBt.out; have := HB1.out; have := Hs1.out; simp at e; omega
        · exact (H.out.own _ e).2.2.1 rfl
      · rintro (e | e)
        · have := HBt.out; have := HB2.out; have := Hs1.out; simp at e; omega
        · exact (H.out.own _ e).2.2.2 rfl
      · rintro k hk (e | e)
        · have := HBt.out; omega
        · have := (H.out.own k e).1; omega
    clear hkW6 hbx6 hab6 hk67 hkW7 hrow7 hbx7 hrow6 hk6 hf6 hN6 hnB hnB6 hpre
    have Hfin := Lib.hid hfin
    have Hw7 := Lib.hid hw7
    clear hfin hw7
    go_wp2_with fail
    rw [← Hw7.out]
    go_wp2_with fail
    refine HK.out _ _ (fun h => by cases h) ?_
    clear HK K
    exact Hfin.out
  case done =>
    rintro D xs W hD rfl ⟨lv, h⟩ hKD
    obtain ⟨l, hl⟩ : ∃ l, l = parseE L (List.finRange n) := ⟨_, rfl⟩
    have hln : l.length = n := by rw [hl]; simp [parseE]
    have hrow := h.row
    rw [← hl] at hrow
    obtain ⟨A1, c1, rfl, -⟩ := hrow.form
    have y0 := h.box.cell 0
    simp at y0
    have henc := encode_any A1 c1 _ l W hrow.rd (by omega) (by rw [hl]; exact entP_ok _)
    have hndiv : L.length / 32 = n := by rw [← HNL.out, HN.out]; omega
    have hmod : L.length % 32 = 0 := by rw [← HNL.out, HN.out]; omega
    have hmi : ∀ w, (Instr.makeInterface 69 (.agg #[])).run Tryd.prog w = .ok (.iface 69 (.agg #[])) w := fun _ => by kernel_rfl
    have hDw : w.heap.size ≤ D := by have := Hsz.out; have := Hs1.out; omega
    have hDlt : D < W.heap.size := (Array.getElem?_eq_some_iff.1 hKD).1
    have hput : ∀ W', Keeps nowhere W W' → W'.heap[D]? = some (.deferred (some [])) ∧ Keeps nowhere w (W'.putObj D (.deferred none)) := fun W' hk =>
      ⟨(hk.block D hDlt (fun h => h)).trans hKD, (h.kp.more hk).grown (grownBy_putObj' W' D (.deferred none)) (fun k e hk => by cases e; omega)⟩
    by_cases hc : checkE l = 0
    · obtain ⟨k, hk⟩ : ∃ k, k = checkE l := ⟨_, rfl⟩
      have hk0 : k = 0 := by rw [hk]; exact hc
      have hB : encB l = bytesE l := by rw [encB, if_pos hc]
      unfold EncP at henc
      rw [← hk, hk0, hB] at henc
      have hRA := Hr.out
      obtain ⟨ga, hRL⟩ : ∃ ga, ∀ W', Keeps nowhere w W' → Rd W' (.slice A N c) ga (L.map bv) := by
        cases A with
        | none =>
          refine ⟨none, fun W' _ => ?_⟩
          obtain ⟨A', c', hv, -, -, -, -, h4⟩ := Hr.out
          injection hv with e1 e2 e3
          have hN0 : n = 0 := by
            cases n with
            | zero => rfl
            | succ n => have := HA.out (by omega); cases this
          have hNN : N = 0 := by rw [HN.out, hN0]
          have hLn : L = [] := List.eq_nil_of_length_eq_zero (by rw [← HNL.out]; exact hNN)
          have hc0 : c = 0 := by rw [e3]; exact h4 e1.symm
          rw [hNN, hc0, hLn]
          exact Rd.nil W'
        | some a => exact ⟨g, fun W' hk => rd_of (hRA.same hk)⟩
      by_cases hq : bytesE l = L
      · have hro : rowsE L = some l := by unfold rowsE; rw [if_pos hmod, hndiv, ← hl, if_pos ⟨hc, hq⟩]
        have H := Lib.hid h
        have Hrow := Lib.hid hrow
        have Hln := Lib.hid hln
        have Henc := Lib.hid henc
        have Hl := Lib.hid hl
        have Hndiv := Lib.hid hndiv
        have Hmod := Lib.hid hmod
        have Hc := Lib.hid hc
        have Hro := Lib.hid hro
        have Hk := Lib.hid hk
        have Hput := Lib.hid hput
        have Hq := Lib.hid hq
        have HRL := Lib.hid hRL
        have HB := Lib.hid hB
        clear h hrow hln henc hl hndiv hmod hc hro hk hput hq hRL hB
        (try simp only [Exit.inBlock, Exit.then])
        go_wp2_with fail
        refine Henc.out.mono ?_
        rintro e w2 ⟨v, g2, rfl, hr2, ha2, hk2⟩
        have heq := bytesEq_any v (.slice A N c) g2 ga (bytesE l) L w2 hr2 (HRL.out w2 (H.out.kp.more hk2))
        rw [decide_eq_true Hq.out] at heq
        have y2 : w2.cell? ⟨Bt, 0, none⟩ = some (.slice A1 l.length c1) := by simpa using (H.out.box.keep hk2 (fun h => h)).cell 0
        have hclip := eclip_any _ l w2 (Hrow.out.same hk2)
        clear hr2 ha2
        have Heq := Lib.hid heq
        have Hk2 := Lib.hid hk2
        have Hclip := Lib.hid hclip
        clear heq hk2 hclip
        go_wp2_with fail
        refine Heq.out.mono ?_
        rintro e w' ⟨rfl, rfl⟩
        go_wp2_with fail
        refine Hclip.out.mono ?_
        rintro e w3 ⟨A2, rfl, hrd2, rfl⟩
        go_wp2_with fail
        refine ⟨by simp, .inl ⟨_, _, rfl, run_takeDeferred (Hput.out w3 Hk2.out).1, ?_⟩⟩
        refine ⟨_, results_tmp rfl _ _ _, ReadP.yes Hro.out (Hput.out w3 Hk2.out).2 (g := Value.ownBlock (.slice A1 l.length c1)) ?_ (fun k e => (H.out.own k e).1)⟩
        have hDk := (Hput.out w3 Hk2.out).1
        have hkD : Keeps (only D) w3 (w3.putObj D (.deferred none)) := (Keeps.refl _ w3).grown (grownBy_putObj' w3 D (.deferred none)) (fun k e _ => by cases e; rfl)
        refine hrd2.keep hkD (fun k e e2 => ?_)
        have e2 : k = D := e2
        subst e2
        rcases (Hrow.out.same Hk2.out).blk with ⟨hv0, -⟩ | ⟨b2', c2', rest, hv0, hb2, -⟩
        · rw [hv0] at e; simp [Value.ownBlock] at e
        · rw [hv0] at e
          simp only [Value.ownBlock, Option.some.injEq] at e
          subst e
          unfold Blk at hb2
          rw [hb2] at hDk
          cases hDk
      · have hro : rowsE L = none := by unfold rowsE; rw [if_pos hmod, hndiv, ← hl, if_neg (fun h => hq h.2)]
        have H := Lib.hid h
        have Hrow := Lib.hid hrow
        have Hln := Lib.hid hln
        have Henc := Lib.hid henc
        have Hl := Lib.hid hl
        have Hndiv := Lib.hid hndiv
        have Hmod := Lib.hid hmod
        have Hc := Lib.hid hc
        have Hro := Lib.hid hro
        have Hk := Lib.hid hk
        have Hput := Lib.hid hput
        have Hq := Lib.hid hq
        have HRL := Lib.hid hRL
        have HB := Lib.hid hB
        clear h hrow hln henc hl hndiv hmod hc hro hk hput hq hRL hB
        (try simp only [Exit.inBlock, Exit.then])
        go_wp2_with fail
        refine Henc.out.mono ?_
        rintro e w2 ⟨v, g2, rfl, hr2, ha2, hk2⟩
        have heq := bytesEq_any v (.slice A N c) g2 ga (bytesE l) L w2 hr2 (HRL.out w2 (H.out.kp.more hk2))
        rw [decide_eq_false Hq.out] at heq
        clear hr2 ha2
        have Heq := Lib.hid heq
        have Hk2 := Lib.hid hk2
        clear heq hk2
        go_wp2_with fail
        refine Heq.out.mono ?_
        rintro e w' ⟨rfl, rfl⟩
        go_wp2_with fail
        refine ⟨by simp, .inl ⟨_, _, rfl, run_takeDeferred (Hput.out w2 Hk2.out).1, ?_⟩⟩
        exact ReadP.no Hro.out (Hput.out w2 Hk2.out).2
    · have hcF : (checkE l != 0) = true := by simp [hc]
      have hro : rowsE L = none := by unfold rowsE; rw [if_pos hmod, hndiv, ← hl, if_neg (fun h => hc h.1)]
      obtain ⟨k, hk⟩ : ∃ k, k = checkE l := ⟨_, rfl⟩
      unfold EncP at henc
      rw [← hk] at henc hcF
      have H := Lib.hid h
      have Hrow := Lib.hid hrow
      have Hln := Lib.hid hln
      have Henc := Lib.hid henc
      have Hl := Lib.hid hl
      have Hndiv := Lib.hid hndiv
      have Hmod := Lib.hid hmod
      have Hc := Lib.hid hc
      have Hro := Lib.hid hro
      have Hk := Lib.hid hk
      have Hput := Lib.hid hput
      clear h hrow hln henc hl hndiv hmod hc hro hk hput
      (try simp only [Exit.inBlock, Exit.then])
      go_wp2_with fail
      refine Henc.out.mono ?_
      rintro e w2 ⟨v, g2, rfl, hr2, ha2, hk2⟩
      go_wp2_with fail
      refine ⟨by simp, .inl ⟨_, _, rfl, run_takeDeferred (Hput.out w2 hk2).1, ?_⟩⟩
      exact ReadP.no Hro.out (Hput.out w2 hk2).2
end Go.Proofs.YtnlmdfbjmhcilaaDoor
/-
  entry: Decode.
-/
namespace Go.Proofs.YtnlmdfbjmhcilaaDoor
open Go.RowKit Go.Proofs
attribute [local go_sem] strOf_size strOf_get strOf_toList

set_option maxHeartbeats 4000000 in
theorem read_bad (A : Option Addr) (c N : Nat) (g : Option Nat) (L : List UInt8) (w : World) (hr : recB.Rd w (.slice A N c) g L) (hN : N = L.length) (hb : L.length % 32 ≠ 0) (hl : N ≤ 1000000000) :
    Calls Tryd.prog 31 #[.slice A N c] w (ReadP L w) := by
  have hro : rowsE L = none := by unfold rowsE; rw [if_neg hb]
  have hrem : Int.tmod (N : Int) (32 : Int) = ((N % 32 : Nat) : Int) := by rw [Int.tmod_eq_emod_of_nonneg (by omega)]; omega
  obtain ⟨k, hk⟩ : ∃ k, k = N % 32 := ⟨_, rfl⟩
  rw [← hk] at hrem
  have hk0 : ((k : Int) != 0) = true := by simp; omega
  have hkw : IntKind.i64.wrap (k : Int) = k := IntWalk.i64_in _ (by omega)
  have hmi : ∀ w, (Instr.makeInterface 69 (.agg #[])).run Tryd.prog w = .ok (.iface 69 (.agg #[])) w := fun _ => by kernel_rfl
  have Hro := Lib.hid hro
  have Hr := Lib.hid hr
  have HN := Lib.hid hN
  have Hk := Lib.hid hk
  clear hro hr hN hk
  refine (callsIn_wide (n := 9)).1 (callsIn_of_wp_marks Tryd.func31 rfl trivial ?_ rfl)
  refine wpIn_wide.2 ?_
  simp only [Tryd.ntmps31, List.size_toArray, List.length_cons, List.length_nil, Nat.reduceAdd, Nat.reduceSub, Array.replicate_succ, Array.replicate_zero, List.push_toArray, List.append_toArray, List.nil_append, List.cons_append]
  go_wp2_with fail
  exact ReadP.no Hro.out (Keeps.refl _ _)
theorem read_all (A : Option Addr) (c N : Nat) (g : Option Nat) (L : List UInt8) (w : World) (hr : recB.Rd w (.slice A N c) g L) (hN : N = L.length) (hl : L.length ≤ 320000) :
    Calls Tryd.prog 31 #[.slice A N c] w (ReadP L w) := by
  by_cases hb : L.length % 32 = 0
  · have hN2 : N = (N / 32) * 32 := by omega
    obtain ⟨A', c', hv, -, -, -, h3, -⟩ := id hr
    injection hv with e1 e2 e3
    subst e1
    rw [hN2] at hr ⊢
    by_cases h0 : 0 < L.length
    · obtain ⟨b, o, hA, -⟩ := h3 h0
      exact read_any A b o c (N / 32) g L w hr (fun _ => hA) (by omega)
    · exact read_any A 0 0 c (N / 32) g L w hr (fun h => by omega) (by omega)
  · exact read_bad A c N g L w hr hN hb (by omega)
set_option maxHeartbeats 400000 in
theorem dcaught_idle (p q : Nat) (w : World) :
    CallsD Tryd.prog 30 #[.pointer (some ⟨p, 0, none⟩), .pointer (some ⟨q, 0, none⟩)] .returning w fun e u' w' => e = .returned (.tuple #[]) ∧ u' = .returning ∧ w' = w := by
  refine callsD_of_wpS Tryd.func30 rfl fun c₀ cs hu => ?_
  apply wpS_seq
  apply wpS_region
  simp [wpOpsS, go_sem, recoverD, hu, Tryd.ntmps30, Exit.thenS, Array.replicate_succ]
  refine wpS_of_wp ?_
  go_wp2
  cases c₀
  simp_all [bodyPostS, results, Tryd.results30]
set_option maxHeartbeats 400000 in
theorem dcaught_panic (p q : Nat) (x : Value) (y : Int) (older : List PanicEntry) (w : World) (hb : Blk w p 22 #[x]) (hq : Blk w q 26 #[.int .i64 y]) (hx : ∃ A n c, x = .slice A n c) :
    CallsD Tryd.prog 30 #[.pointer (some ⟨p, 0, none⟩), .pointer (some ⟨q, 0, none⟩)] (.panicking ({ v := .iface 69 (.agg #[]), recovered := false } :: older)) w fun e u' w' =>
      e = .returned (.tuple #[]) ∧ u' = .panicking ({ v := .iface 69 (.agg #[]), recovered := true } :: older) ∧ w' = (w.setCell ⟨p, 0, none⟩ (.slice none 0 0)).setCell ⟨q, 0, none⟩ (.int .i64 2) := by
  obtain ⟨A, n, c, rfl⟩ := hx
  have hc1 := hb.cell 0
  have hf1 := hb.frozen 0
  have hc2 := (hq.far (p := ⟨p, 0, none⟩) (hq.ne_ hb (by decide)) (.slice none 0 0)).cell 0
  have hf2 := (hq.far (p := ⟨p, 0, none⟩) (hq.ne_ hb (by decide)) (.slice none 0 0)).frozen 0
  simp at hc1 hc2
  clear hb hq
  have hmi : ∀ w, (Instr.makeInterface 69 (.agg #[])).run Tryd.prog w = .ok (.iface 69 (.agg #[])) w := fun _ => by kernel_rfl
  have heq : ∀ w, (binOp .neq 20 (.iface 69 (.agg #[])) .nilIface).run Tryd.prog w = .ok (.bool true) w := fun _ => by kernel_rfl
  have heq2 : ∀ w, (binOp .neq 20 (.iface 69 (.agg #[])) (.iface 69 (.agg #[]))).run Tryd.prog w = .ok (.bool false) w := fun _ => by kernel_rfl
  refine callsD_of_wpS Tryd.func30 rfl fun c₀ cs hu => ?_
  apply wpS_seq
  apply wpS_region
  simp [wpOpsS, go_sem, recoverD, hu, Tryd.ntmps30, Exit.thenS, Array.replicate_succ]
  refine wpS_of_wp ?_
  go_wp2
  simp [bodyPostS, results, Tryd.results30]
def decL (L : List UInt8) : List EntV := (rowsE L).getD []
def decN (L : List UInt8) : Int := if (rowsE L).isSome = true then 0 else 2
def DecP (L : List UInt8) (w : World) : Ending → World → Prop := fun e w' => ∃ v g, e = .returned (.tuple #[v, .int .i64 (decN L)]) ∧ recE.Rd w' v g (decL L) ∧ Above w.heap.size g ∧ Keeps nowhere w w'
set_option maxHeartbeats 4000000 in
theorem decode_any (A : Option Addr) (c N : Nat) (g : Option Nat) (L : List UInt8) (w : World) (hr : recB.Rd w (.slice A N c) g L) (hN : N = L.length) (hl : L.length ≤ 320000) :
    Calls Tryd.prog 13 #[.slice A N c] w (DecP L w) := by
  obtain ⟨p, hp⟩ : ∃ p, p = w.heap.size := ⟨_, rfl⟩
  obtain ⟨q, hq⟩ : ∃ q, q = w.heap.size + 1 := ⟨_, rfl⟩
  obtain ⟨w1, hw1⟩ : ∃ w1, w1 = (w.alloc (.cells #[.slice none 0 0] 22)).alloc (.cells #[.int .i64 0] 26) := ⟨_, rfl⟩
  have hk1 : Keeps nowhere w w1 := by rw [hw1]; exact ((Keeps.refl nowhere w).alloc _).alloc _
  have hb1 : Blk w1 p 22 #[.slice none 0 0] := by rw [hw1, hp]; exact (Blk.new _ _ _).alloc _
  have hb2 : Blk w1 q 26 #[.int .i64 0] := by
    rw [hw1, hq]
    have := Blk.new (w.alloc (.cells #[.slice none 0 0] 22)) 26 #[.int .i64 0]
    rwa [World.size_alloc] at this
  have hread := read_all A c N g L w1 (hr.same hk1) hN hl
  cases hro : rowsE L with
  | none =>
    have hr2 := hread.mono (R' := fun e w' => Keeps nowhere w1 w' ∧ e = .panicked [{ v := .iface 69 (.agg #[]), recovered := false }]) (fun e w' h => ⟨h.1, by have := h.2; rw [hro] at this; exact this⟩)
    have hN2 : decN L = 2 := by unfold decN; rw [hro]; rfl
    have hL2 : decL L = [] := by unfold decL; rw [hro]; rfl
    clear hread
    have Hw1 := Lib.hid hw1
    have Hp := Lib.hid hp
    have Hq := Lib.hid hq
    have Hk1 := Lib.hid hk1
    have Hb1 := Lib.hid hb1
    have Hb2 := Lib.hid hb2
    have Hr := Lib.hid hr
    have HN := Lib.hid hN
    have Hr2 := Lib.hid hr2
    have Hro := Lib.hid hro
    have HN2 := Lib.hid hN2
    have HL2 := Lib.hid hL2
    clear hw1 hp hq hk1 hb1 hb2 hr hN hr2 hro hN2 hL2
    go_enter_defers Tryd.func13, Tryd.ntmps13
    go_upto_region 1 with fail
    rw [← Hw1.out]
    simp only [← Hq.out]
    simp only [← Hp.out]
    go_wp2_with fail
    refine Hr2.out.mono ?_
    rintro e w2 ⟨hk2, rfl⟩
    have b1 := Hb1.out.keep hk2 (fun h => h)
    have b2 := Hb2.out.keep hk2 (fun h => h)
    have hpan := dcaught_panic p q _ 0 [] w2 b1 b2 ⟨_, _, _, rfl⟩
    have x5 := (b1.set_ 0 (.slice none 0 0)).far (p := ⟨q, 0, none⟩) (b1.ne_ b2 (by decide)) (.int .i64 2)
    have x6 := (b2.far (p := ⟨p, 0, none⟩) (b2.ne_ b1 (by decide)) (.slice none 0 0)).set_ 0 (.int .i64 2)
    have y5 := x5.cell 0
    have y6 := x6.cell 0
    simp at y5 y6
    have hk5 : Keeps nowhere w ((w2.setCell ⟨p, 0, none⟩ (.slice none 0 0)).setCell ⟨q, 0, none⟩ (.int .i64 2)) := ((Hk1.out.more hk2).setCell (p := ⟨p, 0, none⟩) (fun h => by have := Hp.out; simp at h; omega) _).setCell (p := ⟨q, 0, none⟩) (fun h => by have := Hq.out; simp at h; omega) _
    clear b1 b2 x5 x6 hk2
    have Hpan := Lib.hid hpan
    have Hk5 := Lib.hid hk5
    clear hpan hk5
    refine leaves_cons (f := 30) (args := #[.pointer (some ⟨p, 0, none⟩), .pointer (some ⟨q, 0, none⟩)]) (by simp) (by simp [go_sem]) ?_
    refine Hpan.out.mono ?_
    rintro e u' w'' ⟨rfl, rfl, rfl⟩
    simp [Leaves, settle, results, Tryd.results13, go_sem, y5, y6]
    exact ⟨_, none, by rw [HN2.out], by rw [HL2.out]; exact RecT.Rd.nil recE _, Above.none _, Hk5.out⟩
  | some l =>
    have hr2 := hread.mono (R' := fun e w' => Keeps nowhere w1 w' ∧ ∃ v g, e = .returned v ∧ recE.Rd w' v g l ∧ Above w1.heap.size g) (fun e w' h => ⟨h.1, by have := h.2; rw [hro] at this; exact this⟩)
    have hN2 : decN L = 0 := by unfold decN; rw [hro]; rfl
    have hL2 : decL L = l := by unfold decL; rw [hro]; rfl
    clear hread
    have Hw1 := Lib.hid hw1
    have Hp := Lib.hid hp
    have Hq := Lib.hid hq
    have Hk1 := Lib.hid hk1
    have Hb1 := Lib.hid hb1
    have Hb2 := Lib.hid hb2
    have Hr := Lib.hid hr
    have HN := Lib.hid hN
    have Hr2 := Lib.hid hr2
    have Hro := Lib.hid hro
    have HN2 := Lib.hid hN2
    have HL2 := Lib.hid hL2
    clear hw1 hp hq hk1 hb1 hb2 hr hN hr2 hro hN2 hL2
    go_enter_defers Tryd.func13, Tryd.ntmps13
    go_upto_region 1 with fail
    rw [← Hw1.out]
    simp only [← Hq.out]
    simp only [← Hp.out]
    go_wp2_with fail
    refine Hr2.out.mono ?_
    rintro e w2 ⟨hk2, v, g2, rfl, hrd2, hab2⟩
    have b1 := Hb1.out.keep hk2 (fun h => h)
    have b2 := Hb2.out.keep hk2 (fun h => h)
    obtain ⟨A2, c2, rfl, -⟩ := id hrd2
    generalize hn2 : l.length = n2 at hrd2
    have c1 := b1.cell 0
    have f1 := b1.frozen 0
    simp at c1
    have e2 := b2.far (p := ⟨p, 0, none⟩) (b2.ne_ b1 (by decide)) (.slice A2 n2 c2)
    have d1 := e2.cell 0
    have d2 := e2.frozen 0
    simp at d1
    have x5 := (b1.set_ 0 (.slice A2 n2 c2)).far (p := ⟨q, 0, none⟩) (b1.ne_ b2 (by decide)) (.int .i64 0)
    have x6 := e2.set_ 0 (.int .i64 0)
    have y5 := x5.cell 0
    have y6 := x6.cell 0
    simp at y5 y6
    have hk25 : Keeps (fun k => k = p ∨ k = q) w2 ((w2.setCell ⟨p, 0, none⟩ (.slice A2 n2 c2)).setCell ⟨q, 0, none⟩ (.int .i64 0)) := ((Keeps.refl _ w2).setCell (p := ⟨p, 0, none⟩) (fun h => .inl rfl) _).setCell (p := ⟨q, 0, none⟩) (fun h => .inr rfl) _
    have hk5 := (Hk1.out.more hk2).trans hk25 (fun b hb e => by have := Hp.out; have := Hq.out; omega)
    have hs1 : w1.heap.size = w.heap.size + 2 := by rw [Hw1.out]; simp
    have hrd5 := hrd2.keep hk25 (fun b e e2 => by have := hab2 b e; have := Hp.out; have := Hq.out; omega)
    have hab5 : Above w.heap.size g2 := hab2.mono (by omega)
    clear b1 b2 x5 x6 e2 hk2 hk25 hrd2 hs1
    have Hk5 := Lib.hid hk5
    have Hrd5 := Lib.hid hrd5
    have Hab5 := Lib.hid hab5
    have Hn2 := Lib.hid hn2
    clear hk5 hrd5 hab5 hn2
    go_wp2_with fail
    refine leaves_cons (f := 30) (args := #[.pointer (some ⟨p, 0, none⟩), .pointer (some ⟨q, 0, none⟩)]) (by simp) (by simp [go_sem]) ?_
    refine (dcaught_idle p q _).mono ?_
    rintro e u' w'' ⟨rfl, rfl, rfl⟩
    simp [Leaves, settle, results, Tryd.results13, go_sem, y5, y6]
    exact ⟨_, g2, by rw [HN2.out], by rw [HL2.out]; exact Hrd5.out, Hab5.out, Hk5.out⟩
end Go.Proofs.YtnlmdfbjmhcilaaDoor
/-
  entry: the plain laws of sorted lists of entries.
-/
namespace Go.Proofs.YtnlmdfbjmhcilaaDoor

theorem ltS_iff (a b : List UInt8) : ltS a b = true ↔ a < b := by unfold ltS; rw [bytesLess_eq]; simp
theorem ltS_trans {a b c : List UInt8} (h : ltS a b = true) (k : ltS b c = true) : ltS a c = true := by
  rw [ltS_iff] at *
  exact List.lt_trans h k
theorem ltS_tri (a b : List UInt8) : ltS a b = true ∨ a = b ∨ ltS b a = true := by
  rw [ltS_iff, ltS_iff]
  by_cases h : a < b
  · exact .inl h
  · by_cases k : b < a
    · exact .inr (.inr k)
    · exact .inr (.inl (List.le_antisymm (by simpa using k) (by simpa using h)))
theorem ltS_asymm {a b : List UInt8} (h : ltS a b = true) : ltS b a = false := by
  cases k : ltS b a with
  | false => rfl
  | true => have := ltS_trans h k; rw [ltS_irrefl] at this; cases this
theorem ltS_ne {a b : List UInt8} (h : ltS a b = true) : a ≠ b := fun e => by rw [e, ltS_irrefl] at h; cases h
/-- names that rise -/
def SortE (l : List EntV) : Prop := l.Pairwise fun x y => ltS x.1 y.1 = true
theorem SortE.mono {l : List EntV} (h : SortE l) (t : List UInt8) : Mono l t := fun i j x y hij hx hy hlt => by
  have h1 := List.pairwise_iff_getElem.1 h i j (List.getElem?_eq_some_iff.1 hx).1 (List.getElem?_eq_some_iff.1 hy).1 hij
  rw [(List.getElem?_eq_some_iff.1 hx).2, (List.getElem?_eq_some_iff.1 hy).2] at h1
  exact ltS_trans h1 hlt
theorem hasL_iff {l : List EntV} (h : SortE l) (t : List UInt8) : hasL l t = true ↔ ∃ x ∈ l, x.1 = t := by
  induction l with
  | nil => simp [hasL]
  | cons y l ih =>
    have hs := (List.pairwise_cons.1 h).2
    have hy := (List.pairwise_cons.1 h).1
    cases hlt : ltS y.1 t with
    | true =>
      have e : hasL (y :: l) t = hasL l t := by
        unfold hasL posL
        rw [List.takeWhile_cons, hlt]
        simp
      rw [e, ih hs]
      constructor
      · rintro ⟨x, hx, he⟩; exact ⟨x, List.mem_cons_of_mem _ hx, he⟩
      · rintro ⟨x, hx, he⟩
        rcases List.mem_cons.1 hx with rfl | hx
        · exact absurd he (ltS_ne hlt)
        · exact ⟨x, hx, he⟩
    | false =>
      have e : hasL (y :: l) t = decide (y.1 = t) := by
        unfold hasL posL
        rw [List.takeWhile_cons, hlt]
        simp
      rw [e, decide_eq_true_eq]
      constructor
      · intro he; exact ⟨y, List.mem_cons_self, he⟩
      · rintro ⟨x, hx, he⟩
        rcases List.mem_cons.1 hx with rfl | hx
        · exact he
        · have := hy x hx
          rw [he, hlt] at this
          cases this
theorem insL_cons (y : EntV) (l : List EntV) (x : EntV) : einsL (y :: l) (posL (y :: l) x.1) x = if ltS y.1 x.1 = true then y :: einsL l (posL l x.1) x else x :: y :: l := by
  unfold einsL posL
  rw [List.takeWhile_cons]
  split
  · simp
  · simp
theorem insL_nil (x : EntV) : einsL [] (posL [] x.1) x = [x] := rfl
theorem mem_insL (l : List EntV) (x z : EntV) : z ∈ einsL l (posL l x.1) x ↔ z = x ∨ z ∈ l := by
  induction l with
  | nil => simp [insL_nil]
  | cons y l ih =>
    rw [insL_cons]
    split
    · rw [List.mem_cons, ih, List.mem_cons]
      constructor
      · rintro (h | h | h)
        · exact .inr (.inl h)
        · exact .inl h
        · exact .inr (.inr h)
      · rintro (h | h | h)
        · exact .inr (.inl h)
        · exact .inl h
        · exact .inr (.inr h)
    · rw [List.mem_cons]
theorem SortE.ins {l : List EntV} (h : SortE l) {x : EntV} (hx : hasL l x.1 = false) : SortE (einsL l (posL l x.1) x) := by
  have hno : ∀ y ∈ l, y.1 ≠ x.1 := fun y hy e => by
    rw [(hasL_iff h x.1).2 ⟨y, hy, e⟩] at hx
    cases hx
  clear hx
  induction l with
  | nil => rw [insL_nil]; simp [SortE]
  | cons y l ih =>
    have hs := (List.pairwise_cons.1 h).2
    have hy := (List.pairwise_cons.1 h).1
    rw [insL_cons]
    split
    · rename_i hlt
      refine List.pairwise_cons.2 ⟨fun z hz => ?_, ih hs (fun z hz => hno z (List.mem_cons_of_mem _ hz))⟩
      rcases (mem_insL l x z).1 hz with rfl | hz
      · exact hlt
      · exact hy z hz
    · rename_i hlt
      have hxy : ltS x.1 y.1 = true := by
        rcases ltS_tri y.1 x.1 with h1 | h1 | h1
        · exact absurd h1 hlt
        · exact absurd h1 (hno y List.mem_cons_self)
        · exact h1
      refine List.pairwise_cons.2 ⟨fun z hz => ?_, h⟩
      rcases List.mem_cons.1 hz with rfl | hz
      · exact hxy
      · exact ltS_trans hxy (hy z hz)
theorem SortE.erase {l : List EntV} (h : SortE l) (i : Nat) : SortE (l.eraseIdx i) := h.sublist (List.eraseIdx_sublist _ _)
/-- two that rise and have the same members are one -/
theorem SortE.unique {l m : List EntV} (hl : SortE l) (hm : SortE m) (h : ∀ x, x ∈ l ↔ x ∈ m) : l = m := by
  induction l generalizing m with
  | nil =>
    cases m with
    | nil => rfl
    | cons y m => have := (h y).2 List.mem_cons_self; cases this
  | cons x l ih =>
    cases m with
    | nil => have := (h x).1 List.mem_cons_self; cases this
    | cons y m =>
      have hx := (List.pairwise_cons.1 hl).1
      have hy := (List.pairwise_cons.1 hm).1
      have hxy : x = y := by
        rcases List.mem_cons.1 ((h x).1 List.mem_cons_self) with e | e
        · exact e
        · rcases List.mem_cons.1 ((h y).2 List.mem_cons_self) with e2 | e2
          · exact e2.symm
          · have h1 := hx y e2
            have h2 := hy x e
            rw [ltS_asymm h1] at h2
            cases h2
      subst hxy
      congr 1
      refine ih (List.pairwise_cons.1 hl).2 (List.pairwise_cons.1 hm).2 fun z => ?_
      constructor
      · intro hz
        rcases List.mem_cons.1 ((h z).1 (List.mem_cons_of_mem _ hz)) with e | e
        · subst e; have := hx z hz; rw [ltS_irrefl] at this; cases this
        · exact e
      · intro hz
        rcases List.mem_cons.1 ((h z).2 (List.mem_cons_of_mem _ hz)) with e | e
        · subst e; have := hy z hz; rw [ltS_irrefl] at this; cases this
        · exact e
theorem checkN_zero {l : List EntV} : ∀ {n : Nat}, checkN l n = 0 ↔ ∀ i, i < n → entChk l i = 0
  | 0 => ⟨fun _ i h => absurd h (Nat.not_lt_zero i), fun _ => rfl⟩
  | n + 1 => by
    rw [checkN]
    constructor
    · intro h i hi
      by_cases h0 : checkN l n = 0
      · rw [if_pos h0] at h
        by_cases e : i = n
        · subst e; exact h
        · exact checkN_zero.1 h0 i (by omega)
      · rw [if_neg h0] at h
        exact absurd h h0
    · intro h
      rw [if_pos (checkN_zero.2 fun i hi => h i (by omega))]
      exact h n (by omega)
theorem entChk_zero {l : List EntV} {i : Nat} (hi : i < l.length) : entChk l i = 0 ↔ mayE l[i] = 0 ∧ (0 < i → ltS (l.getD (i - 1) entD).1 l[i].1 = true) := by
  have hg : l.getD i entD = l[i] := by rw [List.getD_eq_getElem?_getD, List.getElem?_eq_getElem hi]; rfl
  unfold entChk
  rw [hg]
  by_cases h0 : mayE l[i] = 0
  · rw [if_pos h0]
    split
    · rename_i h
      constructor
      · intro h; cases h
      · rintro ⟨-, k⟩
        rw [k h.1] at h
        cases h.2
    · rename_i h
      refine ⟨fun _ => ⟨h0, fun hp => ?_⟩, fun _ => rfl⟩
      cases hb : ltS (l.getD (i - 1) entD).1 l[i].1 with
      | true => rfl
      | false => exact absurd ⟨hp, hb⟩ h
  · rw [if_neg h0]
    exact ⟨fun h => absurd h h0, fun h => absurd h.1 h0⟩
theorem sortE_of_next : ∀ {l : List EntV}, (∀ i, (h : i + 1 < l.length) → ltS (l[i]'(by omega)).1 l[i + 1].1 = true) → SortE l
  | [], _ => List.Pairwise.nil
  | [x], _ => by simp [SortE]
  | x :: y :: l, h => by
    have hs : SortE (y :: l) := sortE_of_next fun i hi => h (i + 1) (by simpa using hi)
    have hxy : ltS x.1 y.1 = true := h 0 (by simp)
    refine List.pairwise_cons.2 ⟨fun z hz => ?_, hs⟩
    rcases List.mem_cons.1 hz with rfl | hz
    · exact hxy
    · exact ltS_trans hxy ((List.pairwise_cons.1 hs).1 z hz)
theorem checkE_zero {l : List EntV} : checkE l = 0 ↔ SortE l ∧ ∀ x ∈ l, mayE x = 0 := by
  unfold checkE
  rw [checkN_zero]
  constructor
  · intro h
    refine ⟨sortE_of_next fun i hi => ?_, fun x hx => ?_⟩
    · have := ((entChk_zero hi).1 (h (i + 1) hi)).2 (by omega)
      have hg : l.getD i entD = l[i] := by rw [List.getD_eq_getElem?_getD, List.getElem?_eq_getElem (by omega)]; rfl
      rw [Nat.add_sub_cancel, hg] at this
      exact this
    · obtain ⟨i, hi, rfl⟩ := List.getElem_of_mem hx
      exact ((entChk_zero hi).1 (h i hi)).1
  · rintro ⟨hs, hm⟩ i hi
    refine (entChk_zero hi).2 ⟨hm _ (List.getElem_mem hi), fun hp => ?_⟩
    have hg : l.getD (i - 1) entD = l[i - 1] := by rw [List.getD_eq_getElem?_getD, List.getElem?_eq_getElem (by omega)]; rfl
    rw [hg]
    exact List.pairwise_iff_getElem.1 hs (i - 1) i (by omega) hi (by omega)
end Go.Proofs.YtnlmdfbjmhcilaaDoor
/-
  entry: what is written reads as itself (plain).
-/
namespace Go.Proofs.YtnlmdfbjmhcilaaDoor

theorem nameE_zero {s : List UInt8} (h : nameE s = 0) : s.length ≤ 28 ∧ s ≠ [] ∧ ∀ c ∈ s, c ≠ 0 := by
  unfold nameE at h
  split at h
  · cases h
  · rename_i hb
    split at h
    · cases h
    · split at h
      · cases h
      · rename_i hl
        unfold nameBad at hb
        simp only [Bool.or_eq_true, not_or, Bool.not_eq_true, Bool.not_eq_false'] at hb
        obtain ⟨⟨⟨hv, hn⟩, -⟩, -⟩ := hb
        refine ⟨by omega, fun e => (by rw [e] at hn; cases hn), fun c hc e => ?_⟩
        unfold validS at hv
        simp only [Bool.and_eq_true] at hv
        have := hv.2
        subst e
        simp at this
        exact this hc
theorem mayE_zero {x : EntV} (h : mayE x = 0) : nameE x.1 = 0 ∧ x.2 ≠ 0 := by
  unfold mayE at h
  by_cases e : nameE x.1 = 0
  · rw [if_pos e] at h
    exact ⟨e, fun e2 => (by rw [if_pos e2] at h; cases h)⟩
  · rw [if_neg e] at h
    exact absurd h e
theorem trimN_zeros (L : List UInt8) {n : Nat} : ∀ {m : Nat}, n ≤ m → (∀ j, n ≤ j → j < m → L.getD j 0 = 0) → trimN L m = trimN L n
  | 0, h, _ => by have : n = 0 := by omega
                  subst this; rfl
  | m + 1, h, hz => by
    by_cases e : n = m + 1
    · subst e; rfl
    · rw [trimN, if_pos (hz m (by omega) (by omega))]
      exact trimN_zeros L (by omega) fun j h1 h2 => hz j h1 (by omega)
theorem trimN_stop (L : List UInt8) {n : Nat} (h : n = 0 ∨ L.getD (n - 1) 0 ≠ 0) : trimN L n = n := by
  cases n with
  | zero => rfl
  | succ n =>
    rw [trimN, if_neg]
    rcases h with h | h
    · omega
    · simpa using h
theorem rowE_len32 {x : EntV} (h : x.1.length ≤ 28) : (rowE x).length = 32 := by
  unfold rowE
  simp [nb_len]
  omega
theorem entP_rowE {x : EntV} (h : mayE x = 0) (h4 : x.2 < 4294967296) : entP (rowE x) = x := by
  obtain ⟨hl, hne, hz⟩ := nameE_zero (mayE_zero h).1
  have hd : (rowE x).drop 4 = x.1 ++ List.replicate (28 - x.1.length) 0 := by
    unfold rowE
    rw [List.append_assoc, List.drop_append, List.drop_of_length_le (by rw [nb_len]; exact Nat.le_refl _), nb_len, List.nil_append]
    simp only [Nat.sub_self, List.drop_zero]
    congr 2
    rw [List.length_append, nb_len]
    omega
  have ht : (rowE x).take 4 = nb 4 x.2 := by
    unfold rowE
    rw [List.append_assoc, List.take_append_of_le_length (by rw [nb_len]; exact Nat.le_refl _), List.take_of_length_le (by rw [nb_len]; exact Nat.le_refl _)]
  have hlen : (x.1 ++ List.replicate (28 - x.1.length) 0).length = 28 := by simp; omega
  have htr : trimN (x.1 ++ List.replicate (28 - x.1.length) 0) 28 = x.1.length := by
    rw [trimN_zeros _ (n := x.1.length) hl fun j h1 h2 => ?_, trimN_stop]
    · right
      have hp : 0 < x.1.length := List.length_pos_iff.2 hne
      rw [List.getD_eq_getElem?_getD, List.getElem?_append_left (by omega), List.getElem?_eq_getElem (by omega), Option.getD_some]
      exact hz _ (List.getElem_mem _)
    · rw [List.getD_eq_getElem?_getD, List.getElem?_append_right h1, List.getElem?_replicate]
      split <;> rfl
  unfold entP
  rw [hd, ht, hlen, htr, List.take_append_of_le_length (Nat.le_refl _), List.take_of_length_le (Nat.le_refl _), le_nb, Nat.mod_eq_of_lt (by simpa using h4)]
theorem bytesE_cons (x : EntV) (l : List EntV) : bytesE (x :: l) = rowE x ++ bytesE l := by simp [bytesE]
theorem bytesE_len {l : List EntV} (h : ∀ x ∈ l, mayE x = 0) : (bytesE l).length = l.length * 32 := by
  induction l with
  | nil => rfl
  | cons x l ih =>
    rw [bytesE_cons, List.length_append, ih (fun y hy => h y (List.mem_cons_of_mem _ hy)), rowE_len32 (nameE_zero (mayE_zero (h x List.mem_cons_self)).1).1, List.length_cons, Nat.succ_mul, Nat.add_comm]
theorem pieceL_bytesE {l : List EntV} (h : ∀ x ∈ l, mayE x = 0) : ∀ (i : Nat) (hi : i < l.length), pieceL (bytesE l) 32 (i * 32) = rowE l[i] := by
  induction l with
  | nil => intro i hi; simp at hi
  | cons x l ih =>
    intro i hi
    have hx := rowE_len32 (nameE_zero (mayE_zero (h x List.mem_cons_self)).1).1
    unfold pieceL
    rw [bytesE_cons]
    cases i with
    | zero => rw [Nat.zero_mul, List.drop_zero, List.take_append_of_le_length (by omega), List.take_of_length_le (by omega)]; rfl
    | succ i =>
      have := ih (fun y hy => h y (List.mem_cons_of_mem _ hy)) i (by simpa using hi)
      unfold pieceL at this
      rw [List.drop_append, List.drop_of_length_le (by omega), List.nil_append, hx, show (i + 1) * 32 - 32 = i * 32 by omega, this]
      rfl
theorem parseE_bytesE {l : List EntV} (h : ∀ x ∈ l, mayE x = 0) (h4 : ∀ x ∈ l, x.2 < 4294967296) {n : Nat} (hn : n = l.length) : parseE (bytesE l) (List.finRange n) = l := by
  subst hn
  apply List.ext_getElem
  · simp [parseE]
  · intro i h1 h2
    simp only [parseE, List.getElem_map, List.getElem_finRange, Fin.val_cast]
    rw [pieceL_bytesE h i h2, entP_rowE (h _ (List.getElem_mem h2)) (h4 _ (List.getElem_mem h2))]
theorem rowsE_bytesE {l : List EntV} (h : checkE l = 0) (h4 : ∀ x ∈ l, x.2 < 4294967296) : rowsE (bytesE l) = some l := by
  have hm := (checkE_zero.1 h).2
  have hlen := bytesE_len hm
  have hdiv : (bytesE l).length / 32 = l.length := by rw [hlen]; omega
  unfold rowsE
  rw [if_pos (by rw [hlen]; omega), hdiv, parseE_bytesE hm h4 rfl, if_pos ⟨h, rfl⟩]
theorem rowsE_some {L : List UInt8} {l : List EntV} (h : rowsE L = some l) : checkE l = 0 ∧ bytesE l = L := by
  unfold rowsE at h
  split at h
  · split at h
    · rename_i h2
      injection h with h
      subst h
      exact h2
    · cases h
  · cases h
end Go.Proofs.YtnlmdfbjmhcilaaDoor
/-
  entry: law 13's known.
-/
namespace Go.Proofs.YtnlmdfbjmhcilaaDoor
open Go.RowKit Go.Proofs

def kA : EntV := ([97], 3)
def kA9 : EntV := ([97], 9)
def kB : EntV := ([98], 2)
theorem k_p1 : putOk [] kB = 0 ∧ putL [] kB = [kB] := by decide +kernel
theorem k_p2 : putOk [kB] kA = 0 ∧ putL [kB] kA = [kA, kB] := by decide +kernel
theorem k_e : checkE [kA, kB] = 0 := by decide +kernel
theorem k_b : (encB [kA, kB]).length = 64 := by decide +kernel
theorem k_f : findN [kA, kB] [97] = 3 ∧ hasL [kA, kB] [97] = true := by decide +kernel
theorem k_c : cutOk [kA, kB] [98] = 0 ∧ (cutE [kA, kB] [98]).length = 1 := by decide +kernel
theorem k_p3 : putOk [kA, kB] kA9 = 7 := by decide +kernel
theorem k_d : decN (encB [kA, kB]) = 0 ∧ decL (encB [kA, kB]) = [kA, kB] := by
  have h : rowsE (encB [kA, kB]) = some [kA, kB] := by
    rw [encB, if_pos k_e]
    exact rowsE_bytesE k_e (by decide)
  unfold decN decL
  rw [h]
  exact ⟨rfl, rfl⟩
theorem k_s : SortE [kA, kB] := by unfold SortE; decide +kernel
theorem recB_of {w : World} {v : Value} {g : Option Nat} {s : List UInt8} (h : Rd w v g (s.map bv)) : recB.Rd w v g s := by
  rcases h with ⟨rfl, rfl, hx⟩ | ⟨a, cap, rfl, hu, h1, h2, h3, h4⟩
  · have : s = [] := by simpa using hx
    subst this
    exact RecT.Rd.nil recB w
  · rw [List.length_map] at *
    refine ⟨some a, cap, rfl, h2, h3, hu, fun hp => ?_, fun h => by cases h⟩
    obtain ⟨hg, hs⟩ := h1 hp
    obtain ⟨b, off, sp⟩ := a
    simp only at hg hs
    subst hs
    refine ⟨b, off, rfl, hg, fun i t hi k hk => ?_⟩
    have hk0 : k = 0 := by have : k < 1 := hk; omega
    subst hk0
    have := h4 i (bv t) (by rw [List.getElem?_map, hi]; rfl)
    rw [Addr.add_lit] at this
    rw [show off + i * recB.n + 0 = off + i from by show off + i * 1 + 0 = off + i; omega, this]
    rfl
theorem rdB_form {w : World} {v : Value} {g : Option Nat} {s : List UInt8} (h : recB.Rd w v g s) : ∃ A c, v = .slice A s.length c ∧ s.length ≤ c ∧ c ≤ maxLen := by
  obtain ⟨A, c, hv, h1, h2, -⟩ := h
  exact ⟨A, c, hv, h1, h2⟩
theorem rdE_form {w : World} {v : Value} {g : Option Nat} {l : List EntV} (h : recE.Rd w v g l) : ∃ A c, v = .slice A l.length c ∧ l.length ≤ c ∧ c ≤ maxLen := by
  obtain ⟨A, c, hv, h1, h2, -⟩ := h
  exact ⟨A, c, hv, h1, h2⟩
set_option maxRecDepth 20000 in
set_option maxHeartbeats 8000000 in
theorem known13 (w : World) : Calls Tryd.prog 9 #[] w fun e w' => e = .returned (.bool true) ∧ Keeps nowhere w w' := by
  have hp1 := put_any none 0 none [] kB w (RecT.Rd.nil recE w) (by decide) (by decide) (by have : SortE [] := List.Pairwise.nil; exact this.mono _)
  rw [k_p1.1, k_p1.2] at hp1
  unfold entV at hp1
  have Hp1 := Lib.hid hp1
  clear hp1
  go_enter Tryd.func9, Tryd.ntmps9
  go_wp2_with fail
  refine Hp1.out.mono ?_
  rintro e w1 ⟨v1, g1, rfl, hr1, ha1, hk1⟩
  obtain ⟨A1, c1, rfl, -, -⟩ := rdE_form hr1
  have hp2 := put_any A1 c1 g1 [kB] kA w1 hr1 (by decide) (by decide) (by have : SortE [kB] := by (unfold SortE; decide +kernel)
                                                                          exact this.mono _)
  rw [k_p2.1, k_p2.2] at hp2
  unfold entV at hp2
  clear hr1 ha1
  have Hp2 := Lib.hid hp2
  have Hk1 := Lib.hid hk1
  clear hp2 hk1
  go_wp2_with fail
  refine Hp2.out.mono ?_
  rintro e w2 ⟨v2, g2, rfl, hr2, ha2, hk2⟩
  obtain ⟨A2, c2, rfl, -, -⟩ := rdE_form hr2
  have hk02 := Hk1.out.more hk2
  have hen := encode_any A2 c2 g2 [kA, kB] w2 hr2 (by decide) (by intro i x hx; match i, hx with | 0, hx => cases hx; exact ⟨by decide, by decide⟩ | 1, hx => cases hx; exact ⟨by decide, by decide⟩ | i + 2, hx => simp at hx)
  unfold EncP at hen
  rw [k_e] at hen
  clear ha2 hk2
  have Hen := Lib.hid hen
  have Hk02 := Lib.hid hk02
  have Hr2 := Lib.hid hr2
  clear hen hk02 hr2
  go_wp2_with fail
  refine Hen.out.mono ?_
  rintro e w3 ⟨v3, g3, rfl, hr3, ha3, hk3⟩
  have hk03 := Hk02.out.more hk3
  have hrb := recB_of hr3
  obtain ⟨A3, c3, rfl, -, -⟩ := rdB_form hrb
  have hde := decode_any A3 c3 _ g3 (encB [kA, kB]) w3 hrb rfl (by rw [k_b]; decide)
  unfold DecP at hde
  rw [k_d.1, k_d.2] at hde
  rw [k_b] at hde ⊢
  clear ha3 hr3 hrb
  have Hde := Lib.hid hde
  have Hk03 := Lib.hid hk03
  have Hk3 := Lib.hid hk3
  clear hde hk03 hk3
  go_wp2_with fail
  refine Hde.out.mono ?_
  rintro e w4 ⟨v4, g4, rfl, hr4, ha4, hk4⟩
  obtain ⟨A4, c4, rfl, -, -⟩ := rdE_form hr4
  have hk04 := Hk03.out.more hk4
  have hfi := find_any A4 c4 g4 [kA, kB] [97] w4 hr4 (by decide) (k_s.mono _)
  unfold FindP at hfi
  rw [k_f.1, k_f.2] at hfi
  have hk24 := Hk3.out.more hk4
  clear ha4 hk4 hr4
  have Hfi := Lib.hid hfi
  have Hk04 := Lib.hid hk04
  have Hk24 := Lib.hid hk24
  clear hfi hk04 hk24
  go_wp2_with fail
  refine Hfi.out.mono ?_
  rintro e w5 ⟨rfl, hk5⟩
  have hk05 := Hk04.out.more hk5
  have hr5 := Hr2.out.same (Hk24.out.more hk5)
  have hcu := cut_any A2 c2 g2 [kA, kB] [98] w5 hr5 (by decide) (k_s.mono _)
  rw [k_c.1] at hcu
  clear hk5
  have Hr5 := Lib.hid hr5
  have Hcu := Lib.hid hcu
  have Hk05 := Lib.hid hk05
  clear hr5 hcu hk05
  go_wp2_with fail
  refine Hcu.out.mono ?_
  rintro e w6 ⟨v6, g6, rfl, hr6, ha6, hk6⟩
  obtain ⟨A6, c6, rfl, -, -⟩ := rdE_form hr6
  rw [k_c.2]
  have hk06 := Hk05.out.more hk6
  have hp3 := put_any A2 c2 g2 [kA, kB] kA9 w6 (Hr5.out.same hk6) (by decide) (by decide) (k_s.mono _)
  rw [k_p3] at hp3
  unfold entV at hp3
  have hr62 := Hr5.out.same hk6
  clear hr6 ha6 hk6
  have Hp3 := Lib.hid hp3
  have Hk06 := Lib.hid hk06
  have Hr62 := Lib.hid hr62
  clear hp3 hk06 hr62
  go_wp2_with fail
  refine Hp3.out.mono ?_
  rintro e w7 ⟨v7, g7, rfl, hr7, ha7, hk7⟩
  have hk07 := Hk06.out.more hk7
  obtain ⟨b, o, hA, hb, hcells⟩ := rdE_cells Hr62.out (by decide)
  obtain ⟨c0, -⟩ := hcells w7 hk7 0 kA rfl
  subst hA
  simp only [Nat.zero_mul, Nat.add_zero] at c0
  rw [show strOf kA.1 = { data := #[97] } from rfl] at c0
  clear hcells hr7 ha7 hk7
  have Hk07 := Lib.hid hk07
  clear hk07
  go_wp2_with fail
  go_ret
  exact ⟨rfl, Hk07.out⟩
end Go.Proofs.YtnlmdfbjmhcilaaDoor
/-
  entry: EntryForms, EntryBytes, EntryBack, walked.
-/
namespace Go.Proofs.YtnlmdfbjmhcilaaDoor
open Go.RowKit Go.Proofs
attribute [local go_sem] strOf_size strOf_get strOf_toList

def YesE (w : World) : Ending → World → Prop := fun e w' => e = .returned (.bool true) ∧ Keeps nowhere w w'
def In4 (l : List EntV) : Prop := ∀ x ∈ l, x.2 < 4294967296
theorem fewE_iff {l : List EntV} : fewE l = true ↔ l.length ≤ 60 ∧ ∀ x ∈ l, x.1.length ≤ 100 := by
  unfold fewE
  simp
theorem few_ok {l : List EntV} (h : fewE l = true) (h4 : In4 l) : OkE l := fun i x hx => ⟨by have := (fewE_iff.1 h).2 x (List.mem_of_getElem? hx); omega, h4 x (List.mem_of_getElem? hx)⟩
theorem same_self (l : List EntV) : sameE l l = true := by simp [sameE]
set_option maxRecDepth 20000 in
set_option maxHeartbeats 4000000 in
theorem entryForms_any (A : Option Addr) (c : Nat) (g : Option Nat) (l : List EntV) (w : World) (hr : recE.Rd w (.slice A l.length c) g l) (h4 : In4 l) :
    Calls Tryd.prog 5 #[.slice A l.length c] w (YesE w) := by
  have hkn := known13 w
  have hfew := fun w1 (hk : Keeps nowhere w w1) => few_any A c g l w1 (hr.same hk)
  obtain ⟨n, hn⟩ : ∃ n, n = l.length := ⟨_, rfl⟩
  cases hf : fewE l with
  | false =>
    rw [hf] at hfew
    rw [← hn] at hfew ⊢
    have Hr := Lib.hid hr
    have Hkn := Lib.hid hkn
    have Hfew := Lib.hid hfew
    have Hn := Lib.hid hn
    have Hf := Lib.hid hf
    have H4 := Lib.hid h4
    clear hr hkn hfew hn hf h4
    go_enter Tryd.func5, Tryd.ntmps5
    go_wp2_with fail
    refine Hkn.out.mono ?_
    rintro e w1 ⟨rfl, hk1⟩
    have Hk1 := Lib.hid hk1
    clear hk1
    go_wp2_with fail
    refine (Hfew.out w1 Hk1.out).mono ?_
    rintro e w2 ⟨rfl, hk2⟩
    go_wp2_with fail
    go_ret
    exact ⟨rfl, Hk1.out.more hk2⟩
  | true =>
    have hfi := fewE_iff.1 hf
    have hck := fun w1 (hk : Keeps nowhere w w1) => check_any A c g l w1 (hr.same hk) (by omega) (fun i x hx => by have := hfi.2 x (List.mem_of_getElem? hx); omega)
    by_cases hc : checkE l = 0
    · have hby := fun w1 (hk : Keeps nowhere w w1) => bytes_any A c g l w1 (hr.same hk) (by omega) (few_ok hf h4)
      have hro := rowsE_bytesE hc h4
      have hdn : decN (bytesE l) = 0 := by unfold decN; rw [hro]; rfl
      have hdl : decL (bytesE l) = l := by unfold decL; rw [hro]; rfl
      have hbl := bytesE_len (checkE_zero.1 hc).2
      have hsame := fun w1 (hk : Keeps nowhere w w1) A2 c2 g2 h => same_any A2 A c2 c g2 g l l w1 h (hr.same hk) (by omega)
      have hnl : n ≤ 60 := by omega
      rw [hf] at hfew
      rw [hc] at hck
      unfold RetOwnB at hby
      rw [same_self] at hsame
      rw [← hn] at hfew hck hby hsame ⊢
      clear hfi
      have Hr := Lib.hid hr
      have Hkn := Lib.hid hkn
      have Hfew := Lib.hid hfew
      have Hn := Lib.hid hn
      have Hf := Lib.hid hf
      have H4 := Lib.hid h4
      have Hck := Lib.hid hck
      have Hc := Lib.hid hc
      have Hby := Lib.hid hby
      have Hro := Lib.hid hro
      have Hdn := Lib.hid hdn
      have Hdl := Lib.hid hdl
      have Hbl := Lib.hid hbl
      have Hsame := Lib.hid hsame
      clear hr hkn hfew hn hf h4 hck hc hby hro hdn hdl hbl hsame
      go_enter Tryd.func5, Tryd.ntmps5
      go_wp2_with fail
      refine Hkn.out.mono ?_
      rintro e w1 ⟨rfl, hk1⟩
      have Hk1 := Lib.hid hk1
      clear hk1
      go_wp2_with fail
      refine (Hfew.out w1 Hk1.out).mono ?_
      rintro e w2 ⟨rfl, hk2⟩
      have hk02 := Hk1.out.more hk2
      clear hk2
      have Hk02 := Lib.hid hk02
      clear hk02
      go_wp2_with fail
      refine (Hck.out w2 Hk02.out).mono ?_
      rintro e w3 ⟨rfl, hk3⟩
      have hk03 := Hk02.out.more hk3
      clear hk3
      have Hk03 := Lib.hid hk03
      clear hk03
      go_wp2_with fail
      refine (Hby.out w3 Hk03.out).mono ?_
      rintro e w4 ⟨v4, rfl, hown4, hab4, hk4⟩
      have hk04 := Hk03.out.more hk4
      have hrb := recB_of hown4.rd
      obtain ⟨A4, c4, rfl, -, -⟩ := rdB_form hrb
      have hde := decode_any A4 c4 _ _ (bytesE l) w4 hrb rfl (by rw [Hbl.out]; have := Hn.out; omega)
      unfold DecP at hde
      rw [Hdn.out, Hdl.out] at hde
      obtain ⟨N, hN⟩ : ∃ N, N = (bytesE l).length := ⟨_, rfl⟩
      rw [← hN] at hde ⊢
      clear hown4 hab4 hk4 hrb
      have Hde := Lib.hid hde
      have Hk04 := Lib.hid hk04
      have HN := Lib.hid hN
      clear hde hk04 hN
      go_wp2_with fail
      refine Hde.out.mono ?_
      rintro e w5 ⟨v5, g5, rfl, hr5, ha5, hk5⟩
      have hk05 := Hk04.out.more hk5
      obtain ⟨A5, c5, rfl, -, -⟩ := rdE_form hr5
      rw [← Hn.out] at hr5 ⊢
      have hsm := Hsame.out w5 hk05 A5 c5 g5 hr5
      clear hr5 ha5 hk5
      have Hk05 := Lib.hid hk05
      have Hsm := Lib.hid hsm
      clear hk05 hsm
      go_wp2_with fail
      refine Hsm.out.mono ?_
      rintro e w6 ⟨rfl, hk6⟩
      go_wp2_with fail
      go_ret
      exact ⟨rfl, Hk05.out.more hk6⟩
    · have hcI : (checkE l != 0) = true := by simp [hc]
      obtain ⟨k, hk⟩ : ∃ k, k = checkE l := ⟨_, rfl⟩
      rw [hf] at hfew
      rw [← hk] at hck hcI
      rw [← hn] at hfew hck ⊢
      clear hfi
      have Hr := Lib.hid hr
      have Hkn := Lib.hid hkn
      have Hfew := Lib.hid hfew
      have Hn := Lib.hid hn
      have Hf := Lib.hid hf
      have H4 := Lib.hid h4
      have Hck := Lib.hid hck
      have Hc := Lib.hid hc
      have Hk := Lib.hid hk
      clear hr hkn hfew hn hf h4 hck hc hk
      go_enter Tryd.func5, Tryd.ntmps5
      go_wp2_with fail
      refine Hkn.out.mono ?_
      rintro e w1 ⟨rfl, hk1⟩
      have Hk1 := Lib.hid hk1
      clear hk1
      go_wp2_with fail
      refine (Hfew.out w1 Hk1.out).mono ?_
      rintro e w2 ⟨rfl, hk2⟩
      have hk02 := Hk1.out.more hk2
      clear hk2
      have Hk02 := Lib.hid hk02
      clear hk02
      go_wp2_with fail
      refine (Hck.out w2 Hk02.out).mono ?_
      rintro e w3 ⟨rfl, hk3⟩
      go_wp2_with fail
      go_ret
      exact ⟨rfl, Hk02.out.more hk3⟩
theorem rowsE_len {L : List UInt8} {l : List EntV} (h : rowsE L = some l) : l.length = L.length / 32 ∧ In4 l ∧ OkE l := by
  unfold rowsE at h
  split at h
  · split at h
    · injection h with h
      subst h
      refine ⟨by simp [parseE], fun x hx => ?_, entP_ok _⟩
      obtain ⟨i, hi⟩ := List.getElem?_of_mem hx
      exact (entP_ok _ i x hi).2
    · cases h
  · cases h
set_option maxRecDepth 20000 in
set_option maxHeartbeats 4000000 in
theorem entryBytes_any (A : Option Addr) (c : Nat) (g : Option Nat) (L : List UInt8) (w : World) (hr : recB.Rd w (.slice A L.length c) g L) :
    Calls Tryd.prog 4 #[.slice A L.length c] w (YesE w) := by
  have hkn := known13 w
  obtain ⟨n, hn⟩ : ∃ n, n = L.length := ⟨_, rfl⟩
  by_cases h1000 : 1000 < n
  · have hI : (1000 : Int) < n := by omega
    rw [← hn]
    have Hr := Lib.hid hr
    have Hkn := Lib.hid hkn
    have Hn := Lib.hid hn
    clear hr hkn hn
    go_enter Tryd.func4, Tryd.ntmps4
    go_wp2_with fail
    refine Hkn.out.mono ?_
    rintro e w1 ⟨rfl, hk1⟩
    go_wp2_with fail
    go_ret
    exact ⟨rfl, hk1⟩
  · have hI : ¬ (1000 : Int) < n := by omega
    have hde := fun w1 (hk : Keeps nowhere w w1) => decode_any A c L.length g L w1 (hr.same hk) rfl (by omega)
    unfold DecP at hde
    cases hro : rowsE L with
    | none =>
      have hdn : decN L = 2 := by unfold decN; rw [hro]; rfl
      have hdl : decL L = [] := by unfold decL; rw [hro]; rfl
      rw [hdn, hdl] at hde
      rw [← hn] at hde ⊢
      have Hr := Lib.hid hr
      have Hkn := Lib.hid hkn
      have Hn := Lib.hid hn
      have Hde := Lib.hid hde
      have Hro := Lib.hid hro
      have Hdn := Lib.hid hdn
      have Hdl := Lib.hid hdl
      clear hr hkn hn hde hro hdn hdl
      go_enter Tryd.func4, Tryd.ntmps4
      go_wp2_with fail
      refine Hkn.out.mono ?_
      rintro e w1 ⟨rfl, hk1⟩
      have Hk1 := Lib.hid hk1
      clear hk1
      go_wp2_with fail
      refine (Hde.out w1 Hk1.out).mono ?_
      rintro e w2 ⟨v2, g2, rfl, hr2, ha2, hk2⟩
      obtain ⟨A2, c2, rfl, -, -⟩ := rdE_form hr2
      have hk02 := Hk1.out.more hk2
      clear hr2 ha2 hk2
      have Hk02 := Lib.hid hk02
      clear hk02
      go_wp2_with fail
      go_ret
      exact ⟨rfl, Hk02.out⟩
    | some l =>
      have hdn : decN L = 0 := by unfold decN; rw [hro]; rfl
      have hdl : decL L = l := by unfold decL; rw [hro]; rfl
      obtain ⟨hc, hb⟩ := rowsE_some hro
      obtain ⟨hll, h4, hok⟩ := rowsE_len hro
      rw [hdn, hdl] at hde
      have hl60 : l.length ≤ 100 := by omega
      have hsl : ∀ (i : Nat) (x : EntV), l[i]? = some x → x.1.length ≤ 1000000000 := fun i x hx => by have := (hok i x hx).1; omega
      have heq : (bytesE l == L) = true := by rw [hb]; simp
      obtain ⟨ga, hRL⟩ : ∃ ga, ∀ W', Keeps nowhere w W' → Rd W' (.slice A L.length c) ga (L.map bv) := by
        cases A with
        | none =>
          obtain ⟨A', c', hv, -, h2, -, h3, h4⟩ := hr
          injection hv with e1 e2 e3
          have hL0 : L = [] := by
            cases L with
            | nil => rfl
            | cons x L =>
              obtain ⟨b, o, hA, -⟩ := h3 (by simp)
              rw [hA] at e1
              cases e1
          subst hL0
          have hc0 : c = 0 := by rw [e3]; exact h4 e1.symm
          subst hc0
          exact ⟨none, fun W' _ => Rd.nil W'⟩
        | some a => exact ⟨g, fun W' hk => rd_of (hr.same hk)⟩
      rw [← hn] at hde hRL ⊢
      have Hr := Lib.hid hr
      have Hkn := Lib.hid hkn
      have Hn := Lib.hid hn
      have Hde := Lib.hid hde
      have Hro := Lib.hid hro
      have Hdn := Lib.hid hdn
      have Hdl := Lib.hid hdl
      have Hc := Lib.hid hc
      have Hb := Lib.hid hb
      have Hok := Lib.hid hok
      have HRL := Lib.hid hRL
      have Hsl := Lib.hid hsl
      have H4 := Lib.hid h4
      have Hll := Lib.hid hll
      clear hr hkn hn hde hro hdn hdl hc hb hok hRL hsl h4 hll
      go_enter Tryd.func4, Tryd.ntmps4
      go_wp2_with fail
      refine Hkn.out.mono ?_
      rintro e w1 ⟨rfl, hk1⟩
      have Hk1 := Lib.hid hk1
      clear hk1
      go_wp2_with fail
      refine (Hde.out w1 Hk1.out).mono ?_
      rintro e w2 ⟨v2, g2, rfl, hr2, ha2, hk2⟩
      obtain ⟨A2, c2, rfl, -, -⟩ := rdE_form hr2
      have hk02 := Hk1.out.more hk2
      have hck := fun w3 (hk : Keeps nowhere w2 w3) => check_any A2 c2 g2 l w3 (hr2.same hk) (by omega) Hsl.out
      have hby := fun w3 (hk : Keeps nowhere w2 w3) => bytes_any A2 c2 g2 l w3 (hr2.same hk) (by omega) Hok.out
      rw [Hc.out] at hck
      unfold RetOwnB at hby
      obtain ⟨m, hm⟩ : ∃ m, m = l.length := ⟨_, rfl⟩
      rw [← hm] at hck hby ⊢
      have q0 : ∀ w', Keeps nowhere w2.drew w' → (convert 25 9 (.slice A n c)).run Tryd.prog w' = .ok (.string (strOf L)) w' := fun w' hk => conv_str _ _ L w' (HRL.out w' (hk02.drew.more hk))
      clear hr2 ha2 hk2
      have Hk02 := Lib.hid hk02
      have Hck := Lib.hid hck
      have Hby := Lib.hid hby
      have Hm := Lib.hid hm
      clear hk02 hck hby hm
      go_wp2_with fail
      refine wp_region_script [4, 7, 8, 9, 10, 11] [8] [.es [0, 1, 2, 3] false, .ps [4, 7], .fs [8], .es [5] true, .es [6] true, .ps [9, 10, 11]] (Keeps nowhere w2.drew) rfl (by kernel_rfl) ?_
      refine wpS_es rfl fun K hK => ?_
      have HK := Lib.hid hK
      clear hK
      simp only [List.map_cons, List.map_nil, Option.getD_some, List.getElem?_toArray, List.getElem?_cons_zero, List.getElem?_cons_succ]
      go_wp2_with fail
      refine (Hck.out w2.drew ((Keeps.refl nowhere w2).drew)).mono ?_
      rintro e w3 ⟨rfl, hk3⟩
      have hk23 := ((Keeps.refl nowhere w2).drew).more hk3
      have hS3 : Keeps nowhere w2.drew w3 := hk3
      clear hk3
      have Hk23 := Lib.hid hk23
      have HS3 := Lib.hid hS3
      clear hk23 hS3
      go_wp2_with fail
      refine HK.out _ _ (fun h => by cases h) ?_
      clear HK K
      refine wpS_ps rfl fun K hK => ?_
      simp only [List.map_cons, List.map_nil, Option.getD_some, List.getElem?_toArray, List.getElem?_cons_zero, List.getElem?_cons_succ]
      iterate 2 (first | (apply quietO_cons _ rfl; (intro w' _; go_simp; rfl)) | apply quietO_skip rfl)
      refine hK _ ?_
      clear hK K
      simp only [Act.put, List.setIfInBounds_toArray, List.set_cons_zero, List.set_cons_succ]
      refine wpS_fs rfl (HS3.out) fun K hK => ?_
      simp only [List.map_cons, List.map_nil, Option.getD_some, List.getElem?_toArray, List.getElem?_cons_zero, List.getElem?_cons_succ]
      iterate 1 (first | (apply quietO_cons _ rfl; (intro w' hs; have c_0 := q0 w' hs; go_simp; rfl)) | apply quietO_skip rfl)
      refine hK _ ?_
      clear hK K
      simp only [Act.put, List.setIfInBounds_toArray, List.set_cons_zero, List.set_cons_succ]
      clear q0
      refine wpS_es rfl fun K hK => ?_
      have HK := Lib.hid hK
      clear hK
      simp only [List.map_cons, List.map_nil, Option.getD_some, List.getElem?_toArray, List.getElem?_cons_zero, List.getElem?_cons_succ]
      go_wp2_with fail
      refine (Hby.out w3 Hk23.out).mono ?_
      rintro e w4 ⟨v4, rfl, hown4, hab4, hk4⟩
      have hS4 := HS3.out.more hk4
      have hk24 := Hk23.out.more hk4
      have q1 := conv_str v4 _ _ w4 hown4.rd
      clear hown4 hab4 hk4
      have HS4 := Lib.hid hS4
      have Hk24 := Lib.hid hk24
      clear hS4 hk24
      go_wp2_with fail
      refine HK.out _ _ (fun _ => HS4.out) ?_
      clear HK K
      refine wpS_es rfl fun K hK => ?_
      have HK := Lib.hid hK
      clear hK
      simp only [List.map_cons, List.map_nil, Option.getD_some, List.getElem?_toArray, List.getElem?_cons_zero, List.getElem?_cons_succ]
      go_wp2_with fail
      refine HK.out _ _ (fun _ => HS4.out) ?_
      clear HK K
      refine wpS_ps rfl fun K hK => ?_
      simp only [List.map_cons, List.map_nil, Option.getD_some, List.getElem?_toArray, List.getElem?_cons_zero, List.getElem?_cons_succ]
      iterate 3 (first | (apply quietO_cons _ rfl; (intro w' _; go_simp; rfl)) | apply quietO_skip rfl)
      refine hK _ ?_
      clear hK K
      simp only [Act.put, List.setIfInBounds_toArray, List.set_cons_zero, List.set_cons_succ]
      refine wpS_nil ?_
      go_wp2_with fail
      go_ret
      exact ⟨rfl, Hk02.out.more Hk24.out⟩
set_option maxRecDepth 20000 in
set_option maxHeartbeats 4000000 in
theorem entryBack_any (A : Option Addr) (c : Nat) (g : Option Nat) (l : List EntV) (w : World) (hr : recE.Rd w (.slice A l.length c) g l) (h4 : In4 l) :
    Calls Tryd.prog 3 #[.slice A l.length c] w (YesE w) := by
  have hkn := known13 w
  have hfew := fun w1 (hk : Keeps nowhere w w1) => few_any A c g l w1 (hr.same hk)
  obtain ⟨n, hn⟩ : ∃ n, n = l.length := ⟨_, rfl⟩
  cases hf : fewE l with
  | false =>
    rw [hf] at hfew
    rw [← hn] at hfew ⊢
    have Hr := Lib.hid hr
    have Hkn := Lib.hid hkn
    have Hfew := Lib.hid hfew
    have Hn := Lib.hid hn
    have Hf := Lib.hid hf
    have H4 := Lib.hid h4
    clear hr hkn hfew hn hf h4
    go_enter Tryd.func3, Tryd.ntmps3
    go_wp2_with fail
    refine Hkn.out.mono ?_
    rintro e w1 ⟨rfl, hk1⟩
    have Hk1 := Lib.hid hk1
    clear hk1
    go_wp2_with fail
    refine (Hfew.out w1 Hk1.out).mono ?_
    rintro e w2 ⟨rfl, hk2⟩
    go_wp2_with fail
    go_ret
    exact ⟨rfl, Hk1.out.more hk2⟩
  | true =>
    have hfi := fewE_iff.1 hf
    have hck := fun w1 (hk : Keeps nowhere w w1) => check_any A c g l w1 (hr.same hk) (by omega) (fun i x hx => by have := hfi.2 x (List.mem_of_getElem? hx); omega)
    have hen := fun w1 (hk : Keeps nowhere w w1) => encode_any A c g l w1 (hr.same hk) (by omega) (few_ok hf h4)
    unfold EncP at hen
    have hnl : n ≤ 60 := by omega
    by_cases hc : checkE l = 0
    · have hby := fun w1 (hk : Keeps nowhere w w1) => bytes_any A c g l w1 (hr.same hk) (by omega) (few_ok hf h4)
      have hro := rowsE_bytesE hc h4
      have hdn : decN (bytesE l) = 0 := by unfold decN; rw [hro]; rfl
      have hdl : decL (bytesE l) = l := by unfold decL; rw [hro]; rfl
      have hbl := bytesE_len (checkE_zero.1 hc).2
      have hB : encB l = bytesE l := by unfold encB; rw [if_pos hc]
      have hsame := fun w1 (hk : Keeps nowhere w w1) A2 c2 g2 h => same_any A2 A c2 c g2 g l l w1 h (hr.same hk) (by omega)
      rw [hf] at hfew
      rw [hc, hB] at hen
      rw [hc] at hck
      unfold RetOwnB at hby
      rw [same_self] at hsame
      rw [← hn] at hfew hck hby hsame hen ⊢
      have heq : (bytesE l == bytesE l) = true := by simp
      clear hfi
      have Hr := Lib.hid hr
      have Hkn := Lib.hid hkn
      have Hfew := Lib.hid hfew
      have Hn := Lib.hid hn
      have Hf := Lib.hid hf
      have H4 := Lib.hid h4
      have Hck := Lib.hid hck
      have Hc := Lib.hid hc
      have Hby := Lib.hid hby
      have Hro := Lib.hid hro
      have Hdn := Lib.hid hdn
      have Hdl := Lib.hid hdl
      have Hbl := Lib.hid hbl
      have Hsame := Lib.hid hsame
      have Hen := Lib.hid hen
      have HB := Lib.hid hB
      clear hr hkn hfew hn hf h4 hck hc hby hro hdn hdl hbl hsame hen hB
      go_enter Tryd.func3, Tryd.ntmps3
      go_wp2_with fail
      refine Hkn.out.mono ?_
      rintro e w1 ⟨rfl, hk1⟩
      have Hk1 := Lib.hid hk1
      clear hk1
      go_wp2_with fail
      refine (Hfew.out w1 Hk1.out).mono ?_
      rintro e w2 ⟨rfl, hk2⟩
      have hk02 := Hk1.out.more hk2
      clear hk2
      have Hk02 := Lib.hid hk02
      clear hk02
      go_wp2_with fail
      refine (Hen.out w2 Hk02.out).mono ?_
      rintro e w3 ⟨v3, g3, rfl, hr3, ha3, hk3⟩
      have hk03 := Hk02.out.more hk3
      have hrb := recB_of hr3
      obtain ⟨A3, c3, rfl, -, -⟩ := rdB_form hrb
      obtain ⟨N, hN⟩ : ∃ N, N = (bytesE l).length := ⟨_, rfl⟩
      rw [← hN] at hrb hr3 ⊢
      clear ha3 hk3
      have Hk03 := Lib.hid hk03
      have Hrb := Lib.hid hrb
      have HN := Lib.hid hN
      have Hr3 := Lib.hid hr3
      clear hk03 hrb hN hr3
      go_wp2_with fail
      refine (Hck.out w3 Hk03.out).mono ?_
      rintro e w4 ⟨rfl, hk4⟩
      have hk04 := Hk03.out.more hk4
      have hr4 := Hr3.out.keep hk4 (fun _ _ h => h)
      have hde := decode_any A3 c3 N g3 (bytesE l) w4 (Hrb.out.same hk4) HN.out (by rw [Hbl.out]; have := Hn.out; omega)
      unfold DecP at hde
      rw [Hdn.out, Hdl.out] at hde
      clear hk4
      have Hde := Lib.hid hde
      have Hk04 := Lib.hid hk04
      have Hr4 := Lib.hid hr4
      clear hde hk04 hr4
      go_wp2_with fail
      refine Hde.out.mono ?_
      rintro e w5 ⟨v5, g5, rfl, hr5, ha5, hk5⟩
      have hk05 := Hk04.out.more hk5
      have hr45 := Hr4.out.keep hk5 (fun _ _ h => h)
      obtain ⟨A5, c5, rfl, -, -⟩ := rdE_form hr5
      rw [← Hn.out] at hr5 ⊢
      have hsm := fun w6 (hk : Keeps nowhere w5 w6) => Hsame.out w6 (hk05.more hk) A5 c5 g5 (hr5.same hk)
      have hby5 := Hby.out w5.drew hk05.drew
      have q0 : ∀ w', Keeps nowhere w5.drew w' → (convert 25 9 (.slice A3 N c3)).run Tryd.prog w' = .ok (.string (strOf (bytesE l))) w' := fun w' hk => conv_str _ _ (bytesE l) w' (hr45.keep (((Keeps.refl nowhere w5).drew).more hk) (fun _ _ h => h))
      clear hr5 ha5 hk5 hr45
      have Hk05 := Lib.hid hk05
      have Hsm := Lib.hid hsm
      have Hby5 := Lib.hid hby5
      clear hk05 hsm hby5
      go_wp2_with fail
      refine wp_region_script [0, 1, 2, 5, 6, 7, 8, 9, 10, 11, 12] [1] [.ps [0], .fs [1], .ps [2], .es [3] true, .es [4] true, .ps [5, 6, 7], .ps [8, 9, 10], .ps [11, 12], .es [13, 14, 15] false] (Keeps nowhere w5.drew) rfl (by kernel_rfl) ?_
      refine wpS_ps rfl fun K hK => ?_
      simp only [List.map_cons, List.map_nil, Option.getD_some, List.getElem?_toArray, List.getElem?_cons_zero, List.getElem?_cons_succ]
      iterate 1 (first | (apply quietO_cons _ rfl; (intro w' _; go_simp; rfl)) | apply quietO_skip rfl)
      refine hK _ ?_
      clear hK K
      simp only [Act.put, List.setIfInBounds_toArray, List.set_cons_zero, List.set_cons_succ]
      refine wpS_fs rfl (Keeps.refl _ _) fun K hK => ?_
      simp only [List.map_cons, List.map_nil, Option.getD_some, List.getElem?_toArray, List.getElem?_cons_zero, List.getElem?_cons_succ]
      iterate 1 (first | (apply quietO_cons _ rfl; (intro w' hs; have c_0 := q0 w' hs; go_simp; rfl)) | apply quietO_skip rfl)
      refine hK _ ?_
      clear hK K
      simp only [Act.put, List.setIfInBounds_toArray, List.set_cons_zero, List.set_cons_succ]
      clear q0
      refine wpS_ps rfl fun K hK => ?_
      simp only [List.map_cons, List.map_nil, Option.getD_some, List.getElem?_toArray, List.getElem?_cons_zero, List.getElem?_cons_succ]
      iterate 1 (first | (apply quietO_cons _ rfl; (intro w' _; go_simp; rfl)) | apply quietO_skip rfl)
      refine hK _ ?_
      clear hK K
      simp only [Act.put, List.setIfInBounds_toArray, List.set_cons_zero, List.set_cons_succ]
      refine wpS_es rfl fun K hK => ?_
      have HK := Lib.hid hK
      clear hK
      simp only [List.map_cons, List.map_nil, Option.getD_some, List.getElem?_toArray, List.getElem?_cons_zero, List.getElem?_cons_succ]
      go_wp2_with fail
      refine Hby5.out.mono ?_
      rintro e w6 ⟨v6, rfl, hown6, hab6, hk6⟩
      have q1 := conv_str v6 _ _ w6 hown6.rd
      clear hown6 hab6
      have Hk6 := Lib.hid hk6
      clear hk6
      go_wp2_with fail
      refine HK.out _ _ (fun _ => Hk6.out) ?_
      clear HK K
      refine wpS_es rfl fun K hK => ?_
      have HK := Lib.hid hK
      clear hK
      simp only [List.map_cons, List.map_nil, Option.getD_some, List.getElem?_toArray, List.getElem?_cons_zero, List.getElem?_cons_succ]
      go_wp2_with fail
      refine HK.out _ _ (fun _ => Hk6.out) ?_
      clear HK K
      refine wpS_ps rfl fun K hK => ?_
      simp only [List.map_cons, List.map_nil, Option.getD_some, List.getElem?_toArray, List.getElem?_cons_zero, List.getElem?_cons_succ]
      iterate 3 (first | (apply quietO_cons _ rfl; (intro w' _; go_simp; rfl)) | apply quietO_skip rfl)
      refine hK _ ?_
      clear hK K
      simp only [Act.put, List.setIfInBounds_toArray, List.set_cons_zero, List.set_cons_succ]
      refine wpS_ps rfl fun K hK => ?_
      simp only [List.map_cons, List.map_nil, Option.getD_some, List.getElem?_toArray, List.getElem?_cons_zero, List.getElem?_cons_succ]
      iterate 3 (first | (apply quietO_cons _ rfl; (intro w' _; go_simp; rfl)) | apply quietO_skip rfl)
      refine hK _ ?_
      clear hK K
      simp only [Act.put, List.setIfInBounds_toArray, List.set_cons_zero, List.set_cons_succ]
      refine wpS_ps rfl fun K hK => ?_
      simp only [List.map_cons, List.map_nil, Option.getD_some, List.getElem?_toArray, List.getElem?_cons_zero, List.getElem?_cons_succ]
      iterate 2 (first | (apply quietO_cons _ rfl; (intro w' _; go_simp; rfl)) | apply quietO_skip rfl)
      refine hK _ ?_
      clear hK K
      simp only [Act.put, List.setIfInBounds_toArray, List.set_cons_zero, List.set_cons_succ]
      refine wpS_es rfl fun K hK => ?_
      have HK := Lib.hid hK
      clear hK
      simp only [List.map_cons, List.map_nil, Option.getD_some, List.getElem?_toArray, List.getElem?_cons_zero, List.getElem?_cons_succ]
      go_wp2_with fail
      refine (Hsm.out w6 (((Keeps.refl nowhere w5).drew).more Hk6.out)).mono ?_
      rintro e w7 ⟨rfl, hk7⟩
      have hk07 := (Hk05.out.drew.more Hk6.out).more hk7
      clear hk7
      have Hk07 := Lib.hid hk07
      clear hk07
      go_wp2_with fail
      refine HK.out _ _ (fun h => by cases h) ?_
      clear HK K
      refine wpS_nil ?_
      go_wp2_with fail
      go_ret
      exact ⟨rfl, Hk07.out⟩
    · have hcI : (checkE l != 0) = true := by simp [hc]
      have hcc : (checkE l == checkE l) = true := by simp
      have hB : encB l = [] := by unfold encB; rw [if_neg hc]
      obtain ⟨k, hk⟩ : ∃ k, k = checkE l := ⟨_, rfl⟩
      rw [hf] at hfew
      rw [← hk] at hck hcI hen hcc
      rw [hB] at hen
      rw [← hn] at hfew hck hen ⊢
      clear hfi
      have Hr := Lib.hid hr
      have Hkn := Lib.hid hkn
      have Hfew := Lib.hid hfew
      have Hn := Lib.hid hn
      have Hf := Lib.hid hf
      have H4 := Lib.hid h4
      have Hck := Lib.hid hck
      have Hc := Lib.hid hc
      have Hk := Lib.hid hk
      have Hen := Lib.hid hen
      have HB := Lib.hid hB
      clear hr hkn hfew hn hf h4 hck hc hk hen hB
      go_enter Tryd.func3, Tryd.ntmps3
      go_wp2_with fail
      refine Hkn.out.mono ?_
      rintro e w1 ⟨rfl, hk1⟩
      have Hk1 := Lib.hid hk1
      clear hk1
      go_wp2_with fail
      refine (Hfew.out w1 Hk1.out).mono ?_
      rintro e w2 ⟨rfl, hk2⟩
      have hk02 := Hk1.out.more hk2
      clear hk2
      have Hk02 := Lib.hid hk02
      clear hk02
      go_wp2_with fail
      refine (Hen.out w2 Hk02.out).mono ?_
      rintro e w3 ⟨v3, g3, rfl, hr3, ha3, hk3⟩
      have hk03 := Hk02.out.more hk3
      obtain ⟨A3, c3, rfl, -, -⟩ := rdB_form (recB_of hr3)
      clear ha3 hk3 hr3
      have Hk03 := Lib.hid hk03
      clear hk03
      go_wp2_with fail
      refine (Hck.out w3 Hk03.out).mono ?_
      rintro e w4 ⟨rfl, hk4⟩
      go_wp2_with fail
      go_ret
      exact ⟨rfl, Hk03.out.more hk4⟩
end Go.Proofs.YtnlmdfbjmhcilaaDoor
/-
  A slice of structs that came in: each element, each field. (After the page extra-structs of the guide.)
-/
namespace Go.Proofs.YtnlmdfbjmhcilaaDoor
open Go.ChangeShapes Go.WideShapes Go.Deep Go.RowKit

theorem list_of_forall {α : Type} {P : Nat → α → Prop} : ∀ n, (∀ i, i < n → ∃ x, P i x) → ∃ l : List α, l.length = n ∧ ∀ i x, l[i]? = some x → P i x
  | 0, _ => ⟨[], rfl, fun i x h => by simp at h⟩
  | n + 1, h => by
    obtain ⟨l, hl, hp⟩ := list_of_forall n (fun i hi => h i (by omega))
    obtain ⟨x, hx⟩ := h n (by omega)
    refine ⟨l ++ [x], by simp [hl], fun i y hy => ?_⟩
    rw [List.getElem?_append] at hy
    split at hy
    · exact hp i y hy
    · rename_i hi
      have : i = n := by
        have := (List.getElem?_eq_some_iff.1 hy).1
        simp at this
        omega
      subst this
      rw [hl, Nat.sub_self] at hy
      simp at hy
      subst hy
      exact hx

theorem add_none {w : World} {a : Addr} {k : Nat} {v : Value} (h : w.cell? (a.add k) = some v) : ∃ b off, a = ⟨b, off, none⟩ ∨ (k ≠ 0 ∧ b = a.block ∧ off = a.off) := by
  exact ⟨a.block, a.off, by
    by_cases hk : k = 0
    · subst hk
      left
      have := World.cell?_spot h
      simp [Addr.add] at this
      cases a
      simp_all
    · exact .inr ⟨hk, rfl, rfl⟩⟩

section
variable {H : Type} {enc : TypeId × Value → H} {P : Program} {w : World} {base : Nat} {spare : Nat → Bool} {held : Bool}
theorem open_slice_fields {t e : TypeId} {fs : Array Field} {fuel : Nat} {cs : List Value} {x : DataW H × List MemPlace} (ht : P.underlying t = some (.slice e)) (he : P.underlying e = some (.struct fs))
    (hone : oneCellFields P fs = true) (hC : P.cellsOf e = fs.size) (h : DataW.trod enc P w base spare held fuel t cs = some x) :
    (cs = [.slice none 0 0] ∧ x = (.nil, [])) ∨
    ∃ (a : Addr) (len cap m : Nat) (D : Nat → DataW H) (Pl : Nat → List MemPlace), cs = [.slice (some a) len cap] ∧ base ≤ a.block ∧ len ≤ cap ∧ cap ≤ maxLen ∧ m = (if spare a.block then cap else len) ∧
      x = (.slice ((List.range len).map D) ((List.range (m - len)).map fun j => D (len + j)), MemPlace.row a (m * fs.size) ++ (List.range m).flatMap Pl) ∧
      ∀ i, i < m → ∃ (ys : List (DataW H × List MemPlace)) (n : Nat), D i = .agg (ys.map (·.1)) ∧ Pl i = ys.flatMap (·.2) ∧ ys.length = fs.size ∧
        ∀ (j : Nat) (f : Field), fs[j]? = some f → ∃ (v : Value) (y : DataW H × List MemPlace), w.cell? (a.add (i * fs.size + j)) = some v ∧ ys[j]? = some y ∧ DataW.trod enc P w base spare held n f.type [v] = some y := by
  rcases open_slice ht h with h0 | ⟨a, len, cap, m, n, D, Pl, hcs, hb, hl, hm, hmm, hx, hi⟩
  · exact .inl h0
  · refine .inr ⟨a, len, cap, m, D, Pl, hcs, hb, hl, hm, hmm, by rw [hC] at hx; exact hx, fun i him => ?_⟩
    obtain ⟨cs', hc, ht'⟩ := hi i him
    rw [hC] at hc
    obtain ⟨ys, n', hn', hy, hlen, hyl, hf⟩ := DataW.trod_struct he ht'
    obtain ⟨_, hcl, hat⟩ := World.cells?_some hc
    simp only [Prod.mk.injEq] at hy
    refine ⟨ys, n', hy.1, hy.2, hyl, fun j f hj => ?_⟩
    obtain ⟨ho, hk⟩ := hone_of hone j f hj
    have hjl : j < fs.size := (Array.getElem?_eq_some_iff.1 hj).1
    have hcell := hat j hjl
    have hv : cs'[j]? = some (cs'[j]'(by omega)) := List.getElem?_eq_getElem (by omega)
    have h1 := hf j f hj
    rw [ho, hk] at h1
    have hone' : (cs'.drop j).take 1 = [cs'[j]'(by omega)] := by
      rw [List.drop_eq_getElem_cons (by omega)]
      rfl
    rw [hone'] at h1
    have hys : ys[j]? = some (ys[j]'(by omega)) := List.getElem?_eq_getElem (by omega)
    refine ⟨_, _, ?_, hys, h1.trans hys⟩
    rw [← Go.Deep.add_add, hcell, hv]
end

/-- the address of a slice of which a first cell is known -/
theorem plain_addr {w : World} {a : Addr} {v : Value} (h : w.cell? (a.add 0) = some v) : a = ⟨a.block, a.off, none⟩ := by
  have := World.cell?_spot h
  simp [Addr.add] at this
  cases a
  simp_all
theorem add_plain (b off k : Nat) : (⟨b, off, none⟩ : Addr).add k = ⟨b, off + k, none⟩ := by unfold Addr.add; split <;> simp_all
end Go.Proofs.YtnlmdfbjmhcilaaDoor
/-
  Bytes among a law's arguments.
-/
namespace Go.Proofs.YtnlmdfbjmhcilaaDoor
open Go.RowKit Go.ChangeShapes Go.WideShapes Go.ChangeAt Go.Deep

section
variable {H : Type} {enc : TypeId × Value → H} {w : World} {base : Nat} {spare : Nat → Bool} {held : Bool}

/-- bytes out of a list of numbers -/
theorem rd_of_zs {a : Addr} {len cap : Nat} {zs : List Int} (hl : len ≤ cap) (hm : cap ≤ maxLen) (hz : len ≤ zs.length) (hcell : ∀ i, i < zs.length → w.cell? (a.add i) = some (.int .u8 (zs.getD i 0))) (hwz : ∀ n ∈ zs, (Lit.int .u8 n).wf = true) :
    ∃ (g : Option Nat) (L : List UInt8), Rd w (.slice (some a) len cap) g (L.map bv) ∧ Under w.heap.size g ∧ L.length = len := by
  have hval : ∀ i (hi : i < zs.length), Value.int .u8 (zs.getD i 0) = bv (UInt8.ofNat zs[i].toNat) := fun i hi => by
    have hb := bounds_u8 (hwz zs[i] (List.getElem_mem hi))
    have e : zs.getD i 0 = zs[i] := by simp [List.getD, hi]
    rw [e]
    unfold bv
    congr 1
    simp
    omega
  let L : List UInt8 := (zs.take len).map fun n => UInt8.ofNat n.toNat
  have hL : L.length = len := by simp [L]; omega
  have hget : ∀ j u, (L.map bv)[j]? = some u → w.cell? (a.add j) = some u := fun j u hj => by
    have hj' : j < len := by have := (List.getElem?_eq_some_iff.1 hj).1; simpa [hL] using this
    rw [hcell j (by omega), hval j (by omega), ← hj]
    simp [L, hj', show j < zs.length by omega]
  by_cases h0 : len = 0
  · refine ⟨none, L, .inr ⟨a, cap, by simp [hL], Under.none _, fun hp => absurd hp (by simp [hL]; omega), by simp [hL]; omega, hm, hget⟩, Under.none _, hL⟩
  · have hc0 := hcell 0 (by omega)
    have hp := plain_addr hc0
    have hlt := block_lt_of_cell hc0
    rw [add_block] at hlt
    exact ⟨some a.block, L, .inr ⟨a, cap, by simp [hL], fun b hb => (by injection hb with hb; omega), fun _ => ⟨rfl, by rw [hp]⟩, by simp [hL]; omega, hm, hget⟩, fun b hb => (by injection hb with hb; omega), hL⟩

set_option maxRecDepth 20000 in
theorem open_bytes_cells {fuel : Nat} {v : Value} {x : DataW H × List MemPlace} (h : DataW.trod enc Tryd.prog w base spare held fuel 25 [v] = some x) :
    ∃ (g : Option Nat) (L : List UInt8), Rd w v g (L.map bv) ∧ Under w.heap.size g := by
  rcases open_ints Tryd.underlying25 Tryd.underlying5 (by kernel_rfl) h with ⟨hcs, _⟩ | ⟨a, l, c, zs, hcs, _, hl, hm, hz, _, hcell, hwz⟩
  · simp at hcs
    subst hcs
    exact ⟨none, [], Rd.nil _, Under.none _⟩
  · simp at hcs
    subst hcs
    obtain ⟨g, L, h1, h2, _⟩ := rd_of_zs hl hm (by rw [hz]; split <;> omega) hcell hwz
    exact ⟨g, L, h1, h2⟩

set_option maxRecDepth 20000 in
theorem open_bytes {v : Value} {d : DataW H} {p : List MemPlace} {r : Reach} {b0 : Nat} (hv : Value.okWide Tryd.prog w r b0 25 v) (h : DataW.Trod enc Tryd.prog w base spare held 25 v d p) :
    ∃ (g : Option Nat) (L : List UInt8), Rd w v g (L.map bv) ∧ Under w.heap.size g := by
  obtain ⟨a0, len, cap, rfl⟩ := okWide_slice Tryd.underlying25 hv
  obtain ⟨fuel, hf⟩ := h
  exact open_bytes_cells hf

set_option maxRecDepth 20000 in
theorem open_bytes_len {v : Value} {d : DataW H} {p : List MemPlace} {r : Reach} {b0 : Nat} (hv : Value.okWide Tryd.prog w r b0 25 v) (h : DataW.Trod enc Tryd.prog w base spare held 25 v d p) :
    ∃ (g : Option Nat) (L : List UInt8), Rd w v g (L.map bv) ∧ Under w.heap.size g ∧ (L = [] ∨ ∃ elems spare', d = .slice elems spare' ∧ L.length = elems.length) := by
  obtain ⟨a0, len, cap, rfl⟩ := okWide_slice Tryd.underlying25 hv
  obtain ⟨fuel, hf⟩ := h
  rcases open_ints Tryd.underlying25 Tryd.underlying5 (by kernel_rfl) hf with ⟨hcs, _⟩ | ⟨a, l, c, zs, hcs, _, hl, hm, hz, hx, hcell, hwz⟩
  · simp [Value.cells] at hcs
    obtain ⟨rfl, rfl, rfl⟩ := hcs
    exact ⟨none, [], Rd.nil _, Under.none _, .inl rfl⟩
  · simp [Value.cells] at hcs
    obtain ⟨rfl, rfl, rfl⟩ := hcs
    have hlz : len ≤ zs.length := by rw [hz]; split <;> omega
    obtain ⟨g, L, h1, h2, h3⟩ := rd_of_zs hl hm hlz hcell hwz
    injection hx with hx1 hx2
    exact ⟨g, L, h1, h2, .inr ⟨_, _, hx1, by simp [lits]; omega⟩⟩

end
end Go.Proofs.YtnlmdfbjmhcilaaDoor
/-
  Entries among a law's arguments.
-/
namespace Go.Proofs.YtnlmdfbjmhcilaaDoor
open Go.RowKit Go.ChangeShapes Go.WideShapes Go.ChangeAt Go.Deep

theorem strOf_self (s : ByteArray) : ∃ L, s = strOf L := ⟨s.data.toList, by cases s; simp [strOf]⟩
set_option maxRecDepth 20000
section
variable {H : Type} {enc : TypeId × Value → H} {w : World} {base : Nat} {spare : Nat → Bool} {held : Bool}
theorem trod_fldE {t ty : TypeId} {fs : Array Field} {fuel i off sz : Nat} {cs : List Value} {x : DataW H × List MemPlace} (ht : Tryd.prog.underlying t = some (.struct fs)) (h : DataW.trod enc Tryd.prog w base spare held fuel t cs = some x)
    (hf : (fs[i]?).map (fun f => (f.type, f.offset)) = some (ty, off)) (hs : Tryd.prog.cellsOf ty = sz) : ∃ n y, DataW.trod enc Tryd.prog w base spare held n ty ((cs.drop off).take sz) = some y := by
  obtain ⟨ys, n, _, _, _, hl, hfl⟩ := DataW.trod_struct ht h
  obtain ⟨f, h1, h2⟩ := Option.map_eq_some_iff.1 hf
  injection h2 with h2 h3
  subst h2 h3 hs
  have h4 := hfl i f h1
  have hi : i < fs.size := (Array.getElem?_eq_some_iff.1 h1).1
  rw [List.getElem?_eq_getElem (by omega)] at h4
  exact ⟨n, _, h4⟩
theorem open_entry {fuel : Nat} {cs : List Value} {x : DataW H × List MemPlace} (h : DataW.trod enc Tryd.prog w base spare held fuel 38 cs = some x) (hl : cs.length = 2) : ∃ y : EntV, cs = recE.cs y ∧ y.2 < 4294967296 := by
  have hCu : Tryd.prog.cellsOf 36 = 1 := by kernel_rfl
  have hCs : Tryd.prog.cellsOf 9 = 1 := by kernel_rfl
  obtain ⟨x0, x1, rfl⟩ : ∃ x0 x1, cs = [x0, x1] := by
    match cs, hl with
    | [x0, x1], _ => exact ⟨x0, x1, rfl⟩
  obtain ⟨_, _, f0⟩ := trod_fldE (i := 0) Tryd.underlying38 h rfl hCs
  obtain ⟨_, _, f1⟩ := trod_fldE (i := 1) Tryd.underlying38 h rfl hCu
  obtain ⟨o0, e0, -, -⟩ := DataW.trod_string Tryd.underlying9 f0
  obtain ⟨o1, e1, -, w1⟩ := DataW.trod_int Tryd.underlying36 f1
  have b1 := bounds_u32 w1
  simp at e0 e1
  subst e0 e1
  obtain ⟨L, rfl⟩ := strOf_self o0
  obtain ⟨o1, rfl⟩ := Int.eq_ofNat_of_zero_le b1.1
  exact ⟨(L, o1), rfl, by have := b1.2; show o1 < 4294967296; omega⟩
theorem open_entries {v : Value} {d : DataW H} {p : List MemPlace} {r : Reach} {b0 : Nat} (hv : Value.okWide Tryd.prog w r b0 22 v) (h : DataW.Trod enc Tryd.prog w base spare held 22 v d p) :
    ∃ (A : Option Addr) (l : List EntV) (c : Nat) (g : Option Nat), v = .slice A l.length c ∧ recE.Rd w v g l ∧ In4 l := by
  obtain ⟨a0, len, cap, rfl⟩ := okWide_slice Tryd.underlying22 hv
  obtain ⟨fuel, hf⟩ := h
  rcases open_slice Tryd.underlying22 hf with ⟨hcs, _⟩ | ⟨a, l, c, m, n, D, Pl, hcs, _, hl, hm, hmm, _, hi⟩
  · simp [Value.cells] at hcs
    obtain ⟨rfl, rfl, rfl⟩ := hcs
    exact ⟨none, [], 0, none, rfl, RecT.Rd.nil _ _, fun x hx => by cases hx⟩
  · simp [Value.cells] at hcs
    obtain ⟨rfl, rfl, rfl⟩ := hcs
    have hlm : len ≤ m := by rw [hmm]; split <;> omega
    have hC : Tryd.prog.cellsOf 38 = 2 := by kernel_rfl
    rw [hC] at hi
    obtain ⟨its, hql, hq⟩ := list_of_forall (P := fun i (t : EntV) => t.2 < 4294967296 ∧ ∀ k, k < 2 → w.cell? (a.add (i * 2 + k)) = (recE.cs t)[k]?) len (fun i hilt => by
      obtain ⟨cs', hc, ht'⟩ := hi i (by omega)
      obtain ⟨_, hcl, hat⟩ := World.cells?_some hc
      obtain ⟨y, rfl, hy⟩ := open_entry ht' hcl
      refine ⟨y, hy, fun k hk => ?_⟩
      have := hat k hk
      rw [Go.Deep.add_add] at this
      exact this)
    subst hql
    have h4 : In4 its := fun x hx => by
      obtain ⟨i, hi⟩ := List.getElem?_of_mem hx
      exact (hq i x hi).1
    by_cases h0 : its.length = 0
    · refine ⟨some a, its, cap, none, rfl, ⟨some a, cap, rfl, hl, hm, Under.none _, fun h => by omega, fun h => by cases h⟩, h4⟩
    · have hc0 := (hq 0 _ (List.getElem?_eq_getElem (by omega))).2 0 (by omega)
      have ha := plain_addr (a := a) (v := .string (strOf (its[0]'(by omega)).1)) (by simpa [recE, entCs] using hc0)
      have hb := block_lt_of_cell (a := a.add 0) (v := .string (strOf (its[0]'(by omega)).1)) (by simpa [recE, entCs] using hc0)
      rw [add_block] at hb
      refine ⟨some a, its, cap, some a.block, rfl, ⟨some a, cap, rfl, hl, hm, fun b hb' => (by injection hb' with hb'; omega), fun _ => ⟨a.block, a.off, by rw [← ha], rfl, fun i t hit k hk => ?_⟩, fun h => by cases h⟩, h4⟩
      have := (hq i t hit).2 k hk
      rw [ha] at this
      simp only [add_plain] at this
      rw [Nat.add_assoc]
      exact this
end
end Go.Proofs.YtnlmdfbjmhcilaaDoor
