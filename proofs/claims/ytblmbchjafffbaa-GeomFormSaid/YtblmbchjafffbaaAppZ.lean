/-
  append(s, make([]byte, n)...) onto a row of bytes of the call's own: zero bytes behind it.
-/
import Derived.Test.YtblmbchjafffbaaZeros
import Derived.Laws.AppendOwn
namespace Go.Proofs.Ytblmbchjafffbaa
open Go.RowKit

section
variable {P : Program} (w : World)
theorem run_append_grow_z (t tn ty e : TypeId) (i : TypeInfo) (z : Value) (k kn : IntKind) (ht : P.underlying t = some (.slice e)) (htn : P.underlying tn = some (.int kn)) (hi : P.info? e = some i) (hz : i.zero = some z)
    (b : Addr) (sLen sCap : Nat) (olds : List Value) (hlo : olds.length = sLen * i.size) (holds : ∀ j v, olds[j]? = some v → w.cell? (b.add j) = some v)
    (n : Nat) (h0 : 0 < n) (hs : 0 < i.size) (hg : sCap < sLen + n) (h63 : ((sLen + n : Nat) : Int) ≤ 9223372036854775807) (hfit : Builtin.nextslicecap (sLen + n) sCap * i.bytes ≤ 281474976710656) (h48 : n * i.bytes ≤ 281474976710656) :
    (Builtin.append_ #[t, tn] ty #[.slice (some b) sLen sCap, .int k n]).run P w =
      .ok (.slice (some ⟨w.heap.size, 0, none⟩) (sLen + n) (grownCap w (sLen + n) sCap e))
        (w.drew.alloc (.cells (olds.toArray ++ Builtin.zeroCells z.cells n ++ Builtin.zeroCells z.cells (grownCap w (sLen + n) sCap e - (sLen + n))) e)) := by
  have hn : ¬ (sLen + n ≤ sCap) := by omega
  have hw : IntKind.i64.wrap (n : Int) = n := by rw [IntKind.wrap_i64]; omega
  have hneg : ¬ ((n : Int) < 0) := by omega
  have hns : ¬ (n * i.size = 0) := Nat.mul_ne_zero (by omega) (by omega)
  have h63' : ¬ (9223372036854775807 < ((sLen : Int) + (n : Int))) := by omega
  have h48' : ¬ (281474976710656 < Builtin.nextslicecap (sLen + n) sCap * i.bytes) := by omega
  have h48i : ¬ (281474976710656 < (n : Int) * (i.bytes : Int)) := by
    rw [← Int.natCast_mul]
    omega
  have hfo := run_firstCells_some (P := P) w.drew i.size sLen b sLen sCap olds hlo (by simpa using holds)
  simp [Builtin.append_, run_underlying ht, run_underlying htn, sizeOf, typeInfo, zeroValue, hi, hz, asInt, asIntOf, hw, hn, hneg, hns, h63', h48', h48i, Question.forced, hfo, newRow, grownCap]
  try (congr 2; apply Array.ext'; simp [List.append_assoc])
theorem run_append_room_z (t tn ty e : TypeId) (i : TypeInfo) (z : Value) (k kn : IntKind) (ht : P.underlying t = some (.slice e)) (htn : P.underlying tn = some (.int kn)) (hi : P.info? e = some i) (hz : i.zero = some z)
    (g sLen sCap : Nat) (cur : Array Value) (hg : w.heap[g]? = some (.cells cur e (0, 0)))
    (n : Nat) (h0 : 0 < n) (hs : 0 < i.size) (h63 : (n : Int) ≤ 9223372036854775807) (h48 : n * i.bytes ≤ 281474976710656) (h1 : ∀ u ∈ (Builtin.zeroCells z.cells n).toList, u.oneCell' = true)
    (hroom : sLen + n ≤ sCap) (hfit : sLen * i.size + (Builtin.zeroCells z.cells n).toList.length ≤ cur.size) :
    (Builtin.append_ #[t, tn] ty #[.slice (some ⟨g, 0, none⟩) sLen sCap, .int k n]).run P w =
      .ok (.slice (some ⟨g, 0, none⟩) (sLen + n) sCap) (w.setRow g (cur.toList.take (sLen * i.size) ++ (Builtin.zeroCells z.cells n).toList ++ cur.toList.drop (sLen * i.size + (Builtin.zeroCells z.cells n).toList.length)).toArray) := by
  have hw : IntKind.i64.wrap (n : Int) = n := by rw [IntKind.wrap_i64]; omega
  have hneg : ¬ ((n : Int) < 0) := by omega
  have hns : ¬ (n * i.size = 0) := Nat.mul_ne_zero (by omega) (by omega)
  have h48i : ¬ (281474976710656 < (n : Int) * (i.bytes : Int)) := by
    rw [← Int.natCast_mul]
    omega
  have hst := run_storeCells_at P g (sLen * i.size) e (Builtin.zeroCells z.cells n).toList 0 cur w hg (by simpa using hfit) h1
  simp only [Nat.add_zero] at hst
  simp [Builtin.append_, run_underlying ht, run_underlying htn, sizeOf, typeInfo, zeroValue, hi, hz, asInt, asIntOf, hw, hneg, hns, h48i, hroom, Addr.add_lit]
  simp at hst
  rw [hst]
  rfl
end

theorem zero_list (n : Nat) : (Builtin.zeroCells (Value.int .u8 0).cells n).toList = (zeros n).map bv := by
  apply List.ext_getElem?
  intro j
  by_cases hj : j < n
  · simp [Builtin.zeroCells, Value.cells, zeros, hj, Nat.mod_one, bv]
  · rw [List.getElem?_eq_none (by simp [Builtin.zeroCells, Value.cells]; omega), List.getElem?_eq_none (by simp [zeros]; omega)]

section
variable {ops : Array Oper} {rest : List Oper} {o : Oper} {a : Act} {Q : Exit → Act → World → Prop}
theorem run_append_zeros (w : World) (v : Value) (L : List UInt8) (n : Nat) (ty : TypeId) (hown : OwnB w v L) (h0 : 0 < n) (hb : L.length + n ≤ 1099511627776) :
    ∃ v' w', (Builtin.append_ #[24, 3] ty #[v, .int .i64 n]).run Try.prog w = .ok v' w' ∧ OwnB w' v' (L ++ zeros n) ∧ Keeps (fun b => v.ownBlock = some b) w w' ∧ From v.ownBlock w.heap.size v'.ownBlock := by
  obtain ⟨i0, hi, hz0, hz1, hz2⟩ := info_parts infoU8
  have hzl : (zeros n).length = n := by simp [zeros]
  have hone : ∀ u ∈ (Builtin.zeroCells (Value.int .u8 0).cells n).toList, u.oneCell' = true := by rw [zero_list]; exact bv_one _
  rcases hown.2 with ⟨rfl, hl0⟩ | ⟨g, cap, cur, rfl, hbg, hg, hnc, hcm, hcs, htake⟩
  · have hL : L = [] := List.eq_nil_of_length_eq_zero hl0
    subst hL
    have hr := Lib.run_append_nil_zeros (P := Try.prog) w 24 3 ty 5 i0 (.int .u8 0) .i64 .i64 Try.underlying24 Try.underlying3 hi hz0 n h0 (by omega) (by omega) (by rw [hz2]; omega)
    have hge := grownCap_ge w n 0 5
    have hcm := grownCap_le_maxLen w n 0 5 (by unfold maxLen; omega)
    refine ⟨_, _, hr, ?_, ((Keeps.refl (fun b => Value.ownBlock (.slice none 0 0) = some b) w).drew).alloc _, fun b hb => .inr (by simp [Value.ownBlock] at hb; omega)⟩
    unfold OwnB
    rw [List.nil_append, hzl]
    refine ⟨by simp [hzl], .inr ⟨w.heap.size, _, _, rfl, Nat.zero_le _, heap_alloc_new w.drew _, hge, hcm, ?_, ?_⟩⟩
    · simp [size_zeroCells, Value.cells]; omega
    · rw [Array.toList_append, zero_list, Nat.mul_one, List.take_append_of_le_length (by rw [List.length_map, hzl]; exact Nat.le_refl _), List.take_of_length_le (by rw [List.length_map, hzl]; exact Nat.le_refl _)]
  · have hkr := hown
    rw [Nat.mul_one] at hcs htake
    by_cases hroom : L.length + n ≤ cap
    · have hzz : (Builtin.zeroCells (Value.int .u8 0).cells n).toList.length = n := by rw [zero_list, List.length_map, hzl]
      have hr := run_append_room_z (P := Try.prog) w 24 3 ty 5 i0 (.int .u8 0) .i64 .i64 Try.underlying24 Try.underlying3 hi hz0 g L.length cap cur hg n h0 (by omega) (by omega) (by rw [hz2]; omega) hone hroom (by rw [hz1, Nat.mul_one, hzz, hcs]; exact hroom)
      rw [hz1, Nat.mul_one, hzz, zero_list] at hr
      refine ⟨_, _, hr, ?_, ⟨rfl, rfl, rfl, by simp, fun b _ hb => setRow_other w g b _ (fun e => hb (by simp [Value.ownBlock, e]))⟩, fun b hb => .inl hb⟩
      unfold OwnB
      rw [List.length_append, hzl]
      refine ⟨by simp [hzl], .inr ⟨g, cap, _, rfl, hbg, setRow_heap w g cur _ 5 _ hg, hroom, hcm, ?_, ?_⟩⟩
      · simp only [List.size_toArray, List.length_append, List.length_take, List.length_drop, Array.length_toList, List.length_map, hzl]
        omega
      · have hlen : ((L ++ zeros n).map bv).length = L.length + n := by simp [hzl]
        simp only [Nat.mul_one]
        rw [htake, ← List.map_append, ← hlen]
        exact List.take_left
    · have holds : ∀ j u, (L.map bv)[j]? = some u → w.cell? ((⟨g, 0, none⟩ : Addr).add j) = some u := World.ownsRow.cells (g := g) hown rfl
      have hr := run_append_grow_z (P := Try.prog) w 24 3 ty 5 i0 (.int .u8 0) .i64 .i64 Try.underlying24 Try.underlying3 hi hz0 ⟨g, 0, none⟩ L.length cap (L.map bv) (by rw [hz1, List.length_map, Nat.mul_one]) holds n h0 (by omega) (by omega) (by omega) (growslice_fits (by omega) (by rw [hz2]; omega)) (by rw [hz2]; omega)
      have hge := grownCap_ge w (L.length + n) cap 5
      have hcm2 := grownCap_le_maxLen w (L.length + n) cap 5 (by unfold maxLen; omega)
      refine ⟨_, _, hr, ?_, ((Keeps.refl (fun b => Value.ownBlock (.slice (some ⟨g, 0, none⟩) L.length cap) = some b) w).drew).alloc _, fun b hb => .inr (by simp [Value.ownBlock] at hb; omega)⟩
      unfold OwnB
      rw [List.length_append, hzl]
      refine ⟨by simp [hzl], .inr ⟨w.heap.size, _, _, rfl, Nat.zero_le _, heap_alloc_new w.drew _, hge, hcm2, ?_, ?_⟩⟩
      · simp [size_zeroCells, Value.cells]; omega
      · have hlen : ((L ++ zeros n).map bv).length = L.length + n := by simp [hzl]
        rw [Array.toList_append, Array.toList_append, zero_list, Nat.mul_one, ← List.map_append, ← hlen]
        exact List.take_left
theorem wpList_append_zeros (w : World) (hgd : o.guard = none) (s x : Operand) (ho : o.op = .call { callee := .builtin .append, args := #[s, x], argTypes := #[24, 3] }) (v : Value) (L : List UInt8) (n : Nat) (hs : a.eval s = v) (hx : a.eval x = .int .i64 n) (hown : OwnB w v L) (h0 : 0 < n) (hb : L.length + n ≤ 1099511627776)
    (h : ∀ v' w', OwnB w' v' (L ++ zeros n) → Keeps (fun b => v.ownBlock = some b) w w' → From v.ownBlock w.heap.size v'.ownBlock → wpList Try.prog ops Q rest (a.put o.dst v') w') : wpList Try.prog ops Q (o :: rest) a w := by
  obtain ⟨v', w', hr, h1, h2, h3⟩ := run_append_zeros w v L n o.type hown h0 hb
  exact Lib.wpList_append_run w hgd s x 24 3 ho v (.int .i64 n) hs hx v' w' hr (h v' w' h1 h2 h3)
end
end Go.Proofs.Ytblmbchjafffbaa
