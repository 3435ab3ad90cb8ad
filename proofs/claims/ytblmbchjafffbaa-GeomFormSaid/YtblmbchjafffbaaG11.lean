/-
  geom: what GeomForm wants: append onto bytes that may be a literal's; the wanted bytes.
-/
import Derived.Test.YtblmbchjafffbaaG8
import Derived.Test.YtblmbchjafffbaaAppZ
import Derived.Test.YtblmbchjafffbaaITurn
namespace Go.Proofs.Ytblmbchjafffbaa
open Go.RowKit

/-- bytes of the call's own, or a literal's, which are full -/
def OwnM (w : World) (v : Value) (L : List UInt8) : Prop := OwnB w v L ∨ ∃ g, v = .slice (some ⟨g, 0, none⟩) L.length L.length ∧ Rd w v (some g) (L.map bv)

section
variable {ops : Array Oper} {rest : List Oper} {o : Oper} {a : Act} {Q : Exit → Act → World → Prop} {w : World}
set_option maxRecDepth 20000 in
theorem wpList_append_bytesM (hgd : o.guard = none) (s x : Operand) (ho : o.op = .call { callee := .builtin .append, args := #[s, x], argTypes := #[24, 24] })
    (v : Value) (L : List UInt8) (hs : a.eval s = v) (hown : OwnM w v L) (vx : Value) (gx : Option Nat) (M : List UInt8) (hx : a.eval x = vx) (hr : Rd w vx gx (M.map bv)) (hM : 0 < M.length) (hb : L.length + M.length ≤ 1099511627776)
    (h : ∀ v' w', OwnB w' v' (L ++ M) → Keeps (fun b => v.ownBlock = some b) w w' → From v.ownBlock w.heap.size v'.ownBlock → wpList Try.prog ops Q rest (a.put o.dst v') w') : wpList Try.prog ops Q (o :: rest) a w := by
  rcases hown with hown | ⟨g, rfl, hrd⟩
  · exact wpList_append_bytes hgd s x ho v L hs hown vx gx M hx hr hb h
  · obtain ⟨i0, hi, hz0, hz1, hz2⟩ := info_parts infoU8
    obtain ⟨b, off, cap, rfl, -, -, -, -, hc⟩ := hr.plain (by rw [List.length_map]; exact hM)
    have holds : ∀ j u, (L.map bv)[j]? = some u → w.cell? ((⟨g, 0, none⟩ : Addr).add j) = some u := fun j u hj => by
      have hp : 0 < (L.map bv).length := by
        have := List.getElem?_eq_some_iff.1 hj
        obtain ⟨h1, -⟩ := this
        omega
      obtain ⟨b', o', c', he, -, -, -, -, hc'⟩ := hrd.plain hp
      injection he with e1 e2 e3
      injection e1 with e1
      injection e1 with e1 e4
      subst e1 e4
      rw [Addr.add_lit]
      exact hc' j u hj
    have hxs : ∀ j u, (M.map bv)[j]? = some u → w.cell? ((⟨b, off, none⟩ : Addr).add j) = some u := fun j u hj => by rw [Addr.add_lit]; exact hc j u hj
    have hr := run_append_grow (P := Try.prog) w 24 o.type 5 i0 _ Try.underlying24 hi hz0 ⟨g, 0, none⟩ L.length L.length (L.map bv) (by rw [hz1, List.length_map, Nat.mul_one]) holds ⟨b, off, none⟩ M.length cap (M.map bv) (by rw [hz1, List.length_map, Nat.mul_one]) hxs (by omega) (by omega) (growslice_fits (by omega) (by rw [hz2]; omega))
    have el : (M.map bv).length = M.length := List.length_map _
    rw [el] at hx
    have hge := grownCap_ge w (L.length + M.length) L.length 5
    have hcm2 := grownCap_le_maxLen w (L.length + M.length) L.length 5 (by unfold maxLen; omega)
    refine Lib.wpList_append_run w hgd s x 24 24 ho _ _ hs hx _ _ hr (h _ _ ?_ (((Keeps.refl _ w).drew).alloc _) (fun b hb => .inr (by simp [Value.ownBlock] at hb; omega)))
    unfold OwnB
    rw [List.length_append]
    refine ⟨by simp, .inr ⟨w.heap.size, _, _, rfl, Nat.zero_le _, heap_alloc_new w.drew _, hge, hcm2, ?_, ?_⟩⟩
    · simp [size_zeroCells, Value.cells]; omega
    · have hlen : ((L ++ M).map bv).length = L.length + M.length := by simp
      rw [Array.toList_append, Array.toList_append, Nat.mul_one, ← List.map_append, ← hlen]
      exact List.take_left
end

def wordB : List UInt8 := [76, 79, 71, 71, 73, 65, 1, 0]
theorem wordB_eq : markB ++ nb 2 1 = wordB := by
  simp [markB, wordB, nb, List.range_succ]
theorem nb4g (n : Nat) : nb 4 n = [UInt8.ofNat n, UInt8.ofNat (n / 256), UInt8.ofNat (n / 65536), UInt8.ofNat (n / 16777216)] := by
  simp [nb, List.range_succ]
theorem nb4_cells (n : Nat) (hn : n < 4294967296) : (nb 4 n).map bv = [.int .u8 ((n : Int) % 256), .int .u8 ((n : Int) / 256 % 256), .int .u8 ((n : Int) / 65536 % 256), .int .u8 ((n : Int) / 16777216 % 256)] := by
  rw [nb4g]
  simp only [List.map_cons, List.map_nil, bv, UInt8.toNat_ofNat']
  congr 3 <;> (try congr 2) <;> omega
theorem strOf_bne {L M : List UInt8} (h : L = M) : ((strOf L).toList != (strOf M).toList) = false := by rw [h]; simp
end Go.Proofs.Ytblmbchjafffbaa
