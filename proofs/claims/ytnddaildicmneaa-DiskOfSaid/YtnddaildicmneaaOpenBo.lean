/-
  Bytes and bools among a law's arguments, as rows of records that read.
-/
import Derived.Test.YtnddaildicmneaaOpenBy
import Derived.Test.YtnddaildicmneaaDk3
import Derived.Deep.Grids
namespace Go.Proofs.Ytnddaildicmneaa
open Go.RowKit Go.ChangeShapes Go.WideShapes Go.ChangeAt Go.Deep

theorem rdB_of {w : World} {v : Value} {g : Option Nat} {L : List UInt8} (h : Rd w v g (L.map bv)) : recB.Rd w v g L := by
  rcases h with ⟨rfl, rfl, h⟩ | ⟨a, cap, rfl, hu, hg, h1, h2, h3⟩
  · have : L = [] := by simpa using h
    subst this
    exact RecT.Rd.nil _ _
  · rw [List.length_map] at *
    refine ⟨some a, cap, rfl, h1, h2, hu, fun hp => ?_, fun h => by cases h⟩
    obtain ⟨e1, e2⟩ := hg hp
    refine ⟨a.block, a.off, by cases a; simp_all, e1, fun i t hi k hk => ?_⟩
    have hk0 : k = 0 := by have : k < 1 := hk; omega
    subst hk0
    have := h3 i (bv t) (by rw [List.getElem?_map, hi]; rfl)
    rw [show a = ⟨a.block, a.off, none⟩ by cases a; simp_all, Addr.add_lit] at this
    rw [Nat.add_zero, show i * recB.n = i from Nat.mul_one i, this]
    rfl
section
variable {H : Type} {enc : TypeId × Value → H} {w : World} {base : Nat} {held : Bool}
theorem open_bools_cells {fuel : Nat} {A : Option Addr} {n c : Nat} {x : DataW H × List MemPlace} (h : DataW.trod enc Try.prog w base (fun _ => true) held fuel 50 [.slice A n c] = some x) :
    ∃ (g : Option Nat) (L : List Bool), L.length = n ∧ recBo.Rd w (.slice A n c) g L := by
  have hC : Try.prog.cellsOf 4 = 1 := by kernel_rfl
  rcases open_bools Try.underlying50 Try.underlying4 hC h with ⟨hcs, -⟩ | ⟨a, len, cap, B, hcs, -, hl, hm, -, hcell⟩
  · simp at hcs
    obtain ⟨rfl, rfl, rfl⟩ := hcs
    exact ⟨none, [], rfl, RecT.Rd.nil _ _⟩
  · simp at hcs
    obtain ⟨rfl, rfl, rfl⟩ := hcs
    have hL : ((List.range n).map B).length = n := by simp
    by_cases h0 : n = 0
    · subst h0
      exact ⟨none, [], rfl, some a, c, rfl, Nat.zero_le _, hm, Under.none _, fun h => by simp at h, fun h => by cases h⟩
    · have hc0 := hcell 0 (by omega)
      have hp := plain_addr hc0
      have hlt := block_lt_of_cell hc0
      rw [add_block] at hlt
      refine ⟨some a.block, (List.range n).map B, hL, some a, c, by rw [hL], by rw [hL]; exact hl, hm, fun b hb => (by injection hb with hb; omega), fun _ => ⟨a.block, a.off, by rw [← hp], rfl, fun i t hi k hk => ?_⟩, fun h => by cases h⟩
      have hk0 : k = 0 := by have : k < 1 := hk; omega
      subst hk0
      have hin : i < n := by have := (List.getElem?_eq_some_iff.1 hi).1; simpa using this
      have := hcell i (by omega)
      rw [hp, Addr.add_lit] at this
      rw [Nat.add_zero, show i * recBo.n = i from Nat.mul_one i, this]
      rw [List.getElem?_map, List.getElem?_range hin] at hi
      have hi := Option.some.inj hi
      simp [recBo, hi]
set_option maxRecDepth 20000 in
theorem open_boolsD {v : Value} {d : DataW H} {p : List MemPlace} {r : Reach} {b0 : Nat} (hv : Value.okWide Try.prog w r b0 50 v) (h : DataW.Trod enc Try.prog w base (fun _ => true) held 50 v d p) :
    ∃ (A : Option Addr) (c : Nat) (g : Option Nat) (L : List Bool), v = .slice A L.length c ∧ recBo.Rd w v g L := by
  obtain ⟨a0, len, cap, rfl⟩ := okWide_slice Try.underlying50 hv
  obtain ⟨fuel, hf⟩ := h
  obtain ⟨g, L, hl, hr⟩ := open_bools_cells hf
  exact ⟨a0, cap, g, L, by rw [hl], hr⟩
set_option maxRecDepth 20000 in
theorem open_bytesD {spare : Nat → Bool} {v : Value} {d : DataW H} {p : List MemPlace} {r : Reach} {b0 : Nat} (hv : Value.okWide Try.prog w r b0 41 v) (h : DataW.Trod enc Try.prog w base spare held 41 v d p) :
    ∃ (A : Option Addr) (c : Nat) (g : Option Nat) (L : List UInt8), v = .slice A L.length c ∧ recB.Rd w v g L := by
  obtain ⟨g, L, h1, -⟩ := open_bytes hv h
  have h2 := rdB_of h1
  obtain ⟨A, c, rfl, -⟩ := id h2
  exact ⟨A, c, g, L, rfl, h2⟩
end
end Go.Proofs.Ytnddaildicmneaa
