/-
  The calls of layer 7's play: a slice of them that came in.
-/
import Derived.Test.YtnddaildicmneaaOpenBo
import Derived.Test.YtnddaildicmneaaPl5
namespace Go.Proofs.Ytnddaildicmneaa
open Go.RowKit Go.ChangeShapes Go.WideShapes Go.ChangeAt Go.Deep

set_option maxRecDepth 20000
section
variable {H : Type} {enc : TypeId × Value → H} {w : World} {base : Nat} {held : Bool}
theorem trod_fld7 {t ty : TypeId} {fs : Array Field} {fuel i off sz : Nat} {cs : List Value} {x : DataW H × List MemPlace} (ht : Try.prog.underlying t = some (.struct fs)) (h : DataW.trod enc Try.prog w base (fun _ => true) held fuel t cs = some x)
    (hf : (fs[i]?).map (fun f => (f.type, f.offset)) = some (ty, off)) (hs : Try.prog.cellsOf ty = sz) : ∃ n y, DataW.trod enc Try.prog w base (fun _ => true) held n ty ((cs.drop off).take sz) = some y := by
  obtain ⟨ys, n, _, _, _, hl, hfl⟩ := DataW.trod_struct ht h
  obtain ⟨f, h1, h2⟩ := Option.map_eq_some_iff.1 hf
  injection h2 with h2 h3
  subst h2 h3 hs
  have h4 := hfl i f h1
  have hi : i < fs.size := (Array.getElem?_eq_some_iff.1 h1).1
  rw [List.getElem?_eq_getElem (by omega)] at h4
  exact ⟨n, _, h4⟩
theorem open_bools_val {fuel : Nat} {v : Value} {x : DataW H × List MemPlace} (h : DataW.trod enc Try.prog w base (fun _ => true) held fuel 50 [v] = some x) :
    ∃ (A : Option Addr) (c : Nat) (g : Option Nat) (L : List Bool), v = .slice A L.length c ∧ recBo.Rd w (.slice A L.length c) g L := by
  have hC : Try.prog.cellsOf 4 = 1 := by kernel_rfl
  have hv : ∃ A n c, v = .slice A n c := by
    rcases open_bools Try.underlying50 Try.underlying4 hC h with ⟨hcs, -⟩ | ⟨a, len, cap, B, hcs, -⟩
    · exact ⟨_, _, _, by simpa using hcs⟩
    · exact ⟨_, _, _, by simpa using hcs⟩
  obtain ⟨A, n, c, rfl⟩ := hv
  obtain ⟨g, L, hl, hr⟩ := open_bools_cells h
  exact ⟨A, c, g, L, by rw [hl], by rw [hl]; exact hr⟩
theorem open_bytes_val {fuel : Nat} {v : Value} {x : DataW H × List MemPlace} (h : DataW.trod enc Try.prog w base (fun _ => true) held fuel 41 [v] = some x) :
    ∃ (A : Option Addr) (c : Nat) (g : Option Nat) (L : List UInt8), v = .slice A L.length c ∧ recB.Rd w (.slice A L.length c) g L := by
  obtain ⟨g, L, h1, -⟩ := open_bytes_cells h
  have h2 := rdB_of h1
  obtain ⟨A, c, rfl, -⟩ := id h2
  exact ⟨A, c, g, L, rfl, h2⟩
theorem open_acts7 {v : Value} {d : DataW H} {p : List MemPlace} {r : Reach} {b0 : Nat} (hv : Value.okWide Try.prog w r b0 57 v) (h : DataW.Trod enc Try.prog w base (fun _ => true) held 57 v d p) :
    ∃ (A : Option Addr) (l : List Act7) (c : Nat), v = .slice A l.length c ∧ Act7Arr w A l := by
  obtain ⟨a0, len, cap, rfl⟩ := okWide_slice Try.underlying57 hv
  obtain ⟨fuel, hf⟩ := h
  rcases open_slice Try.underlying57 hf with ⟨hcs, _⟩ | ⟨a, l, c, m, n, D, Pl, hcs, _, hl, hm, hmm, _, hi⟩
  · simp [Value.cells] at hcs
    obtain ⟨rfl, rfl, rfl⟩ := hcs
    exact ⟨none, [], 0, rfl, fun h => by simp at h⟩
  · simp [Value.cells] at hcs
    obtain ⟨rfl, rfl, rfl⟩ := hcs
    have hlm : len ≤ m := by rw [hmm]; split <;> omega
    have hC : Try.prog.cellsOf 64 = 6 := by kernel_rfl
    have hCi : Try.prog.cellsOf 3 = 1 := by kernel_rfl
    have hCb : Try.prog.cellsOf 4 = 1 := by kernel_rfl
    have hC8 : Try.prog.cellsOf 41 = 1 := by kernel_rfl
    have hCB : Try.prog.cellsOf 50 = 1 := by kernel_rfl
    rw [hC] at hi
    obtain ⟨its, hql, hq⟩ := list_of_forall (P := fun i (t : Act7) => t.ok w ∧ ∀ k, k < 6 → w.cell? (a.add (i * 6 + k)) = t.cs[k]?) len (fun i hilt => by
      obtain ⟨cs', hc, ht'⟩ := hi i (by omega)
      obtain ⟨_, hcl, hat⟩ := World.cells?_some hc
      obtain ⟨x0, x1, x2, x3, x4, x5, rfl⟩ : ∃ x0 x1 x2 x3 x4 x5, cs' = [x0, x1, x2, x3, x4, x5] := by
        match cs', hcl with
        | [x0, x1, x2, x3, x4, x5], _ => exact ⟨x0, x1, x2, x3, x4, x5, rfl⟩
      obtain ⟨_, _, f0⟩ := trod_fld7 (i := 0) Try.underlying64 ht' rfl hCi
      obtain ⟨_, _, f1⟩ := trod_fld7 (i := 1) Try.underlying64 ht' rfl hCi
      obtain ⟨_, _, f2⟩ := trod_fld7 (i := 2) Try.underlying64 ht' rfl hCi
      obtain ⟨_, _, f3⟩ := trod_fld7 (i := 3) Try.underlying64 ht' rfl hC8
      obtain ⟨_, _, f4⟩ := trod_fld7 (i := 4) Try.underlying64 ht' rfl hCb
      obtain ⟨_, _, f5⟩ := trod_fld7 (i := 5) Try.underlying64 ht' rfl hCB
      obtain ⟨o0, e0, -, w0⟩ := DataW.trod_int Try.underlying3 f0
      obtain ⟨o1, e1, -, w1⟩ := DataW.trod_int Try.underlying3 f1
      obtain ⟨o2, e2, -, w2⟩ := DataW.trod_int Try.underlying3 f2
      obtain ⟨o4, e4, -⟩ := DataW.trod_bool Try.underlying4 f4
      obtain ⟨A3, c3, g3, L3, e3, r3⟩ := open_bytes_val f3
      obtain ⟨A5, c5, g5, L5, e5, r5⟩ := open_bools_val f5
      have b2 := bounds_i64 w2
      simp at e0 e1 e2 e4
      subst e0 e1 e2 e3 e4 e5
      refine ⟨⟨o0, o1, o2, A3, c3, L3, o4, A5, c5, L5⟩, ⟨⟨g3, r3⟩, ⟨g5, r5⟩, by show o2 ≤ _; omega⟩, fun k hk => ?_⟩
      have := hat k hk
      rw [Go.Deep.add_add] at this
      exact this)
    refine ⟨some a, its, cap, by rw [hql], fun hpos => ?_⟩
    have h0 := hq 0 _ (List.getElem?_eq_getElem hpos)
    obtain ⟨_, hc0⟩ := h0
    have hc0 := hc0 0 (by omega)
    have ha := plain_addr (a := a) (v := .int .i64 (its[0]'hpos).op) (by simpa [Act7.cs] using hc0)
    rw [ha] at hq
    refine ⟨a.block, a.off, by rw [← ha], ?_, fun i t hit => ?_⟩
    · have := block_lt_of_cell (a := a.add 0) (v := .int .i64 (its[0]'hpos).op) (by simpa [Act7.cs] using hc0)
      simpa [Addr.add] using this
    · have := hq i t hit
      simp only [add_plain] at this
      exact ⟨this.1, fun k hk => by rw [Nat.add_assoc]; exact this.2 k hk⟩
end
end Go.Proofs.Ytnddaildicmneaa
