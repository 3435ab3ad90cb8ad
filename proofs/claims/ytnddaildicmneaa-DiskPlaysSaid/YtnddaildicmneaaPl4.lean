/-
  disk: a play's state in memory; copy into a row of zero bytes; an action.
-/
import Derived.Test.YtnddaildicmneaaPl3
import Derived.Laws.CopyOwn
namespace Go.Proofs.Ytnddaildicmneaa
open Go.Proofs Go.RowKit Go.Sort Go.Maps

structure StD (w0 w : World) (d p : Nat) (F : Nat → Prop) (D : DiskV) (P : PlV) (n z i : Nat) : Prop where
  o : DOwn w0 w d F D
  pk : PK w0 w p P
  hF : ¬ F p
  inv : Inv n z i D P
theorem StD.same {w0 w w' : World} {d p : Nat} {F : Nat → Prop} {D : DiskV} {P : PlV} {n z i : Nat} (s : StD w0 w d p F D P n z i) (hk : Keeps nowhere w w') : StD w0 w' d p F D P n z i := ⟨s.o.same hk, s.pk.same hk, s.hF, s.inv⟩
theorem PK.box {w0 w : World} {p : Nat} {P : PlV} (h : PK w0 w p P) : ∃ cs, Blk w p 62 cs ∧ w0.heap.size ≤ p := by
  obtain ⟨_, _, _, _, _, h⟩ := h
  exact ⟨_, h.box, h.hp⟩
theorem PK.disk {w0 w w' : World} {p : Nat} {P : PlV} (h : PK w0 w p P) {d : Nat} {F : Nat → Prop} {D : DiskV} (o : DOwn w0 w d F D) (hF : ¬ F p) (hk : Keeps F w w') : PK w0 w' p P := by
  obtain ⟨_, _, _, _, _, h⟩ := h
  exact ⟨_, _, _, _, _, h.disk o hF hk⟩
theorem DOwn.plate {w0 w w' : World} {p : Nat} {P : PlV} {d : Nat} {F : Nat → Prop} {D : DiskV} (o : DOwn w0 w d F D) (h : PK w0 w p P) (hF : ¬ F p) (hk : Keeps (only p) w w') : DOwn w0 w' d F D := by
  obtain ⟨cs, h1, h2⟩ := h.box
  exact o.aside h1 (by decide) hF h2 hk
theorem StD.disk {w0 w w' : World} {d p : Nat} {F F' : Nat → Prop} {D D' : DiskV} {P : PlV} {n z i : Nat} (s : StD w0 w d p F D P n z i) (o : DOwn w0 w' d F' D') (hk : Keeps F w w') (hg : Grew w F F') : DOwn w0 w' d F' D' ∧ PK w0 w' p P ∧ ¬ F' p :=
  ⟨o, s.pk.disk s.o s.hF hk, fun e => (hg p e).elim s.hF (fun e => by obtain ⟨cs, h1, -⟩ := s.pk.box; have := h1.lt; omega)⟩

/-- bytes laid over zero bytes -/
def cpL (z : Nat) (L : List UInt8) : List UInt8 := L.take z ++ (zerosB z).drop (L.take z).length
theorem cpL_len (z : Nat) (L : List UInt8) : (cpL z L).length = z := by
  unfold cpL zerosB
  simp
  omega
theorem recB_app (l m : List UInt8) : recB.cells (l ++ m) = recB.cells l ++ recB.cells m := recB.cells_app l m
section
variable {ops : Array Oper} {rest : List Oper} {o : Oper} {a : Act} {Q : Exit → Act → World → Prop}
theorem wpList_copyB (w0 w : World) (hgd : o.guard = none) (d s : Operand) (ho : o.op = .call { callee := .builtin .copy, args := #[d, s], argTypes := #[41, 41] }) (q z : Nat) (hq : w0.heap.size ≤ q) (hz : 0 < z)
    (A : Option Addr) (n c : Nat) (g : Option Nat) (L : List UInt8) (hd : a.eval d = .slice (some ⟨q, 0, none⟩) z z) (hs : a.eval s = .slice A n c) (hrow : recB.Row w (.slice (some ⟨q, 0, none⟩) z z) (zerosB z)) (hr : recB.Rd w (.slice A n c) g L) (hk : Keeps nowhere w0 w)
    (h : ∀ w', recB.Row w' (.slice (some ⟨q, 0, none⟩) z z) (cpL z L) → Keeps nowhere w0 w' → wpList Try.prog ops Q rest (a.put o.dst (goInt (L.take z).length)) w') : wpList Try.prog ops Q (o :: rest) a w := by
  obtain ⟨A', c', hv, h1, h2, hu, h3, h4⟩ := hr
  injection hv with hA hn hc
  subst hA hn hc
  have hzl : (zerosB z).length = z := by simp [zerosB]
  rcases hrow.blk with ⟨hv, -⟩ | ⟨q', cap', rst, hv, hb, e1, e2, e3⟩
  · cases hv
  injection hv with f1 f2 f3
  injection f1 with f1
  injection f1 with f1
  subst f1 f3
  rw [hzl] at e1
  have hr0 : rst = [] := by
    refine List.eq_nil_of_length_eq_zero ?_
    have : recB.n = 1 := rfl
    rw [this] at e1
    omega
  subst hr0
  rw [List.append_nil] at hb
  obtain ⟨cs, hcs⟩ : ∃ cs, cs = recB.cells (L.take z) := ⟨_, rfl⟩
  have hcl : cs.length = (L.take z).length := by rw [hcs, recB.cells_len]; exact Nat.mul_one _
  have hsz : (Try.prog.info? 5).map (·.size) = some 1 := by kernel_rfl
  have hpb : _root_.Go.RowKit.Below q w w := Below.refl _ _
  rw [← hcl] at h
  refine wpList_copy_splice hgd d s 41 41 ho 5 Try.underlying41 hsz (some ⟨q, 0, none⟩) A z z L.length c hd hs q 0 (recB.cells (zerosB z)) 5 hb cs (by rw [hcl, List.length_take]; exact Nat.min_comm _ _) (fun hp => ?_) (by rw [hcl, recB.cells_len, hzl, List.length_take]; show 0 + _ ≤ z * 1; omega) (by rw [hcs]; exact recB.cells_one _) q w hpb (Nat.le_refl _) (fun w' hg hb' => ?_)
  · refine ⟨rfl, ?_⟩
    rw [hcl, List.length_take] at hp
    obtain ⟨b, off, rfl, -, hc⟩ := h3 (by omega)
    refine ⟨_, rfl, fun j v hj => ?_⟩
    rw [hcs, recB_cells, List.getElem?_map] at hj
    cases hx : (L.take z)[j]? with
    | none => rw [hx] at hj; cases hj
    | some x =>
      rw [hx] at hj
      have hj := Option.some.inj hj
      rw [List.getElem?_take] at hx
      split at hx
      · have := hc j x hx 0 (by decide)
        rw [Nat.add_zero, show j * recB.n = j from Nat.mul_one j] at this
        rw [Addr.add_lit, this, ← hj]; rfl
      · cases hx
  · have hg' : w'.heap[q]? = some (.cells (splice (recB.cells (zerosB z)) 0 cs).toArray 5 (0, 0)) := hg
    have hsp : splice (recB.cells (zerosB z)) 0 cs = recB.cells (cpL z L) := by
      unfold splice cpL
      rw [recB_app, List.take_zero, List.nil_append, Nat.zero_add, hcl, hcs, recB_cells (zerosB z), recB_cells ((zerosB z).drop _), List.map_drop]
    rw [hsp] at hg'
    refine h w' ?_ ?_
    · have := RecT.Row.of_blk (R := recB) (l := cpL z L) (b := q) (cap := z) (rest := []) (w := w') (by rw [List.append_nil]; exact hg') (by rw [cpL_len]; simp) e3
      rwa [cpL_len] at this
    · have hk2 : Keeps (fun k => q ≤ k) w w' := ⟨hb'.os, hb'.tape, hb'.output, hb'.size, fun b _ hs => hb'.block b (by omega)⟩
      exact hk.trans hk2 (fun k hk e => by omega)
end
end Go.Proofs.Ytnddaildicmneaa
