/-
  disk: fields of the document's disk, set one by one; bounds.
-/
import Derived.Test.YtnddaildicmneaaPl5
namespace Go.Proofs.Ytnddaildicmneaa
open Go.Proofs Go.RowKit Go.Sort Go.Maps
section
variable {w0 w : World} {p : Nat} {P : PlV}
/-- a cell of it may be stored to, and what is there behind it -/
def Sets (w0 w : World) (p k : Nat) (v : Value) (P : PlV) : Prop := (∃ u, w.cell? ⟨p, k, none⟩ = some u) ∧ w.frozen? ⟨p, k, none⟩ = false ∧ PK w0 (w.setCell ⟨p, k, none⟩ v) p P ∧ Keeps (only p) w (w.setCell ⟨p, k, none⟩ v)
theorem keeps_set (w : World) (p k : Nat) (v : Value) : Keeps (only p) w (w.setCell ⟨p, k, none⟩ v) := (Keeps.refl (only p) w).setCell (p := ⟨p, k, none⟩) (fun _ => rfl) _
theorem PK.setOff (h : PK w0 w p P) : Sets w0 w p 4 (.bool false) P.on := by
  obtain ⟨kv, nv, wv, kp, gk, h⟩ := h
  have hb := h.box.set_ 4 (.bool false)
  exact ⟨⟨_, by simpa using h.cell 4⟩, h.box.frozen 4, ⟨kv, nv, wv, kp, gk, h.turn (keeps_set w p 4 _) (P' := P.on) (by simpa [PlV.on] using hb) h.kept h.now h.wait h.keep h.hg h.wlt h.nlen⟩, keeps_set w p 4 _⟩
def PlV.setArm (P : PlV) (a : Int) : PlV := ⟨P.size, P.kept, P.now, P.wait, P.off, a, P.keep, P.writes⟩
def PlV.setKeep (P : PlV) (k : List Bool) : PlV := ⟨P.size, P.kept, P.now, P.wait, P.off, P.arm, k, P.writes⟩
theorem PK.setArm (h : PK w0 w p P) (a : Int) : Sets w0 w p 5 (.int .i64 a) (P.setArm a) := by
  obtain ⟨kv, nv, wv, kp, gk, h⟩ := h
  have hb := h.box.set_ 5 (.int .i64 a)
  exact ⟨⟨_, by simpa using h.cell 5⟩, h.box.frozen 5, ⟨kv, nv, wv, kp, gk, h.turn (keeps_set w p 5 _) (P' := P.setArm a) (by simpa [PlV.setArm] using hb) h.kept h.now h.wait h.keep h.hg h.wlt h.nlen⟩, keeps_set w p 5 _⟩
theorem PK.setKeep (h : PK w0 w p P) (v : Value) (g : Option Nat) (keep : List Bool) (hr : recBo.Rd w v g keep) (hg : ∀ b, g = some b → b < w0.heap.size) : (∃ A n c, w.cell? ⟨p, 6, none⟩ = some (.slice A n c)) ∧ w.frozen? ⟨p, 6, none⟩ = false ∧ PK w0 (w.setCell ⟨p, 6, none⟩ v) p (P.setKeep keep) ∧ Keeps (only p) w (w.setCell ⟨p, 6, none⟩ v) := by
  obtain ⟨kv, nv, wv, kp, gk, h⟩ := h
  have hb := h.box.set_ 6 v
  obtain ⟨A, c, hkp, -⟩ := id h.keep
  subst hkp
  exact ⟨⟨A, _, c, by simpa using h.cell 6⟩, h.box.frozen 6, ⟨kv, nv, wv, v, g, h.turn (keeps_set w p 6 _) (P' := P.setKeep keep) (by simpa [PlV.setKeep] using hb) h.kept h.now h.wait hr hg h.wlt h.nlen⟩, keeps_set w p 6 _⟩
theorem PK.offCell (h : PK w0 w p P) : w.cell? ⟨p, 4, none⟩ = some (.bool P.off) := by
  obtain ⟨kv, nv, wv, kp, gk, h⟩ := h
  simpa using h.cell 4
theorem PK.armCell (h : PK w0 w p P) : w.cell? ⟨p, 5, none⟩ = some (.int .i64 P.arm) := by
  obtain ⟨kv, nv, wv, kp, gk, h⟩ := h
  simpa using h.cell 5
/-- kept := now; nothing waits -/
theorem PK.sync (h : PK w0 w p P) (ho : P.off = false) : ∃ A n c B m e, w.cell? ⟨p, 2, none⟩ = some (.slice A n c) ∧ w.cell? ⟨p, 1, none⟩ = some (.slice B m e) ∧ w.frozen? ⟨p, 1, none⟩ = false ∧ (∃ C k f, w.cell? ⟨p, 3, none⟩ = some (.slice C k f)) ∧ w.frozen? ⟨p, 3, none⟩ = false ∧
    PK w0 ((w.setCell ⟨p, 1, none⟩ (.slice A n c)).setCell ⟨p, 3, none⟩ (.slice none 0 0)) p P.synced ∧ Keeps (only p) w ((w.setCell ⟨p, 1, none⟩ (.slice A n c)).setCell ⟨p, 3, none⟩ (.slice none 0 0)) := by
  obtain ⟨kv, nv, wv, kp, gk, h⟩ := h
  obtain ⟨A, c, hnv, -⟩ := h.now.form
  obtain ⟨B, e, hkv, -⟩ := h.kept.form
  obtain ⟨C, f, hwv, -⟩ := h.wait.form
  subst hnv hkv hwv
  have hb := (h.box.set_ 1 (.slice A P.now.length c)).set_ 3 (.slice none 0 0)
  have hk := (keeps_set w p 1 (.slice A P.now.length c)).trans (keeps_set (w.setCell ⟨p, 1, none⟩ (.slice A P.now.length c)) p 3 (.slice none 0 0)) (fun _ _ h => h)
  refine ⟨A, _, c, B, _, e, by simpa using h.cell 2, by simpa using h.cell 1, h.box.frozen 1, ⟨C, _, f, by simpa using h.cell 3⟩, h.box.frozen 3, ⟨.slice A P.now.length c, .slice A P.now.length c, .slice none 0 0, kp, gk, ?_⟩, hk⟩
  have e2 : P.synced = ⟨P.size, P.now, P.now, [], P.off, P.arm, P.keep, P.writes⟩ := by unfold PlV.synced; rw [if_neg (by simp [ho])]
  rw [e2]
  exact h.turn hk (P' := ⟨P.size, P.now, P.now, [], P.off, P.arm, P.keep, P.writes⟩) (by simpa using hb) h.now h.now (RecT.Row.nil _ _) h.keep h.hg (fun i q hq => by simp at hq) rfl
theorem pk_power (A0 : Option Addr) (c0 : Nat) (g : Option Nat) (keep : List Bool) (h : PK w0 w p P) (hr : recBo.Rd w (.slice A0 keep.length c0) g keep) (hw : P.wait.length ≤ 100000) (hn : P.kept.length ≤ 100000) :
    Calls Try.prog 32 #[.pointer (some ⟨p, 0, none⟩), .slice A0 keep.length c0] w fun e w' => e = .returned (.tuple #[]) ∧ PK w0 w' p (P.power keep) ∧ Keeps (only p) w w' := by
  obtain ⟨kv, nv, wv, kp, gk, h⟩ := h
  exact ppower_any A0 c0 g keep h hr hw hn
end
theorem Inv.bounds {n z i : Nat} {D : DiskV} {P : PlV} (h : Inv n z i D P) (hn : n ≤ 50) (hi : i ≤ 61) : P.now.length ≤ 100000 ∧ P.kept.length ≤ 100000 ∧ P.wait.length ≤ 100000 ∧ P.writes < 1000000000 ∧ P.arm ≤ 9223372036854775807 := by
  have h1 := h.ag.nlen
  have h2 := h.ag.kept
  have h3 := h.ag.wait
  have h4 := h.ag.writes
  have h5 := h.kept
  have h6 := h.pend
  have h7 := h.writes
  refine ⟨by omega, by rw [h2]; omega, by rw [h3]; omega, by omega, ?_⟩
  cases ha : D.armed with
  | true => have := (h.ag.arm1 ha).1; have := (h.arm ha).2; omega
  | false => have := h.ag.arm0 ha; omega
theorem armed_eq (P : PlV) (a : Int) (keep : List Bool) : P.armed a keep = ((if a < 1 then (P.setArm a).setArm 1 else P.setArm a).setKeep keep) := by
  unfold PlV.armed PlV.setArm PlV.setKeep
  by_cases h : a < 1
  · rw [if_pos h]; simp; omega
  · rw [if_neg h]; simp; omega
end Go.Proofs.Ytnddaildicmneaa
