/-
  disk: a play keeps a disk and the document's disk alike: plain words.
-/
import Derived.Test.YtnddaildicmneaaPl2
namespace Go.Proofs.Ytnddaildicmneaa
open Go.Proofs Go.RowKit Go.Sort Go.Maps

/-- what holds behind `i` calls, on a disk of `n` sectors of `z` bytes -/
structure Inv (n z i : Nat) (D : DiskV) (P : PlV) : Prop where
  ag : Agree D P
  pend : D.pend.length ≤ i
  writes : D.writes ≤ i
  size : D.size = z
  kept : D.kept.length = n
  arm : D.armed = true → 1 ≤ D.left ∧ D.left ≤ 9223372036854775807
  keep : D.keep.length ≤ 100
  plt : ∀ (j : Nat) (q : Nat × List UInt8), D.pend[j]? = some q → q.1 < D.kept.length
theorem Inv.ok {n z i : Nat} {D : DiskV} {P : PlV} (h : Inv n z i D P) (hn : n ≤ 50) (hz : z ≤ 1024) (hi : i ≤ 61) : DOk D :=
  ⟨by have := h.pend; omega, by have := h.size; omega, by have := h.kept; omega, by
    rw [h.kept, h.size]
    exact Nat.le_trans (Nat.mul_le_mul hn hz) (by decide), by have := h.writes; omega, h.arm, by have := h.keep; omega⟩
theorem Inv.more {n z i j : Nat} {D : DiskV} {P : PlV} (h : Inv n z i D P) (hij : i ≤ j) : Inv n z j D P := ⟨h.ag, by have := h.pend; omega, by have := h.writes; omega, h.size, h.kept, h.arm, h.keep, h.plt⟩
theorem inv_new (n z : Nat) : Inv n z 0 (freshD n z) ⟨z, List.replicate n (zerosB z), List.replicate n (zerosB z), [], false, 0, [], 0⟩ where
  ag := ⟨rfl, rfl, rfl, rfl, rfl, rfl, fun i hi => by
    have : i < n := by simpa [freshD] using hi
    simp [freshD, DiskV.read, readN, this], (fun h => by cases h), fun _ => rfl, fun h => by cases h⟩
  pend := Nat.le_refl _
  writes := Nat.le_refl _
  size := rfl
  kept := by simp [freshD]
  arm h := by cases h
  keep := by simp [freshD]
  plt j q h := by simp [freshD] at h
/-- kept whole: what is read -/
theorem settle_read (pd : List (Nat × List UInt8)) (k : List (List UInt8)) (s : Nat) (hs : s < k.length) (hp : ∀ (j : Nat) (q : Nat × List UInt8), pd[j]? = some q → q.1 < k.length) : ∀ i, (settleN (fun _ => true) pd k i)[s]? = some (readN pd k s i)
  | 0 => by
    unfold settleN readN
    rw [List.getElem?_eq_getElem hs]; rfl
  | i + 1 => by
    have ih := settle_read pd k s hs hp i
    unfold settleN readN
    cases h : pd[i]? with
    | none => exact ih
    | some p =>
      simp only [if_true]
      by_cases e : p.1 = s
      · rw [if_pos e, ← e, List.getElem?_set_self (by rw [settleN_len]; exact hp i p h)]
      · rw [if_neg e, List.getElem?_set_ne e]; exact ih
theorem readN_app (pd : List (Nat × List UInt8)) (q : Nat × List UInt8) (k : List (List UInt8)) (s : Nat) : ∀ i, i ≤ pd.length → readN (pd ++ [q]) k s i = readN pd k s i
  | 0, _ => rfl
  | i + 1, h => by
    unfold readN
    rw [List.getElem?_append_left (by omega), readN_app pd q k s i (by omega)]
theorem read_wrote (D : DiskV) (x : Nat) (b : List UInt8) (s : Nat) : (D.wrote x b).read s = if x = s then b else D.read s := by
  unfold DiskV.read DiskV.wrote
  simp only [List.length_append, List.length_singleton]
  rw [readN]
  simp only [List.getElem?_concat_length]
  rw [readN_app _ _ _ _ _ (Nat.le_refl _)]
section
variable {n z i : Nat} {D : DiskV} {P : PlV}
theorem Inv.less (h : Inv n z i D P) (ha : D.armed = true) (hl : 2 ≤ D.left) : Inv n z i D.less P.less := by
  obtain ⟨e1, e2⟩ := h.ag.arm1 ha
  exact ⟨⟨h.ag.size, h.ag.kept, h.ag.wait, h.ag.off, h.ag.writes, h.ag.nlen, h.ag.now, fun _ => ⟨by show P.arm - 1 = D.left - 1; omega, e2⟩, (fun h0 => by have e : D.armed = false := h0; rw [ha] at e; cases e), h.ag.dead⟩, h.pend, h.writes, h.size, h.kept, fun _ => ⟨by show 1 ≤ D.left - 1; omega, by have := (h.arm ha).2; show D.left - 1 ≤ _; omega⟩, h.keep, h.plt⟩
theorem Inv.put (h : Inv n z i D P) (ho : D.off = false) (x : Nat) (b : List UInt8) (hx : x < D.kept.length) : Inv n z (i + 1) (D.wrote x b) (P.put x b) where
  ag := ⟨h.ag.size, h.ag.kept, by show P.wait ++ _ = D.pend ++ _; rw [h.ag.wait], h.ag.off, by show P.writes + 1 = D.writes + 1; rw [h.ag.writes], by show (P.now.set x b).length = _; rw [List.length_set]; exact h.ag.nlen, fun j hj => by
    rw [read_wrote]
    show (P.now.set x b)[j]? = _
    by_cases e : x = j
    · subst e
      rw [if_pos rfl, List.getElem?_set_self (by rw [h.ag.nlen]; exact hx)]
    · rw [if_neg e, List.getElem?_set_ne e]; exact h.ag.now j hj, h.ag.arm1, h.ag.arm0, (fun h0 => by have e : D.off = true := h0; rw [ho] at e; cases e)⟩
  pend := by have := h.pend; show (D.pend ++ [(x, b)]).length ≤ _; simp; omega
  writes := by have := h.writes; show D.writes + 1 ≤ _; omega
  size := h.size
  kept := h.kept
  arm := h.arm
  keep := h.keep
  plt j q hq := by
    by_cases hj : j < D.pend.length
    · have e : (D.pend ++ [(x, b)])[j]? = some q := hq
      rw [List.getElem?_append_left hj] at e
      exact h.plt j q e
    · have e : (D.pend ++ [(x, b)])[j]? = some q := hq
      rw [List.getElem?_append_right (by omega)] at e
      have : j - D.pend.length = 0 := by have := (List.getElem?_eq_some_iff.1 e).1; simp at this; omega
      rw [this] at e
      simp at e
      subst e
      exact hx
theorem Inv.cut (h : Inv n z i D P) (keep : List Bool) : Inv n z i (D.cut keep) (P.power keep) where
  ag := by
    have e : settleN (kfOf keep) P.wait P.kept P.wait.length = settleN (kfOf keep) D.pend D.kept D.pend.length := by rw [h.ag.wait, h.ag.kept]
    refine ⟨h.ag.size, e, rfl, rfl, h.ag.writes, by show (settleN _ _ _ _).length = (settleN _ _ _ _).length; rw [settleN_len, settleN_len, h.ag.kept], fun j hj => ?_, (fun h0 => by cases h0), fun _ => rfl, fun _ => rfl⟩
    show (settleN (kfOf keep) P.wait P.kept P.wait.length)[j]? = some (((settleN (kfOf keep) D.pend D.kept D.pend.length)[j]?).getD [])
    have hj' : j < (settleN (kfOf keep) D.pend D.kept D.pend.length).length := hj
    rw [e, List.getElem?_eq_getElem hj']; rfl
  pend := by show 0 ≤ _; omega
  writes := h.writes
  size := h.size
  kept := by show (settleN _ _ _ _).length = n; rw [settleN_len]; exact h.kept
  arm h0 := by cases h0
  keep := by show 0 ≤ 100; omega
  plt j q hq := by have e : ([] : List (Nat × List UInt8))[j]? = some q := hq; simp at e
/-- Write -/
theorem Inv.write (h : Inv n z i D P) (s : Int) (b : List UInt8) : (P.write s b).1 = (D.write s b).1 ∧ Inv n z (i + 1) (D.write s b).2 (P.write s b).2 := by
  unfold DiskV.write PlV.write
  rw [h.ag.off, h.ag.nlen, h.ag.size]
  by_cases ho : D.off = true
  · rw [if_pos ho, if_pos ho]; exact ⟨rfl, h.more (by omega)⟩
  · have ho' : D.off = false := by simpa using ho
    rw [if_neg ho, if_neg ho]
    by_cases hb : 0 ≤ s ∧ s < D.kept.length ∧ b.length = D.size
    · rw [if_pos hb, if_pos hb]
      have hx : s.toNat < D.kept.length := by omega
      by_cases ha : D.armed = true
      · obtain ⟨e1, e2⟩ := h.ag.arm1 ha
        obtain ⟨a1, a2⟩ := h.arm ha
        rw [if_pos ha, if_pos (by omega)]
        by_cases hl : D.left ≤ 1
        · rw [if_pos hl, if_pos (by omega)]
          refine ⟨rfl, Inv.more (i := i) ?_ (by omega)⟩
          have hc := h.cut D.keep
          rw [e2]
          exact ⟨⟨hc.ag.size, hc.ag.kept, rfl, rfl, hc.ag.writes, hc.ag.nlen, hc.ag.now, (fun h0 => by cases h0), fun _ => rfl, fun _ => rfl⟩, hc.pend, hc.writes, hc.size, hc.kept, (fun h0 => by cases h0), hc.keep, hc.plt⟩
        · rw [if_neg hl, if_neg (by omega)]
          exact ⟨rfl, (h.less ha (by omega)).put ho' _ _ hx⟩
      · have ha' : D.armed = false := by simpa using ha
        rw [if_neg ha, if_neg (by have := h.ag.arm0 ha'; omega)]
        exact ⟨rfl, h.put ho' _ _ hx⟩
    · rw [if_neg hb, if_neg hb]; exact ⟨rfl, h.more (by omega)⟩
/-- Sync -/
def PlV.synced (P : PlV) : PlV := if P.off = true then P else ⟨P.size, P.now, P.now, [], P.off, P.arm, P.keep, P.writes⟩
theorem Inv.sync (h : Inv n z i D P) : Inv n z i D.syncs.2 P.synced ∧ D.syncs.1 = if D.off = true then 22 else 0 := by
  unfold DiskV.syncs PlV.synced
  rw [h.ag.off]
  by_cases ho : D.off = true
  · rw [if_pos ho, if_pos ho, if_pos ho]; exact ⟨h, rfl⟩
  · rw [if_neg ho, if_neg ho, if_neg ho]
    have ho' : D.off = false := by simpa using ho
    have hl : (settleN (fun _ => true) D.pend D.kept D.pend.length).length = D.kept.length := settleN_len _ _ _ _
    have e : P.now = settleN (fun _ => true) D.pend D.kept D.pend.length := by
      apply List.ext_getElem?
      intro j
      by_cases hj : j < D.kept.length
      · rw [h.ag.now j hj, settle_read _ _ _ hj h.plt]; rfl
      · rw [List.getElem?_eq_none (by rw [h.ag.nlen]; omega), List.getElem?_eq_none (by rw [hl]; omega)]
    refine ⟨⟨⟨h.ag.size, e, rfl, by rfl, h.ag.writes, by show P.now.length = (settleN _ _ _ _).length; rw [hl, h.ag.nlen], fun j hj => ?_, h.ag.arm1, h.ag.arm0, fun _ => rfl⟩, by show 0 ≤ _; omega, h.writes, h.size, by show (settleN _ _ _ _).length = n; rw [hl]; exact h.kept, h.arm, h.keep, fun j q hq => by have e : ([] : List (Nat × List UInt8))[j]? = some q := hq; simp at e⟩, rfl⟩
    have hj' : j < (settleN (fun _ => true) D.pend D.kept D.pend.length).length := hj
    show P.now[j]? = some (((settleN (fun _ => true) D.pend D.kept D.pend.length)[j]?).getD [])
    rw [e, List.getElem?_eq_getElem hj']; rfl
/-- Arm -/
def PlV.armed (P : PlV) (a : Int) (keep : List Bool) : PlV := ⟨P.size, P.kept, P.now, P.wait, P.off, max a 1, keep, P.writes⟩
theorem Inv.armed (h : Inv n z i D P) (a : Int) (keep : List Bool) (ha : a ≤ 9223372036854775807) (hk : keep.length ≤ 100) : Inv n z i (D.arm a keep) (P.armed a keep) :=
  ⟨⟨h.ag.size, h.ag.kept, h.ag.wait, h.ag.off, h.ag.writes, h.ag.nlen, h.ag.now, fun _ => ⟨rfl, rfl⟩, (fun h0 => by cases h0), h.ag.dead⟩, h.pend, h.writes, h.size, h.kept, fun _ => ⟨by show 1 ≤ max a 1; omega, by show max a 1 ≤ _; omega⟩, hk, h.plt⟩
/-- On -/
def PlV.on (P : PlV) : PlV := ⟨P.size, P.kept, P.now, P.wait, false, P.arm, P.keep, P.writes⟩
theorem Inv.on (h : Inv n z i D P) : Inv n z i D.on P.on :=
  ⟨⟨h.ag.size, h.ag.kept, h.ag.wait, rfl, h.ag.writes, h.ag.nlen, h.ag.now, h.ag.arm1, h.ag.arm0, (fun h0 => by cases h0)⟩, h.pend, h.writes, h.size, h.kept, h.arm, h.keep, h.plt⟩
end
end Go.Proofs.Ytnddaildicmneaa
