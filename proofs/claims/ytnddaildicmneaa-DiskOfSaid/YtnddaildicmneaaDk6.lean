/-
  disk: settle: some of the pending writes are kept.
-/
import Derived.Test.YtnddaildicmneaaDk5
namespace Go.Proofs.Ytnddaildicmneaa
open Go.Proofs Go.RowKit Go.Sort Go.Maps

/-- what is kept behind the first `i` pending writes -/
def settleN (kf : Nat → Bool) (pd : List (Nat × List UInt8)) (k : List (List UInt8)) : Nat → List (List UInt8)
  | 0 => k
  | i + 1 => match pd[i]? with
    | some p => if kf i then (settleN kf pd k i).set p.1 p.2 else settleN kf pd k i
    | none => settleN kf pd k i
theorem settleN_len (kf : Nat → Bool) (pd : List (Nat × List UInt8)) (k : List (List UInt8)) : ∀ i, (settleN kf pd k i).length = k.length
  | 0 => rfl
  | i + 1 => by
    unfold settleN
    cases pd[i]? with
    | none => exact settleN_len kf pd k i
    | some p =>
      simp only
      split
      · rw [List.length_set]; exact settleN_len kf pd k i
      · exact settleN_len kf pd k i
def DiskV.settle (D : DiskV) (kf : Nat → Bool) : DiskV := ⟨D.size, settleN kf D.pend D.kept D.pend.length, [], D.off, D.armed, D.left, D.keep, D.writes⟩
def DiskV.upto (D : DiskV) (kf : Nat → Bool) (i : Nat) : DiskV := ⟨D.size, settleN kf D.pend D.kept i, D.pend, D.off, D.armed, D.left, D.keep, D.writes⟩
section
variable {w w' : World} {d b : Nat} {kv kp : Value} {ks : List SlV} {vs : List Value} {D : DiskV}
theorem DAt.ent (h : DAt w d b kv kp ks vs D) {i : Nat} {p : Nat × List UInt8} {v : Value} (hp : D.pend[i]? = some p) (hv : vs[i]? = some v) : asc (ents D.pend vs) ((i : Int), (p.1 : Int)) = some v := by
  have hi := (List.getElem?_eq_some_iff.1 hp).1
  refine asc_is h.map.nd ?_
  unfold ents
  refine List.mem_map.2 ⟨i, List.mem_range.2 hi, ?_⟩
  simp [plc, secF, hp, hv]
/-- a pending write is kept -/
theorem DAt.store (h : DAt w d b kv kp ks vs D) {A : Option Addr} {n c : Nat} (hkv : kv = .slice A n c) {i x : Nat} {L : List UInt8} {s : SlV} (hp : D.pend[i]? = some (x, L)) (hv : vs[i]? = some s.v) :
    ∃ bk, A = some ⟨bk, 0, none⟩ ∧ (∃ u, w.cell? ⟨bk, x, none⟩ = some u) ∧ w.frozen? ⟨bk, x, none⟩ = false ∧ DAt (w.setCell ⟨bk, x, none⟩ s.v) d b kv kp (ks.set x s) vs ⟨D.size, D.kept.set x L, D.pend, D.off, D.armed, D.left, D.keep, D.writes⟩ ∧
      Keeps (DS d b kv) w (w.setCell ⟨bk, x, none⟩ s.v) := by
  obtain ⟨hrow, hlen, hx⟩ := h.pb i _ _ hp hv
  simp only at hrow hlen hx
  rcases h.kept.blk with ⟨hv0, h0⟩ | ⟨bk, cap, rest, hvk, hb, h1, h2, h3⟩
  · have := h.klen; rw [h0] at this; simp at this; omega
  · subst hkv
    have hkept := h.kept
    injection hvk with e1 e2 e3
    subst e1 e2 e3
    obtain ⟨hcs, hr2, hk2⟩ := hkept.store (i := x) (by rw [h.klen]; exact hx) s
    obtain ⟨⟨u, hu⟩, hf⟩ := hcs 0 (by decide)
    have ew : w.setCells bk (x * recS.n) (recS.cs s) = w.setCell ⟨bk, x, none⟩ s.v := by show w.setCell ⟨bk, x * 1, none⟩ _ = _; rw [Nat.mul_one]
    rw [ew] at hr2 hk2
    rw [Nat.add_zero, show x * recS.n = x from Nat.mul_one x] at hu hf
    have hnr : NotRaw w bk := h.notRaw bk (.inr (.inr rfl))
    refine ⟨bk, rfl, ⟨u, hu⟩, hf, ?_, hk2.mono (fun k _ e => .inr (.inr (by rw [e]; rfl)))⟩
    exact
    { box := h.box.keep hk2 (fun e => by have e2 : d = bk := e; subst e2; exact hb.ne_ h.box (by decide) rfl)
      kept := hr2
      klen := by rw [List.length_set, List.length_set]; exact h.klen
      sec := fun j s2 L2 g1 g2 => by
        by_cases e : x = j
        · subst e
          rw [List.getElem?_set_self (by rw [h.klen]; exact hx)] at g1
          rw [List.getElem?_set_self hx] at g2
          injection g1 with g1
          injection g2 with g2
          subst g1 g2
          exact ⟨hrow.keep hk2 (fun b e hs => by have e2 : b = bk := hs; subst e2; exact row_raw hrow (.inl rfl) hnr e), hlen⟩
        · rw [List.getElem?_set_ne e] at g1 g2
          exact ⟨(h.sec j s2 L2 g1 g2).1.keep hk2 (fun b e hs => by have e2 : b = bk := hs; subst e2; exact row_raw (h.sec j s2 L2 g1 g2).1 (.inl rfl) hnr e), (h.sec j s2 L2 g1 g2).2⟩
      map := h.map.keep hk2 (fun e => h.map.ne_blk hb e.symm)
      vlen := h.vlen
      pb := fun j p v g1 g2 => ⟨(h.pb j p v g1 g2).1.keep hk2 (fun b e hs => by have e2 : b = bk := hs; subst e2; exact row_raw (h.pb j p v g1 g2).1 (.inl rfl) hnr e), (h.pb j p v g1 g2).2.1, by rw [List.length_set]; exact (h.pb j p v g1 g2).2.2⟩
      keep := h.keep.keep hk2 (fun b e hs => by have e2 : b = bk := hs; subst e2; exact row_raw h.keep (.inr rfl) hnr e) }
/-- nothing waits any more: a new map -/
theorem DAt.fresh (h : DAt w d b kv kp ks vs D) (hk : Keeps (only d) w w') {b' : Nat} (hbox : Blk w' d 97 #[.int .i64 D.size, kv, .map (some b'), .bool D.off, .bool D.armed, .int .i64 D.left, kp, .int .i64 D.writes]) (hm : KMap keyP w' b' []) :
    DAt w' d b' kv kp ks [] ⟨D.size, D.kept, [], D.off, D.armed, D.left, D.keep, D.writes⟩ := by
  have hr : NotRaw w d := h.notRaw d (.inl rfl)
  exact
  { box := hbox
    kept := h.kept.keep hk (fun b e hs => by have e2 : b = d := hs; subst e2; exact own_blk_ne h.kept h.box (by decide) e)
    klen := h.klen
    sec := fun i s L h1 h2 => ⟨(h.sec i s L h1 h2).1.keep hk (fun b e hs => by have e2 : b = d := hs; subst e2; exact row_raw (h.sec i s L h1 h2).1 (.inl rfl) hr e), (h.sec i s L h1 h2).2⟩
    map := hm
    vlen := rfl
    pb := fun i p v h1 h2 => by simp at h1
    keep := h.keep.keep hk (fun b e hs => by have e2 : b = d := hs; subst e2; exact row_raw h.keep (.inr rfl) hr e) }
end
end Go.Proofs.Ytnddaildicmneaa
