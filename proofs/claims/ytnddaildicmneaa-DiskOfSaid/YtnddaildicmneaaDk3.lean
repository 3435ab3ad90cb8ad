/-
  disk: a disk in memory; the methods that only ask, or set a field.
-/
import Derived.Test.YtnddaildicmneaaDk2
namespace Go.Proofs.Ytnddaildicmneaa
open Go.Proofs Go.RowKit Go.Sort Go.Maps

abbrev SlV := Option Addr × Nat × Nat
def SlV.v (s : SlV) : Value := .slice s.1 s.2.1 s.2.2
def recS : RecT SlV := ⟨41, 1, fun s => [s.v], fun _ => rfl, fun _ u hu => by rw [List.mem_singleton.1 hu]; rfl, by decide⟩
def recB : RecT UInt8 := ⟨5, 1, fun x => [bv x], fun _ => rfl, fun _ u hu => by rw [List.mem_singleton.1 hu]; rfl, by decide⟩
def recBo : RecT Bool := ⟨4, 1, fun x => [.bool x], fun _ => rfl, fun _ u hu => by rw [List.mem_singleton.1 hu]; rfl, by decide⟩

structure DiskV where
  size : Nat
  kept : List (List UInt8)
  pend : List (Nat × List UInt8)
  off : Bool
  armed : Bool
  left : Int
  keep : List Bool
  writes : Nat

def secF (pd : List (Nat × List UInt8)) (i : Nat) : Int := (((pd[i]?).map (·.1)).getD 0 : Nat)
def ents (pd : List (Nat × List UInt8)) (vs : List Value) : List ((Int × Int) × Value) := (List.range pd.length).map fun i => (plc (secF pd) i, (vs[i]?).getD undef)
theorem ents_fst (pd : List (Nat × List UInt8)) (vs : List Value) : (ents pd vs).map (·.1) = (List.range pd.length).map (plc (secF pd)) := by
  simp [ents, Function.comp_def]
theorem ents_len (pd : List (Nat × List UInt8)) (vs : List Value) : (ents pd vs).length = pd.length := by simp [ents]

/-- the whole of a disk -/
structure DAt (w : World) (d b : Nat) (kv kp : Value) (ks : List SlV) (vs : List Value) (D : DiskV) : Prop where
  box : Blk w d 97 #[.int .i64 D.size, kv, .map (some b), .bool D.off, .bool D.armed, .int .i64 D.left, kp, .int .i64 D.writes]
  kept : recS.Row w kv ks
  klen : ks.length = D.kept.length
  sec : ∀ (i : Nat) (s : SlV) (L : List UInt8), ks[i]? = some s → D.kept[i]? = some L → recB.Row w s.v L ∧ L.length = D.size
  map : KMap keyP w b (ents D.pend vs)
  vlen : vs.length = D.pend.length
  pb : ∀ (i : Nat) (p : Nat × List UInt8) (v : Value), D.pend[i]? = some p → vs[i]? = some v → recB.Row w v p.2 ∧ p.2.length = D.size ∧ p.1 < D.kept.length
  keep : recBo.Row w kp D.keep

/-- a block that holds no bytes and no bools -/
def NotRaw (w : World) (k : Nat) : Prop := ∀ cs T fr, w.heap[k]? = some (.cells cs T fr) → T ≠ 5 ∧ T ≠ 4
def DS (d b : Nat) (kv : Value) : Nat → Prop := fun k => k = d ∨ k = b ∨ kv.ownBlock = some k
theorem row_raw {α : Type} {R : RecT α} {w : World} {v : Value} {l : List α} (h : R.Row w v l) (ht : R.t = 5 ∨ R.t = 4) {k : Nat} (hk : NotRaw w k) : v.ownBlock ≠ some k := by
  intro e
  rcases h.blk with ⟨rfl, -⟩ | ⟨b', c, rest, rfl, hb2, -⟩
  · simp [Value.ownBlock] at e
  · simp only [Value.ownBlock, Option.some.injEq] at e
    subst e
    obtain ⟨h1, h2⟩ := hk _ _ _ hb2
    rcases ht with ht | ht
    · exact h1 ht
    · exact h2 ht
section
variable {w w' : World} {d b : Nat} {kv kp : Value} {ks : List SlV} {vs : List Value} {D : DiskV} {S : Nat → Prop}
theorem DAt.notRaw (h : DAt w d b kv kp ks vs D) : ∀ k, DS d b kv k → NotRaw w k := by
  rintro k (rfl | rfl | e) cs T fr hk
  · have := h.box
    unfold Blk at this
    rw [hk] at this
    injection this with this
    injection this with _ this
    rw [this]
    decide
  · obtain ⟨D, ⟨es, clock, hb2, -⟩, -⟩ := h.map.own
    rw [hk] at hb2
    cases hb2
  · rcases h.kept.blk with ⟨rfl, -⟩ | ⟨b', c, rest, rfl, hb2, -⟩
    · simp [Value.ownBlock] at e
    · simp only [Value.ownBlock, Option.some.injEq] at e
      subst e
      unfold Blk at hb2
      rw [hk] at hb2
      injection hb2 with hb2
      injection hb2 with _ hb2
      rw [hb2]
      decide
theorem DAt.keepAll (h : DAt w d b kv kp ks vs D) (hk : Keeps S w w') (hd : ∀ k, DS d b kv k → ¬ S k) (hr : ∀ k, S k → NotRaw w k) : DAt w' d b kv kp ks vs D where
  box := h.box.keep hk (hd d (.inl rfl))
  kept := h.kept.keep hk (fun b e => hd b (.inr (.inr e)))
  klen := h.klen
  sec i s L h1 h2 := ⟨(h.sec i s L h1 h2).1.keep hk (fun b e hs => row_raw (h.sec i s L h1 h2).1 (.inl rfl) (hr b hs) e), (h.sec i s L h1 h2).2⟩
  map := h.map.keep hk (hd b (.inr (.inl rfl)))
  vlen := h.vlen
  pb i p v h1 h2 := ⟨(h.pb i p v h1 h2).1.keep hk (fun b e hs => row_raw (h.pb i p v h1 h2).1 (.inl rfl) (hr b hs) e), (h.pb i p v h1 h2).2⟩
  keep := h.keep.keep hk (fun b e hs => row_raw h.keep (.inr rfl) (hr b hs) e)
theorem DAt.same (h : DAt w d b kv kp ks vs D) (hk : Keeps nowhere w w') : DAt w' d b kv kp ks vs D := h.keepAll hk (fun _ _ h => h) (fun _ h => h.elim)
theorem DAt.cell (h : DAt w d b kv kp ks vs D) (k : Nat) : w.cell? ⟨d, k, none⟩ = (#[.int .i64 D.size, kv, .map (some b), .bool D.off, .bool D.armed, .int .i64 D.left, kp, .int .i64 D.writes] : Array Value)[k]? := h.box.cell k
end
def RetV (v : Value) (w : World) : Ending → World → Prop := fun e w' => e = .returned v ∧ w = w'
section
variable {w : World} {d b : Nat} {kv kp : Value} {ks : List SlV} {vs : List Value} {D : DiskV}
theorem don_on (h : DAt w d b kv kp ks vs D) (ho : D.off = false) : Calls Try.prog 53 #[.pointer (some ⟨d, 0, none⟩)] w (RetV (.tuple #[]) w) := by
  have c3 := h.cell 3
  rw [ho] at c3
  simp at c3
  clear h ho
  go_enter Try.func53, Try.ntmps53
  go_wp2
  go_end0
  exact ⟨rfl, rfl⟩
theorem don_off (h : DAt w d b kv kp ks vs D) (ho : D.off = true) : Calls Try.prog 53 #[.pointer (some ⟨d, 0, none⟩)] w fun e w' => e = .panicked [{ v := .iface 34 (.int .i64 22), recovered := false }] ∧ w = w' := by
  have c3 := h.cell 3
  rw [ho] at c3
  simp at c3
  clear h ho
  have hmi : ∀ w, (Instr.makeInterface 34 (.int .i64 22)).run Try.prog w = .ok (.iface 34 (.int .i64 22)) w := fun _ => by kernel_rfl
  go_enter Try.func53, Try.ntmps53
  go_wp2
  exact ⟨rfl, rfl, rfl⟩
theorem din_any (s : Int) (h : DAt w d b kv kp ks vs D) : Calls Try.prog 54 #[.pointer (some ⟨d, 0, none⟩), .int .i64 s] w (RetV (.bool (decide (0 ≤ s) && decide (s < D.kept.length))) w) := by
  have c1 := h.cell 1
  obtain ⟨A, c, rfl, -⟩ := h.kept.form
  simp at c1
  rw [h.klen] at c1
  obtain ⟨n, hn⟩ : ∃ n, n = D.kept.length := ⟨_, rfl⟩
  rw [← hn] at c1 ⊢
  clear h hn
  by_cases h1 : 0 ≤ s
  · go_enter Try.func54, Try.ntmps54
    go_wp2
    go_ret
    exact ⟨by simp [h1], rfl⟩
  · go_enter Try.func54, Try.ntmps54
    go_wp2
    go_ret
    exact ⟨by simp [h1]; try omega, rfl⟩
theorem doff_any (h : DAt w d b kv kp ks vs D) : Calls Try.prog 24 #[.pointer (some ⟨d, 0, none⟩)] w (RetV (.bool D.off) w) := by
  have c3 := h.cell 3
  simp at c3
  clear h
  go_enter Try.func24, Try.ntmps24
  go_wp2
  go_ret
  exact ⟨rfl, rfl⟩
theorem dwrites_any (h : DAt w d b kv kp ks vs D) : Calls Try.prog 25 #[.pointer (some ⟨d, 0, none⟩)] w (RetV (.int .i64 D.writes) w) := by
  have c7 := h.cell 7
  simp at c7
  clear h
  go_enter Try.func25, Try.ntmps25
  go_wp2
  go_ret
  exact ⟨rfl, rfl⟩
theorem dpending_any (h : DAt w d b kv kp ks vs D) : Calls Try.prog 30 #[.pointer (some ⟨d, 0, none⟩)] w (RetV (.int .i64 D.pend.length) w) := by
  have c2 := h.cell 2
  have hl := h.map.len (t := 94) (e := 41) Try.underlying94 3
  rw [ents_len] at hl
  simp at c2
  clear h
  go_enter Try.func30, Try.ntmps30
  go_wp2
  go_ret
  exact ⟨rfl, rfl⟩
end
end Go.Proofs.Ytnddaildicmneaa
