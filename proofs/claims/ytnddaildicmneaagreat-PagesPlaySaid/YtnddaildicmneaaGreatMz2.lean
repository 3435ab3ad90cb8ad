/-
  Parts of the proof, joined in build order: Dk3, Dk4, Dk5, Dk6, Dk7, Dk8, Dk9, Dk10, Dk11, Dk12, RecB, Dk13, Append.
-/
import Derived.Test.YtnddaildicmneaaGreatMz1
import Derived.BigQuiet
import Derived.Carry
import Derived.OwnWalk
import Derived.Maps.AppendAt
import Derived.Laws.AppendOwnNone
import Derived.Deep.AppendLies
set_option linter.unusedVariables false
set_option linter.unusedSimpArgs false
/-
  disk: a disk in memory; the methods that only ask, or set a field.
-/
namespace Go.Proofs.YtnddaildicmneaaGreat
open Go.Proofs Go.RowKit Go.Sort Go.Maps

abbrev SlV := Option Addr × Nat × Nat
def SlV.v (s : SlV) : Value := .slice s.1 s.2.1 s.2.2
def recS : RecT SlV := ⟨33, 1, fun s => [s.v], fun _ => rfl, fun _ u hu => by rw [List.mem_singleton.1 hu]; rfl, by decide⟩
def recBo : RecT Bool := ⟨4, 1, fun x => [.bool x], fun _ => rfl, fun _ u hu => by rw [List.mem_singleton.1 hu]; rfl, by decide⟩

structure DiskV where
  size : Nat
  kept : List (List UInt8)
  pend : List (Nat × List UInt8)
  off : Bool
  armed : Bool
  left : Int
  keep : List Bool
  writes : Nat

def secF (pd : List (Nat × List UInt8)) (i : Nat) : Int := (((pd[i]?).map (·.1)).getD 0 : Nat)
def ents (pd : List (Nat × List UInt8)) (vs : List Value) : List ((Int × Int) × Value) := (List.range pd.length).map fun i => (plc (secF pd) i, (vs[i]?).getD undef)
theorem ents_fst (pd : List (Nat × List UInt8)) (vs : List Value) : (ents pd vs).map (·.1) = (List.range pd.length).map (plc (secF pd)) := by
  simp [ents, Function.comp_def]
theorem ents_len (pd : List (Nat × List UInt8)) (vs : List Value) : (ents pd vs).length = pd.length := by simp [ents]

/-- the whole of a disk -/
structure DAt (w : World) (d b : Nat) (kv kp : Value) (ks : List SlV) (vs : List Value) (D : DiskV) : Prop where
  box : Blk w d 57 #[.int .i64 D.size, kv, .map (some b), .bool D.off, .bool D.armed, .int .i64 D.left, kp, .int .i64 D.writes]
  kept : recS.Row w kv ks
  klen : ks.length = D.kept.length
  sec : ∀ (i : Nat) (s : SlV) (L : List UInt8), ks[i]? = some s → D.kept[i]? = some L → recB.Row w s.v L ∧ L.length = D.size
  map : KMap keyP w b (ents D.pend vs)
  vlen : vs.length = D.pend.length
  pb : ∀ (i : Nat) (p : Nat × List UInt8) (v : Value), D.pend[i]? = some p → vs[i]? = some v → recB.Row w v p.2 ∧ p.2.length = D.size ∧ p.1 < D.kept.length
  keep : recBo.Row w kp D.keep

/-- a block that holds no bytes and no bools -/
def NotRaw (w : World) (k : Nat) : Prop := ∀ cs T fr, w.heap[k]? = some (.cells cs T fr) → T ≠ 5 ∧ T ≠ 4
def DS (d b : Nat) (kv : Value) : Nat → Prop := fun k => k = d ∨ k = b ∨ kv.ownBlock = some k
theorem row_raw {α : Type} {R : RecT α} {w : World} {v : Value} {l : List α} (h : R.Row w v l) (ht : R.t = 5 ∨ R.t = 4) {k : Nat} (hk : NotRaw w k) : v.ownBlock ≠ some k := by
  intro e
  rcases h.blk with ⟨rfl, -⟩ | ⟨b', c, rest, rfl, hb2, -⟩
  · simp [Value.ownBlock] at e
  · simp only [Value.ownBlock, Option.some.injEq] at e
    subst e
    obtain ⟨h1, h2⟩ := hk _ _ _ hb2
    rcases ht with ht | ht
    · exact h1 ht
    · exact h2 ht
section
variable {w w' : World} {d b : Nat} {kv kp : Value} {ks : List SlV} {vs : List Value} {D : DiskV} {S : Nat → Prop}
theorem DAt.notRaw (h : DAt w d b kv kp ks vs D) : ∀ k, DS d b kv k → NotRaw w k := by
  rintro k (rfl | rfl | e) cs T fr hk
  · have := h.box
    unfold Blk at this
    rw [hk] at this
    injection this with this
    injection this with _ this
    rw [this]
    decide
  · obtain ⟨D, ⟨es, clock, hb2, -⟩, -⟩ := h.map.own
    rw [hk] at hb2
    cases hb2
  · rcases h.kept.blk with ⟨rfl, -⟩ | ⟨b', c, rest, rfl, hb2, -⟩
    · simp [Value.ownBlock] at e
    · simp only [Value.ownBlock, Option.some.injEq] at e
      subst e
      unfold Blk at hb2
      rw [hk] at hb2
      injection hb2 with hb2
      injection hb2 with _ hb2
      rw [hb2]
      decide
theorem DAt.keepAll (h : DAt w d b kv kp ks vs D) (hk : Keeps S w w') (hd : ∀ k, DS d b kv k → ¬ S k) (hr : ∀ k, S k → NotRaw w k) : DAt w' d b kv kp ks vs D where
  box := h.box.keep hk (hd d (.inl rfl))
  kept := h.kept.keep hk (fun b e => hd b (.inr (.inr e)))
  klen := h.klen
  sec i s L h1 h2 := ⟨(h.sec i s L h1 h2).1.keep hk (fun b e hs => row_raw (h.sec i s L h1 h2).1 (.inl rfl) (hr b hs) e), (h.sec i s L h1 h2).2⟩
  map := h.map.keep hk (hd b (.inr (.inl rfl)))
  vlen := h.vlen
  pb i p v h1 h2 := ⟨(h.pb i p v h1 h2).1.keep hk (fun b e hs => row_raw (h.pb i p v h1 h2).1 (.inl rfl) (hr b hs) e), (h.pb i p v h1 h2).2⟩
  keep := h.keep.keep hk (fun b e hs => row_raw h.keep (.inr rfl) (hr b hs) e)
theorem DAt.same (h : DAt w d b kv kp ks vs D) (hk : Keeps nowhere w w') : DAt w' d b kv kp ks vs D := h.keepAll hk (fun _ _ h => h) (fun _ h => h.elim)
theorem DAt.cell (h : DAt w d b kv kp ks vs D) (k : Nat) : w.cell? ⟨d, k, none⟩ = (#[.int .i64 D.size, kv, .map (some b), .bool D.off, .bool D.armed, .int .i64 D.left, kp, .int .i64 D.writes] : Array Value)[k]? := h.box.cell k
end
def RetV (v : Value) (w : World) : Ending → World → Prop := fun e w' => e = .returned v ∧ w = w'
section
variable {w : World} {d b : Nat} {kv kp : Value} {ks : List SlV} {vs : List Value} {D : DiskV}
theorem don_on (h : DAt w d b kv kp ks vs D) (ho : D.off = false) : Calls Tryz.prog 54 #[.pointer (some ⟨d, 0, none⟩)] w (RetV (.tuple #[]) w) := by
  have c3 := h.cell 3
  rw [ho] at c3
  simp at c3
  clear h ho
  go_enter Tryz.func54, Tryz.ntmps54
  go_wp2
  go_end0
  exact ⟨rfl, rfl⟩
theorem don_off (h : DAt w d b kv kp ks vs D) (ho : D.off = true) : Calls Tryz.prog 54 #[.pointer (some ⟨d, 0, none⟩)] w fun e w' => e = .panicked [{ v := .iface 26 (.int .i64 22), recovered := false }] ∧ w = w' := by
  have c3 := h.cell 3
  rw [ho] at c3
  simp at c3
  clear h ho
  have hmi : ∀ w, (Instr.makeInterface 26 (.int .i64 22)).run Tryz.prog w = .ok (.iface 26 (.int .i64 22)) w := fun _ => by kernel_rfl
  go_enter Tryz.func54, Tryz.ntmps54
  go_wp2
  exact ⟨rfl, rfl, rfl⟩
theorem din_any (s : Int) (h : DAt w d b kv kp ks vs D) : Calls Tryz.prog 55 #[.pointer (some ⟨d, 0, none⟩), .int .i64 s] w (RetV (.bool (decide (0 ≤ s) && decide (s < D.kept.length))) w) := by
  have c1 := h.cell 1
  obtain ⟨A, c, rfl, -⟩ := h.kept.form
  simp at c1
  rw [h.klen] at c1
  obtain ⟨n, hn⟩ : ∃ n, n = D.kept.length := ⟨_, rfl⟩
  rw [← hn] at c1 ⊢
  clear h hn
  by_cases h1 : 0 ≤ s
  · go_enter Tryz.func55, Tryz.ntmps55
    go_wp2
    go_ret
    exact ⟨by simp [h1], rfl⟩
  · go_enter Tryz.func55, Tryz.ntmps55
    go_wp2
    go_ret
    exact ⟨by simp [h1]; try omega, rfl⟩
theorem doff_any (h : DAt w d b kv kp ks vs D) : Calls Tryz.prog 14 #[.pointer (some ⟨d, 0, none⟩)] w (RetV (.bool D.off) w) := by
  have c3 := h.cell 3
  simp at c3
  clear h
  go_enter Tryz.func14, Tryz.ntmps14
  go_wp2
  go_ret
  exact ⟨rfl, rfl⟩
end
end Go.Proofs.YtnddaildicmneaaGreat
/-
  disk: slices.Clone at bytes, bools, slices of bytes: a copy in a block of the call's own. (wip/gen_dk4.py)
-/
namespace Go.Proofs.YtnddaildicmneaaGreat
open Go.Proofs Go.RowKit Go.Sort Go.Maps
theorem infoB : (Tryz.prog.info? 5).map (fun i => (i.zero, i.size, i.bytes)) = some (some (.int .u8 0), 1, 1) := by kernel_rfl
theorem infoBo : (Tryz.prog.info? 4).map (fun i => (i.zero, i.size, i.bytes)) = some (some (.bool false), 1, 1) := by kernel_rfl
theorem infoS : (Tryz.prog.info? 33).map (fun i => (i.zero, i.size, i.bytes)) = some (some (.slice none 0 0), 1, 24) := by kernel_rfl
def RetRow {α : Type} (R : RecT α) (w : World) (l : List α) : Ending → World → Prop := fun e w' => ∃ v', e = .returned v' ∧ R.Row w' v' l ∧ Above w.heap.size v'.ownBlock ∧ Keeps nowhere w w'

theorem clB_any (v : Value) (g : Option Nat) (l : List UInt8) (w : World) (hr : recB.Rd w v g l) (hb : l.length ≤ 100000000) : Calls Tryz.prog 30 #[v] w (RetRow recB w l) := by
  have q22 := fun (w : World) (a : Option Addr) (n c n' c' : Nat) => Lib.run_eql_slice_nil (P := Tryz.prog) w 33 5 a n c n' c' Tryz.underlying33
  have hr0 := hr
  obtain ⟨A, cap, rfl, h1, h2, hu, h3, h4⟩ := hr
  cases A with
  | none =>
    have h0 := h4 rfl
    have hl : l = [] := List.eq_nil_of_length_eq_zero (by omega)
    subst hl
    subst h0
    clear hr0 h3 h4 hu
    go_enter Tryz.func30, Tryz.ntmps30
    go_wp2
    go_ret
    exact ⟨_, rfl, RecT.Row.nil _ _, Above.none _, Keeps.refl _ _⟩
  | some a =>
    have hka : Keeps nowhere w (w.alloc (.cells #[] 5)) := (Keeps.refl nowhere w).alloc _
    have hrow0 : recB.Row (w.alloc (.cells #[] 5)) (.slice (some ⟨w.heap.size, 0, none⟩) 0 0) [] := RecT.Row.empty recB w
    have hrd := hr0.same hka
    have hlb : ([] : List UInt8).length + l.length ≤ 100000000 := by simpa using hb
    obtain ⟨n, hn⟩ : ∃ n, n = l.length := ⟨_, rfl⟩
    rw [← hn] at hrd h1 ⊢
    clear h3 h4 hu hr0
    have Hka := Lib.hid hka
    have Hrow0 := Lib.hid hrow0
    have Hrd := Lib.hid hrd
    have Hlb := Lib.hid hlb
    have Hn := Lib.hid hn
    clear hka hrow0 hrd hlb hn
    go_enter Tryz.func30, Tryz.ntmps30
    go_wp2_with (at_builtin; go_must (refine RecT.wpList_append (R := recB) Tryz.underlying33 infoB rfl (by decide) rfl (.tmp 5) (.tmp 6) rfl _ [] rfl Hrow0.out _ _ l rfl Hrd.out Hlb.out ?_))
    intro v' w' hrow hk hf
    try rw [List.nil_append] at hrow
    have hab : Above w.heap.size v'.ownBlock := fun b hb => by
      rcases hf b hb with h | h
      · simp [Value.ownBlock] at h; omega
      · have := Hka.out.size; (try simp at this); (try simp at h); omega
    have hk2 : Keeps nowhere w w' := Hka.out.trans hk (fun b hb e => by simp [Value.ownBlock] at e; omega)
    clear hk hf
    have Hrow := Lib.hid hrow
    have Hab := Lib.hid hab
    have Hk2 := Lib.hid hk2
    clear hrow hab hk2
    go_wp2_with fail
    go_ret
    exact ⟨v', rfl, Hrow.out, Hab.out, Hk2.out⟩

theorem clBo_any (v : Value) (g : Option Nat) (l : List Bool) (w : World) (hr : recBo.Rd w v g l) (hb : l.length ≤ 100000000) : Calls Tryz.prog 31 #[v] w (RetRow recBo w l) := by
  have q22 := fun (w : World) (a : Option Addr) (n c n' c' : Nat) => Lib.run_eql_slice_nil (P := Tryz.prog) w 34 4 a n c n' c' Tryz.underlying34
  have hr0 := hr
  obtain ⟨A, cap, rfl, h1, h2, hu, h3, h4⟩ := hr
  cases A with
  | none =>
    have h0 := h4 rfl
    have hl : l = [] := List.eq_nil_of_length_eq_zero (by omega)
    subst hl
    subst h0
    clear hr0 h3 h4 hu
    go_enter Tryz.func31, Tryz.ntmps31
    go_wp2
    go_ret
    exact ⟨_, rfl, RecT.Row.nil _ _, Above.none _, Keeps.refl _ _⟩
  | some a =>
    have hka : Keeps nowhere w (w.alloc (.cells #[] 4)) := (Keeps.refl nowhere w).alloc _
    have hrow0 : recBo.Row (w.alloc (.cells #[] 4)) (.slice (some ⟨w.heap.size, 0, none⟩) 0 0) [] := RecT.Row.empty recBo w
    have hrd := hr0.same hka
    have hlb : ([] : List Bool).length + l.length ≤ 100000000 := by simpa using hb
    obtain ⟨n, hn⟩ : ∃ n, n = l.length := ⟨_, rfl⟩
    rw [← hn] at hrd h1 ⊢
    clear h3 h4 hu hr0
    have Hka := Lib.hid hka
    have Hrow0 := Lib.hid hrow0
    have Hrd := Lib.hid hrd
    have Hlb := Lib.hid hlb
    have Hn := Lib.hid hn
    clear hka hrow0 hrd hlb hn
    go_enter Tryz.func31, Tryz.ntmps31
    go_wp2_with (at_builtin; go_must (refine RecT.wpList_append (R := recBo) Tryz.underlying34 infoBo rfl (by decide) rfl (.tmp 5) (.tmp 6) rfl _ [] rfl Hrow0.out _ _ l rfl Hrd.out Hlb.out ?_))
    intro v' w' hrow hk hf
    try rw [List.nil_append] at hrow
    have hab : Above w.heap.size v'.ownBlock := fun b hb => by
      rcases hf b hb with h | h
      · simp [Value.ownBlock] at h; omega
      · have := Hka.out.size; (try simp at this); (try simp at h); omega
    have hk2 : Keeps nowhere w w' := Hka.out.trans hk (fun b hb e => by simp [Value.ownBlock] at e; omega)
    clear hk hf
    have Hrow := Lib.hid hrow
    have Hab := Lib.hid hab
    have Hk2 := Lib.hid hk2
    clear hrow hab hk2
    go_wp2_with fail
    go_ret
    exact ⟨v', rfl, Hrow.out, Hab.out, Hk2.out⟩

end Go.Proofs.YtnddaildicmneaaGreat
/-
  disk: On, Arm, Shape; a field of the disk set.
-/
namespace Go.Proofs.YtnddaildicmneaaGreat
open Go.Proofs Go.RowKit Go.Sort Go.Maps

section
variable {w w' : World} {d b : Nat} {kv kp : Value} {ks : List SlV} {vs : List Value} {D : DiskV}
/-- fields of the disk are set -/
theorem DAt.turn (h : DAt w d b kv kp ks vs D) (hk : Keeps (only d) w w') {off armed : Bool} {left : Int} {kp' : Value} {keep : List Bool} {writes : Nat}
    (hb : Blk w' d 57 #[.int .i64 D.size, kv, .map (some b), .bool off, .bool armed, .int .i64 left, kp', .int .i64 writes]) (hkp : recBo.Row w' kp' keep) :
    DAt w' d b kv kp' ks vs ⟨D.size, D.kept, D.pend, off, armed, left, keep, writes⟩ := by
  have hr : NotRaw w d := h.notRaw d (.inl rfl)
  exact
  { box := hb
    kept := h.kept.keep hk (fun b e hs => by have e2 : b = d := hs; subst e2; exact row_ne_blk' h.kept h.box (by decide) e)
    klen := h.klen
    sec := fun i s L h1 h2 => ⟨(h.sec i s L h1 h2).1.keep hk (fun b e hs => by have e2 : b = d := hs; subst e2; exact row_raw (h.sec i s L h1 h2).1 (.inl rfl) hr e), (h.sec i s L h1 h2).2⟩
    map := h.map.keep hk (fun e => h.map.ne_blk h.box e.symm)
    vlen := h.vlen
    pb := fun i p v h1 h2 => ⟨(h.pb i p v h1 h2).1.keep hk (fun b e hs => by have e2 : b = d := hs; subst e2; exact row_raw (h.pb i p v h1 h2).1 (.inl rfl) hr e), (h.pb i p v h1 h2).2⟩
    keep := hkp }
where
  row_ne_blk' {α : Type} {R : RecT α} {w : World} {v : Value} {l : List α} {q : Nat} {T : TypeId} {cs : Array Value} (h : R.Row w v l) (hb : Blk w q T cs) (ht : R.t ≠ T) : v.ownBlock ≠ some q := own_blk_ne h hb ht
end
/-- what a method leaves behind -/
def RetD (v : Value) (w : World) (d b : Nat) (kv kp0 : Value) (ks : List SlV) (vs : List Value) (D : DiskV) : Ending → World → Prop := fun e w' =>
  e = .returned v ∧ (∃ kp, (kp = kp0 ∨ Above w.heap.size kp.ownBlock) ∧ DAt w' d b kv kp ks vs D) ∧ Keeps (only d) w w'
section
variable {w : World} {d b : Nat} {kv kp : Value} {ks : List SlV} {vs : List Value} {D : DiskV}
theorem don2_any (h : DAt w d b kv kp ks vs D) : Calls Tryz.prog 17 #[.pointer (some ⟨d, 0, none⟩)] w (RetD (.tuple #[]) w d b kv kp ks vs ⟨D.size, D.kept, D.pend, false, D.armed, D.left, D.keep, D.writes⟩) := by
  have c3 := h.cell 3
  have f3 := h.box.frozen 3
  simp at c3
  have hk := (Keeps.refl (only d) w).setCell (p := ⟨d, 3, none⟩) (fun _ => rfl) (.bool false)
  have hb := h.box.set_ 3 (.bool false)
  have hrow := h.keep.keep hk (fun b e hs => by have e2 : b = d := hs; subst e2; exact row_raw h.keep (.inr rfl) (h.notRaw _ (.inl rfl)) e)
  have hd := h.turn hk (off := false) (armed := D.armed) (left := D.left) (kp' := kp) (keep := D.keep) (writes := D.writes) (by simpa using hb) hrow
  clear h hb hrow
  have Hd := Lib.hid hd
  have Hk := Lib.hid hk
  clear hd hk
  go_enter Tryz.func17, Tryz.ntmps17
  go_wp2
  go_end0
  exact ⟨rfl, ⟨_, .inl rfl, Hd.out⟩, Hk.out⟩
theorem dshape_any (h : DAt w d b kv kp ks vs D) : Calls Tryz.prog 43 #[.pointer (some ⟨d, 0, none⟩)] w fun e w' => e = .returned (.tuple #[.int .i64 D.kept.length, .int .i64 D.size]) ∧ Keeps nowhere w w' := by
  have c0 := h.cell 0
  have c1 := h.cell 1
  obtain ⟨A, c, rfl, -⟩ := h.kept.form
  simp at c0 c1
  rw [h.klen] at c1
  obtain ⟨n, hn⟩ : ∃ n, n = D.kept.length := ⟨_, rfl⟩
  rw [← hn] at c1 ⊢
  have q0 : ∀ w', w' = w.drew → w'.cell? ⟨d, 0, none⟩ = some (.int .i64 D.size) := fun w' e => by rw [e]; exact c0
  have q1 : ∀ w', w' = w.drew → w'.cell? ⟨d, 1, none⟩ = some (.slice A n c) := fun w' e => by rw [e]; exact c1
  clear h hn c0 c1
  go_enter Tryz.func43, Tryz.ntmps43
  go_wp2_with fail
  refine wp_region_script [0, 1, 2, 3, 4, 5, 6, 7, 8, 9, 10] [3, 8] [.ps [0, 1, 2], .fs [3], .ps [4, 5, 6, 7], .fs [8], .ps [9, 10]] (fun w' => w' = w.drew) rfl (by kernel_rfl) ?_
  refine wpS_ps rfl fun K hK => ?_
  simp only [List.map_cons, List.map_nil, Option.getD_some, List.getElem?_toArray, List.getElem?_cons_zero, List.getElem?_cons_succ]
  iterate 3 (first | (apply quietO_cons _ rfl; (intro w' _; go_simp; rfl)) | apply quietO_skip rfl)
  refine hK _ ?_
  clear hK K
  simp only [Act.put, List.setIfInBounds_toArray, List.set_cons_zero, List.set_cons_succ]
  refine wpS_fs rfl (rfl) fun K hK => ?_
  simp only [List.map_cons, List.map_nil, Option.getD_some, List.getElem?_toArray, List.getElem?_cons_zero, List.getElem?_cons_succ]
  iterate 1 (first | (apply quietO_cons _ rfl; (intro w' hs; have c_0 := q1 w' hs; go_simp; rfl)) | apply quietO_skip rfl)
  refine hK _ ?_
  clear hK K
  simp only [Act.put, List.setIfInBounds_toArray, List.set_cons_zero, List.set_cons_succ]
  refine wpS_ps rfl fun K hK => ?_
  simp only [List.map_cons, List.map_nil, Option.getD_some, List.getElem?_toArray, List.getElem?_cons_zero, List.getElem?_cons_succ]
  iterate 4 (first | (apply quietO_cons _ rfl; (intro w' _; go_simp; rfl)) | apply quietO_skip rfl)
  refine hK _ ?_
  clear hK K
  simp only [Act.put, List.setIfInBounds_toArray, List.set_cons_zero, List.set_cons_succ]
  refine wpS_fs rfl (rfl) fun K hK => ?_
  simp only [List.map_cons, List.map_nil, Option.getD_some, List.getElem?_toArray, List.getElem?_cons_zero, List.getElem?_cons_succ]
  iterate 1 (first | (apply quietO_cons _ rfl; (intro w' hs; have c_0 := q0 w' hs; go_simp; rfl)) | apply quietO_skip rfl)
  refine hK _ ?_
  clear hK K
  simp only [Act.put, List.setIfInBounds_toArray, List.set_cons_zero, List.set_cons_succ]
  refine wpS_ps rfl fun K hK => ?_
  simp only [List.map_cons, List.map_nil, Option.getD_some, List.getElem?_toArray, List.getElem?_cons_zero, List.getElem?_cons_succ]
  iterate 2 (first | (apply quietO_cons _ rfl; (intro w' _; go_simp; rfl)) | apply quietO_skip rfl)
  refine hK _ ?_
  clear hK K
  simp only [Act.put, List.setIfInBounds_toArray, List.set_cons_zero, List.set_cons_succ]
  refine wpS_nil ?_
  go_wp2_with fail
  go_ret2
  exact ⟨rfl, (Keeps.refl nowhere w).drew⟩
theorem darm_any (n : Int) (v : Value) (g : Option Nat) (keep : List Bool) (h : DAt w d b kv kp ks vs D) (hr : recBo.Rd w v g keep) (hl : keep.length ≤ 100000000) :
    Calls Tryz.prog 16 #[.pointer (some ⟨d, 0, none⟩), .int .i64 n, v] w (RetD (.tuple #[]) w d b kv kp ks vs ⟨D.size, D.kept, D.pend, D.off, true, max n 1, keep, D.writes⟩) := by
  have hc := clBo_any v g keep w hr hl
  have H := Lib.hid h
  have Hc := Lib.hid hc
  have Hr := Lib.hid hr
  clear h hc hr
  go_enter Tryz.func16, Tryz.ntmps16
  go_wp2_with fail
  refine Hc.out.mono ?_
  rintro e w1 ⟨v', rfl, hrow, hab, hk1⟩
  obtain ⟨A', c', rfl, -⟩ := hrow.form
  have h1 := H.out.same hk1
  have c4 := h1.cell 4
  have c5 := h1.cell 5
  have c6 := h1.cell 6
  have f4 := h1.box.frozen 4
  have f5 := h1.box.frozen 5
  have f6 := h1.box.frozen 6
  simp at c4 c5 c6
  obtain ⟨w2, hw2⟩ : ∃ w2, w2 = ((w1.setCell ⟨d, 4, none⟩ (.bool true)).setCell ⟨d, 5, none⟩ (.int .i64 (max n 1))).setCell ⟨d, 6, none⟩ (.slice A' keep.length c') := ⟨_, rfl⟩
  have hk2 : Keeps (only d) w1 w2 := by rw [hw2]; exact (((Keeps.refl (only d) w1).setCell (p := ⟨d, 4, none⟩) (fun _ => rfl) _).setCell (p := ⟨d, 5, none⟩) (fun _ => rfl) _).setCell (p := ⟨d, 6, none⟩) (fun _ => rfl) _
  have hb2 := ((h1.box.set_ 4 (.bool true)).set_ 5 (.int .i64 (max n 1))).set_ 6 (.slice A' keep.length c')
  rw [← hw2] at hb2
  have hrow2 := hrow.keep hk2 (fun b e hs => by have e2 : b = d := hs; subst e2; have := hab _ e; have := H.out.box.lt; omega)
  have hd := h1.turn hk2 (off := D.off) (armed := true) (left := max n 1) (kp' := .slice A' keep.length c') (keep := keep) (writes := D.writes) (by simpa using hb2) hrow2
  have hk3 : Keeps (only d) w w2 := (hk1.mono (fun _ _ h => h.elim)).trans hk2 (fun _ _ h => h)
  clear h1 hrow hk1 hb2 hrow2 hk2
  have Hd := Lib.hid hd
  have Hk3 := Lib.hid hk3
  have Hw2 := Lib.hid hw2
  have Hab := Lib.hid hab
  clear hd hk3 hw2 hab
  go_wp2_with fail
  rw [← Hw2.out]
  go_end0
  exact ⟨rfl, ⟨_, .inr Hab.out, Hd.out⟩, Hk3.out⟩
end
end Go.Proofs.YtnddaildicmneaaGreat
/-
  disk: settle: some of the pending writes are kept.
-/
namespace Go.Proofs.YtnddaildicmneaaGreat
open Go.Proofs Go.RowKit Go.Sort Go.Maps

/-- what is kept behind the first `i` pending writes -/
def settleN (kf : Nat → Bool) (pd : List (Nat × List UInt8)) (k : List (List UInt8)) : Nat → List (List UInt8)
  | 0 => k
  | i + 1 => match pd[i]? with
    | some p => if kf i then (settleN kf pd k i).set p.1 p.2 else settleN kf pd k i
    | none => settleN kf pd k i
theorem settleN_len (kf : Nat → Bool) (pd : List (Nat × List UInt8)) (k : List (List UInt8)) : ∀ i, (settleN kf pd k i).length = k.length
  | 0 => rfl
  | i + 1 => by
    unfold settleN
    cases pd[i]? with
    | none => exact settleN_len kf pd k i
    | some p =>
      simp only
      split
      · rw [List.length_set]; exact settleN_len kf pd k i
      · exact settleN_len kf pd k i
def DiskV.settle (D : DiskV) (kf : Nat → Bool) : DiskV := ⟨D.size, settleN kf D.pend D.kept D.pend.length, [], D.off, D.armed, D.left, D.keep, D.writes⟩
def DiskV.upto (D : DiskV) (kf : Nat → Bool) (i : Nat) : DiskV := ⟨D.size, settleN kf D.pend D.kept i, D.pend, D.off, D.armed, D.left, D.keep, D.writes⟩
section
variable {w w' : World} {d b : Nat} {kv kp : Value} {ks : List SlV} {vs : List Value} {D : DiskV}
theorem DAt.ent (h : DAt w d b kv kp ks vs D) {i : Nat} {p : Nat × List UInt8} {v : Value} (hp : D.pend[i]? = some p) (hv : vs[i]? = some v) : asc (ents D.pend vs) ((i : Int), (p.1 : Int)) = some v := by
  have hi := (List.getElem?_eq_some_iff.1 hp).1
  refine asc_is h.map.nd ?_
  unfold ents
  refine List.mem_map.2 ⟨i, List.mem_range.2 hi, ?_⟩
  simp [plc, secF, hp, hv]
/-- a pending write is kept -/
theorem DAt.store (h : DAt w d b kv kp ks vs D) {A : Option Addr} {n c : Nat} (hkv : kv = .slice A n c) {i x : Nat} {L : List UInt8} {s : SlV} (hp : D.pend[i]? = some (x, L)) (hv : vs[i]? = some s.v) :
    ∃ bk, A = some ⟨bk, 0, none⟩ ∧ (∃ u, w.cell? ⟨bk, x, none⟩ = some u) ∧ w.frozen? ⟨bk, x, none⟩ = false ∧ DAt (w.setCell ⟨bk, x, none⟩ s.v) d b kv kp (ks.set x s) vs ⟨D.size, D.kept.set x L, D.pend, D.off, D.armed, D.left, D.keep, D.writes⟩ ∧
      Keeps (DS d b kv) w (w.setCell ⟨bk, x, none⟩ s.v) := by
  obtain ⟨hrow, hlen, hx⟩ := h.pb i _ _ hp hv
  simp only at hrow hlen hx
  rcases h.kept.blk with ⟨hv0, h0⟩ | ⟨bk, cap, rest, hvk, hb, h1, h2, h3⟩
  · have := h.klen; rw [h0] at this; simp at this; omega
  · subst hkv
    have hkept := h.kept
    injection hvk with e1 e2 e3
    subst e1 e2 e3
    obtain ⟨hcs, hr2, hk2⟩ := hkept.store (i := x) (by rw [h.klen]; exact hx) s
    obtain ⟨⟨u, hu⟩, hf⟩ := hcs 0 (by decide)
    have ew : w.setCells bk (x * recS.n) (recS.cs s) = w.setCell ⟨bk, x, none⟩ s.v := by show w.setCell ⟨bk, x * 1, none⟩ _ = _; rw [Nat.mul_one]
    rw [ew] at hr2 hk2
    rw [Nat.add_zero, show x * recS.n = x from Nat.mul_one x] at hu hf
    have hnr : NotRaw w bk := h.notRaw bk (.inr (.inr rfl))
    refine ⟨bk, rfl, ⟨u, hu⟩, hf, ?_, hk2.mono (fun k _ e => .inr (.inr (by rw [e]; rfl)))⟩
    exact
    { box := h.box.keep hk2 (fun e => by have e2 : d = bk := e; subst e2; exact hb.ne_ h.box (by decide) rfl)
      kept := hr2
      klen := by rw [List.length_set, List.length_set]; exact h.klen
      sec := fun j s2 L2 g1 g2 => by
        by_cases e : x = j
        · subst e
          rw [List.getElem?_set_self (by rw [h.klen]; exact hx)] at g1
          rw [List.getElem?_set_self hx] at g2
          injection g1 with g1
          injection g2 with g2
          subst g1 g2
          exact ⟨hrow.keep hk2 (fun b e hs => by have e2 : b = bk := hs; subst e2; exact row_raw hrow (.inl rfl) hnr e), hlen⟩
        · rw [List.getElem?_set_ne e] at g1 g2
          exact ⟨(h.sec j s2 L2 g1 g2).1.keep hk2 (fun b e hs => by have e2 : b = bk := hs; subst e2; exact row_raw (h.sec j s2 L2 g1 g2).1 (.inl rfl) hnr e), (h.sec j s2 L2 g1 g2).2⟩
      map := h.map.keep hk2 (fun e => h.map.ne_blk hb e.symm)
      vlen := h.vlen
      pb := fun j p v g1 g2 => ⟨(h.pb j p v g1 g2).1.keep hk2 (fun b e hs => by have e2 : b = bk := hs; subst e2; exact row_raw (h.pb j p v g1 g2).1 (.inl rfl) hnr e), (h.pb j p v g1 g2).2.1, by rw [List.length_set]; exact (h.pb j p v g1 g2).2.2⟩
      keep := h.keep.keep hk2 (fun b e hs => by have e2 : b = bk := hs; subst e2; exact row_raw h.keep (.inr rfl) hnr e) }
/-- nothing waits any more: a new map -/
theorem DAt.fresh (h : DAt w d b kv kp ks vs D) (hk : Keeps (only d) w w') {b' : Nat} (hbox : Blk w' d 57 #[.int .i64 D.size, kv, .map (some b'), .bool D.off, .bool D.armed, .int .i64 D.left, kp, .int .i64 D.writes]) (hm : KMap keyP w' b' []) :
    DAt w' d b' kv kp ks [] ⟨D.size, D.kept, [], D.off, D.armed, D.left, D.keep, D.writes⟩ := by
  have hr : NotRaw w d := h.notRaw d (.inl rfl)
  exact
  { box := hbox
    kept := h.kept.keep hk (fun b e hs => by have e2 : b = d := hs; subst e2; exact own_blk_ne h.kept h.box (by decide) e)
    klen := h.klen
    sec := fun i s L h1 h2 => ⟨(h.sec i s L h1 h2).1.keep hk (fun b e hs => by have e2 : b = d := hs; subst e2; exact row_raw (h.sec i s L h1 h2).1 (.inl rfl) hr e), (h.sec i s L h1 h2).2⟩
    map := hm
    vlen := rfl
    pb := fun i p v h1 h2 => by simp at h1
    keep := h.keep.keep hk (fun b e hs => by have e2 : b = d := hs; subst e2; exact row_raw h.keep (.inr rfl) hr e) }
end
end Go.Proofs.YtnddaildicmneaaGreat
/-
  disk: settle, walked.
-/
namespace Go.Proofs.YtnddaildicmneaaGreat
open Go.Proofs Go.RowKit Go.Sort Go.Maps

/-- what the method takes asks of a disk: a function of a number, that only reads -/
def KeepFn (g : Nat) (lb : Array Value) (kf : Nat → Bool) (S : Nat → Prop) (w : World) : Prop :=
  ∀ (W : World) (i : Nat), i < 1000000 → Keeps S w W → Calls Tryz.prog g (#[.int .i64 (i : Nat)] ++ lb) W fun e w' => e = .returned (.bool (kf i)) ∧ Keeps nowhere W w'

theorem upto_keep {D : DiskV} {kf : Nat → Bool} {i x : Nat} {L : List UInt8} (hp : D.pend[i]? = some (x, L)) (hk : kf i = true) : D.upto kf (i + 1) = ⟨D.size, (settleN kf D.pend D.kept i).set x L, D.pend, D.off, D.armed, D.left, D.keep, D.writes⟩ := by
  simp [DiskV.upto, settleN, hp, hk]
theorem upto_lose {D : DiskV} {kf : Nat → Bool} {i x : Nat} {L : List UInt8} (hp : D.pend[i]? = some (x, L)) (hk : kf i = false) : D.upto kf (i + 1) = D.upto kf i := by
  simp [DiskV.upto, settleN, hp, hk]
theorem hf_at {g : Nat} {lb : Array Value} {kf : Nat → Bool} {S : Nat → Prop} {w W : World} (h : KeepFn g lb kf S w) {i : Nat} (hi : i < 1000000) (hk : Keeps S w W) : Calls Tryz.prog g (#[.int .i64 (i : Nat)] ++ lb) W fun e w' => e = .returned (.bool (kf i)) ∧ Keeps nowhere W w' := h W i hi hk
section
variable {w : World} {d b : Nat} {kv kp : Value} {ks : List SlV} {vs : List Value} {D : DiskV}
theorem pend_sl (h : DAt w d b kv kp ks vs D) {i : Nat} {p : Nat × List UInt8} (hp : D.pend[i]? = some p) : ∃ s : SlV, vs[i]? = some s.v := by
  have hi := (List.getElem?_eq_some_iff.1 hp).1
  obtain ⟨v, hv⟩ : ∃ v, vs[i]? = some v := ⟨_, List.getElem?_eq_getElem (by rw [h.vlen]; exact hi)⟩
  obtain ⟨A, c, rfl, -⟩ := (h.pb i p v hp hv).1.form
  exact ⟨(A, p.2.length, c), hv⟩
set_option maxRecDepth 20000 in
set_option maxHeartbeats 8000000 in
theorem dsettle_any (g : Nat) (lb : Array Value) (eg : ∀ args w, (callFunc g args).run Tryz.prog w = .ok (.enter g args) w) (kf : Nat → Bool) (h : DAt w d b kv kp ks vs D) (hf : KeepFn g lb kf (DS d b kv) w) (hn : D.pend.length ≤ 90000) :
    Calls Tryz.prog 32 #[.pointer (some ⟨d, 0, none⟩), .func (.func g) #[] lb] w fun e w' => e = .returned (.tuple #[]) ∧ ∃ b', w.heap.size ≤ b' ∧ (∃ ks', DAt w' d b' kv kp ks' [] (D.settle kf)) ∧ Keeps (DS d b kv) w w' := by
  obtain ⟨A, c, hkv, hKc, hcm, -⟩ := h.kept.form
  unfold maxLen at hcm
  obtain ⟨n, hnn⟩ : ∃ n, n = D.pend.length := ⟨_, rfl⟩
  have hrow := prow_any w d b n (secF D.pend) (ents D.pend vs) (by simpa using h.cell 2) h.map (by rw [hnn]; exact ents_fst _ _) (by omega)
  obtain ⟨K, hK⟩ : ∃ K, K = ks.length := ⟨_, rfl⟩
  rw [← hK] at hkv hKc
  rw [← hnn] at hn
  subst hkv
  have H := Lib.hid h
  have Hf := Lib.hid hf
  have Hnn := Lib.hid hnn
  have Hrow := Lib.hid hrow
  have HK := Lib.hid hK
  clear h hf hnn hrow hK
  go_enter Tryz.func32, Tryz.ntmps32
  go_wp2_with fail
  refine Hrow.out.mono ?_
  rintro e w1 ⟨v, rfl, hpr, hab, hk1⟩
  obtain ⟨A1, c1, rfl, -⟩ := hpr.form
  rw [List.length_map, List.length_range] at hpr hab ⊢
  have h1 := H.out.same hk1
  have Hpr := Lib.hid hpr
  have Hab := Lib.hid hab
  have Hk1 := Lib.hid hk1
  have H1 := Lib.hid h1
  clear hpr hab hk1 h1
  go_wp2_with fail
  go_loopw [9] (fun iv wr => ∃ (i : Nat) (ks' : List SlV), iv = .int .i64 i ∧ i ≤ n ∧ DAt wr d b (.slice A K c) kp ks' vs (D.upto kf i) ∧ Keeps (DS d b (.slice A K c)) w1 wr) (fun iv _ => n - (intOf iv).toNat)
  case atStart => exact ⟨0, ks, rfl, Nat.zero_le _, H1.out, Keeps.refl _ _⟩
  case round =>
    obtain ⟨i, ks', rfl, hi, hd, hkx⟩ := hrel
    have hpr2 := Hpr.out.keep hkx (fun b' e1 e2 => by
      have l1 := Hab.out b' e1
      have l2 := H.out.box.lt
      have l3 := H.out.map.lt
      rcases e2 with e2 | e2 | e2
      · omega
      · omega
      · have := H.out.kept.lt b' e2; omega)
    by_cases hlt : i < n
    · have hltI : (i : Int) < n := by omega
      have hi0 : (0 : Int) ≤ (i : Int) := by omega
      have hi1 : IntKind.i64.wrap ((i : Int) + 1) = i + 1 := IntWalk.i64_in _ (by omega)
      obtain ⟨⟨x, L⟩, hp⟩ : ∃ p, D.pend[i]? = some p := ⟨_, List.getElem?_eq_getElem (by rw [← Hnn.out]; exact hlt)⟩
      obtain ⟨s, hs⟩ := pend_sl (D := D.upto kf i) hd hp
      have hxK : x < ks'.length := by rw [hd.klen]; exact (hd.pb i _ _ hp hs).2.2
      have hKK : ks'.length = K := by rw [hd.klen, HK.out, H.out.klen]; exact settleN_len _ _ _ _
      have hpl : ((List.range n).map (plc (secF D.pend)))[i]? = some ((i : Int), (x : Int)) := by
        rw [List.getElem?_map, List.getElem?_range hlt]
        simp [plc, secF, hp]
      obtain ⟨A', cp, hv', -, -, hu, h3, -⟩ := hpr2.rd
      injection hv' with e1 e2 e3
      clear e2 e3
      subst e1
      obtain ⟨bp, op, rfl, hgp, hcp⟩ := h3 (by rw [List.length_map, List.length_range]; omega)
      have hc := hcp i _ hpl
      have d0 := hc 0 (by decide)
      have d1 := hc 1 (by decide)
      rw [Nat.add_zero] at d0
      rw [show i * recP.n = i * 2 from rfl] at d0 d1
      simp only [recP, List.getElem?_cons_zero, List.getElem?_cons_succ] at d0 d1
      obtain ⟨W, hW⟩ : ∃ W, W = wr.alloc (.cells #[.int .i64 (i : Int), .int .i64 (x : Int)] 93) := ⟨_, rfl⟩
      obtain ⟨q, hq⟩ : ∃ q, q = wr.heap.size := ⟨_, rfl⟩
      have hkW : Keeps nowhere wr W := by rw [hW]; exact (Keeps.refl nowhere wr).alloc _
      have hbx : Blk W q 93 #[.int .i64 (i : Int), .int .i64 (x : Int)] := by rw [hW, hq]; exact Blk.new _ _ _
      have hkf := hf_at Hf.out (by omega : i < 1000000) ((Hk1.out.mono (T := DS d b (.slice A K c)) (fun _ _ h => h.elim)).trans (hkx.trans hkW (fun _ _ h => h.elim)) (fun _ _ h => h))
      have hdW := hd.same hkW
      have hkxW := hkx.trans hkW (fun _ _ h => h.elim)
      clear hcp hc h3 hu hpl hkW hgp hpr2
      have Hd := Lib.hid hd
      have Hkx := Lib.hid hkx
      have Hp := Lib.hid hp
      have Hs := Lib.hid hs
      have HW := Lib.hid hW
      have Hq := Lib.hid hq
      have Hbx := Lib.hid hbx
      have Hkf := Lib.hid hkf
      have HdW := Lib.hid hdW
      have HkxW := Lib.hid hkxW
      clear hd hkx hp hs hW hq hbx hkf hdW hkxW
      go_upto_region 3 with fail
      rw [← HW.out]
      simp only [← Hq.out]
      clear d0 d1 HW
      go_wp2_with fail
      refine Hkf.out.mono ?_
      rintro e w2 ⟨rfl, hk2⟩
      have hd2 := HdW.out.same hk2
      have hbx2 := Hbx.out.keep hk2 (fun h => h)
      have hkx2 := HkxW.out.trans hk2 (fun _ _ h => h.elim)
      cases hkfi : kf i with
      | false =>
        have hup := upto_lose (kf := kf) Hp.out hkfi
        rw [← hup] at hd2
        have Hd2 := Lib.hid hd2
        have Hbx2 := Lib.hid hbx2
        have Hkx2 := Lib.hid hkx2
        have Hk2 := Lib.hid hk2
        have Hup := Lib.hid hup
        have Hkfi := Lib.hid hkfi
        clear hd2 hbx2 hkx2 hk2 hup hkfi
        go_wp2_with fail
        go_roundw
        case rel => exact ⟨i + 1, ks', by simp, by omega, Hd2.out, Hkx2.out⟩
        case measure => simp [intOf]; omega
      | true =>
        have hup := upto_keep (kf := kf) Hp.out hkfi
        have hkd := (Keeps.refl nowhere w2).drew
        have hd3 := hd2.same hkd
        obtain ⟨bk, hbk, ⟨u, cu⟩, fu, hd4, hk4⟩ := hd3.store rfl Hp.out Hs.out
        subst hbk
        rw [show (D.upto kf i).size = D.size from rfl, show (D.upto kf i).kept = settleN kf D.pend D.kept i from rfl, show (D.upto kf i).pend = D.pend from rfl, show (D.upto kf i).off = D.off from rfl, show (D.upto kf i).armed = D.armed from rfl, show (D.upto kf i).left = D.left from rfl, show (D.upto kf i).keep = D.keep from rfl, show (D.upto kf i).writes = D.writes from rfl, ← hup] at hd4
        have hx0 : (0 : Int) ≤ (x : Int) := by omega
        have hxI : (x : Int) < K := by omega
        have hq1 : ∀ w', Keeps nowhere w2.drew w' → w'.cell? ⟨d, 1, none⟩ = some (.slice (some ⟨bk, 0, none⟩) K c) := fun w' hh => by simpa using (hd3.same hh).cell 1
        have hq2 : ∀ w', Keeps nowhere w2.drew w' → w'.cell? ⟨d, 2, none⟩ = some (.map (some b)) := fun w' hh => by simpa using (hd3.same hh).cell 2
        have hb0 : ∀ w', Keeps nowhere w2.drew w' → w'.cell? ⟨q, 0, none⟩ = some (.int .i64 (i : Int)) := fun w' hh => by simpa using (Blk.keep hbx2 (hkd.more hh) (fun h => h)).cell 0
        have hb1 : ∀ w', Keeps nowhere w2.drew w' → w'.cell? ⟨q, 1, none⟩ = some (.int .i64 (x : Int)) := fun w' hh => by simpa using (Blk.keep hbx2 (hkd.more hh) (fun h => h)).cell 1
        have hlk : ∀ w', Keeps nowhere w2.drew w' → (Instr.lookup 54 (.map (some b)) (.agg #[.int .i64 (i : Int), .int .i64 (x : Int)]) false).run Tryz.prog w' = .ok (.slice s.1 s.2.1 s.2.2) w' := fun w' hh => by
          have := (hd3.same hh).map.look (K := keyP) (t := 54) (e := 33) Tryz.underlying54 (z := .slice none 0 0) (by kernel_rfl) (x := ((i : Int), (x : Int))) ⟨wfI_nat i (by omega), wfI_nat x (by omega)⟩
          rw [(hd3.same hh).ent Hp.out Hs.out] at this
          exact this
        have hkx4 := (hkx2.trans hkd (fun _ _ h => h.elim)).trans hk4 (fun _ _ h => h)
        obtain ⟨w4, hw4⟩ : ∃ w4, w4 = w2.drew.setCell ⟨bk, x, none⟩ s.v := ⟨_, rfl⟩
        rw [← hw4] at hd4 hkx4
        replace hw4 : w4 = (w2.setCell ⟨bk, x, none⟩ (.slice s.1 s.2.1 s.2.2)).drew := by rw [hw4]; rfl
        clear hd2 hbx2 hkx2 hk2 hd3 hk4 hkd hup
        have Hd4 := Lib.hid hd4
        have Hkx4 := Lib.hid hkx4
        have Hw4 := Lib.hid hw4
        have Hkfi := Lib.hid hkfi
        clear hd4 hkx4 hw4 hkfi
        go_wp2_with fail
        refine wp_region_script [0, 1, 2, 3, 4, 5, 6, 7, 8, 9, 10, 11, 12] [3, 5, 9, 10, 11] [.ps [0, 1, 2], .fs [3], .ps [4], .fs [5], .ps [6, 7, 8], .fs [9], .fs [10], .fs [11], .ps [12], .es [13] false] (Keeps nowhere w2.drew) rfl (by kernel_rfl) ?_
        refine wpS_ps rfl fun K hK => ?_
        simp only [List.map_cons, List.map_nil, Option.getD_some, List.getElem?_toArray, List.getElem?_cons_zero, List.getElem?_cons_succ]
        iterate 3 (first | (apply quietO_cons _ rfl; (intro w' _; go_simp; rfl)) | apply quietO_skip rfl)
        refine hK _ ?_
        clear hK K
        simp only [Act.put, List.setIfInBounds_toArray, List.set_cons_zero, List.set_cons_succ]
        refine wpS_fs rfl (Keeps.refl _ _) fun K hK => ?_
        simp only [List.map_cons, List.map_nil, Option.getD_some, List.getElem?_toArray, List.getElem?_cons_zero, List.getElem?_cons_succ]
        iterate 1 (first | (apply quietO_cons _ rfl; (intro w' hs; have c_0 := hq1 w' hs; go_simp; rfl)) | apply quietO_skip rfl)
        refine hK _ ?_
        clear hK K
        simp only [Act.put, List.setIfInBounds_toArray, List.set_cons_zero, List.set_cons_succ]
        refine wpS_ps rfl fun K hK => ?_
        simp only [List.map_cons, List.map_nil, Option.getD_some, List.getElem?_toArray, List.getElem?_cons_zero, List.getElem?_cons_succ]
        iterate 1 (first | (apply quietO_cons _ rfl; (intro w' _; go_simp; rfl)) | apply quietO_skip rfl)
        refine hK _ ?_
        clear hK K
        simp only [Act.put, List.setIfInBounds_toArray, List.set_cons_zero, List.set_cons_succ]
        refine wpS_fs rfl (Keeps.refl _ _) fun K hK => ?_
        simp only [List.map_cons, List.map_nil, Option.getD_some, List.getElem?_toArray, List.getElem?_cons_zero, List.getElem?_cons_succ]
        iterate 1 (first | (apply quietO_cons _ rfl; (intro w' hs; have c_0 := hb1 w' hs; go_simp; rfl)) | apply quietO_skip rfl)
        refine hK _ ?_
        clear hK K
        simp only [Act.put, List.setIfInBounds_toArray, List.set_cons_zero, List.set_cons_succ]
        refine wpS_ps rfl fun K hK => ?_
        simp only [List.map_cons, List.map_nil, Option.getD_some, List.getElem?_toArray, List.getElem?_cons_zero, List.getElem?_cons_succ]
        iterate 3 (first | (apply quietO_cons _ rfl; (intro w' _; go_simp; rfl)) | apply quietO_skip rfl)
        refine hK _ ?_
        clear hK K
        simp only [Act.put, List.setIfInBounds_toArray, List.set_cons_zero, List.set_cons_succ]
        refine wpS_fs rfl (Keeps.refl _ _) fun K hK => ?_
        simp only [List.map_cons, List.map_nil, Option.getD_some, List.getElem?_toArray, List.getElem?_cons_zero, List.getElem?_cons_succ]
        iterate 1 (first | (apply quietO_cons _ rfl; (intro w' hs; have c_0 := hq2 w' hs; go_simp; rfl)) | apply quietO_skip rfl)
        refine hK _ ?_
        clear hK K
        simp only [Act.put, List.setIfInBounds_toArray, List.set_cons_zero, List.set_cons_succ]
        refine wpS_fs rfl (Keeps.refl _ _) fun K hK => ?_
        simp only [List.map_cons, List.map_nil, Option.getD_some, List.getElem?_toArray, List.getElem?_cons_zero, List.getElem?_cons_succ]
        iterate 1 (first | (apply quietO_cons _ rfl; (intro w' hs; have c_0 := hb0 w' hs; have c_1 := hb1 w' hs; go_simp; rfl)) | apply quietO_skip rfl)
        refine hK _ ?_
        clear hK K
        simp only [Act.put, List.setIfInBounds_toArray, List.set_cons_zero, List.set_cons_succ]
        refine wpS_fs rfl (Keeps.refl _ _) fun K hK => ?_
        simp only [List.map_cons, List.map_nil, Option.getD_some, List.getElem?_toArray, List.getElem?_cons_zero, List.getElem?_cons_succ]
        iterate 1 (first | (apply quietO_cons _ rfl; (intro w' hs; have c_0 := hlk w' hs; go_simp; rfl)) | apply quietO_skip rfl)
        refine hK _ ?_
        clear hK K
        simp only [Act.put, List.setIfInBounds_toArray, List.set_cons_zero, List.set_cons_succ]
        refine wpS_ps rfl fun K hK => ?_
        simp only [List.map_cons, List.map_nil, Option.getD_some, List.getElem?_toArray, List.getElem?_cons_zero, List.getElem?_cons_succ]
        iterate 1 (first | (apply quietO_cons _ rfl; (intro w' _; go_simp; rfl)) | apply quietO_skip rfl)
        refine hK _ ?_
        clear hK K
        simp only [Act.put, List.setIfInBounds_toArray, List.set_cons_zero, List.set_cons_succ]
        refine wpS_es rfl fun K hK => ?_
        have HK := Lib.hid hK
        clear hK
        simp only [List.map_cons, List.map_nil, Option.getD_some, List.getElem?_toArray, List.getElem?_cons_zero, List.getElem?_cons_succ]
        go_wp2_with fail
        rw [← Hw4.out]
        go_wp2_with fail
        refine HK.out _ _ (fun h => by cases h) ?_
        clear HK K
        refine wpS_nil ?_
        go_wp2_with fail
        go_roundw
        case rel => exact ⟨i + 1, ks'.set x s, by simp, by omega, Hd4.out, Hkx4.out⟩
        case measure => simp [intOf]; omega
    · obtain rfl : i = n := by omega
      have hiI : ¬ (i : Int) < i := by omega
      have hfin : D.upto kf i = ⟨D.size, settleN kf D.pend D.kept D.pend.length, D.pend, D.off, D.armed, D.left, D.keep, D.writes⟩ := by rw [DiskV.upto, Hnn.out]
      rw [hfin] at hd
      obtain ⟨w5, hw5⟩ : ∃ w5, w5 = (wr.alloc (.map #[] 0)).setCell ⟨d, 2, none⟩ (.map (some wr.heap.size)) := ⟨_, rfl⟩
      have hmm := @run_makeMap Tryz.prog
      have hka : Keeps nowhere wr (wr.alloc (.map #[] 0)) := (Keeps.refl nowhere wr).alloc _
      have hda := hd.same hka
      have c2 := hda.cell 2
      have f2 := hda.box.frozen 2
      simp at c2
      have hk5 : Keeps (only d) (wr.alloc (.map #[] 0)) w5 := by rw [hw5]; exact (Keeps.refl (only d) _).setCell (p := ⟨d, 2, none⟩) (fun _ => rfl) _
      have hb5 := hda.box.set_ 2 (.map (some wr.heap.size))
      rw [← hw5] at hb5
      have hm5 : KMap keyP w5 wr.heap.size [] := (KMap.new keyP wr).keep hk5 (fun e => by have := hd.box.lt; have e2 : wr.heap.size = d := e; omega)
      have hd5 := hda.fresh hk5 (b' := wr.heap.size) (by simpa using hb5) hm5
      have hkf5 : Keeps (DS d b (.slice A K c)) w w5 := ((Hk1.out.mono (T := DS d b (.slice A K c)) (fun _ _ h => h.elim)).trans hkx (fun _ _ h => h)).trans ((hka.mono (fun _ _ h => h.elim)).trans hk5 (fun _ _ h => h)) (fun _ _ e => .inl e)
      have hsz : w.heap.size ≤ wr.heap.size := Nat.le_trans Hk1.out.size hkx.size
      clear hda hb5 hm5 hk5 hka hd hkx hpr2
      have Hd5 := Lib.hid hd5
      have Hkf5 := Lib.hid hkf5
      have Hw5 := Lib.hid hw5
      have Hsz := Lib.hid hsz
      clear hd5 hkf5 hw5 hsz
      go_wp2_with fail
      rw [← Hw5.out]
      go_end0
      exact ⟨rfl, wr.heap.size, Hsz.out, ⟨ks', Hd5.out⟩, Hkf5.out⟩
end
end Go.Proofs.YtnddaildicmneaaGreat
/-
  disk: Cut, Sync.
-/
namespace Go.Proofs.YtnddaildicmneaaGreat
open Go.Proofs Go.RowKit Go.Sort Go.Maps

def kfOf (keep : List Bool) (i : Nat) : Bool := (keep[i]?).getD false
theorem cut1_any (q : Nat) (v : Value) (g : Option Nat) (keep : List Bool) (i : Nat) (hi : i < 1000000) (W : World) (hq : W.cell? ⟨q, 0, none⟩ = some v) (hr : recBo.Rd W v g keep) :
    Calls Tryz.prog 33 #[.int .i64 i, .pointer (some ⟨q, 0, none⟩)] W (RetV (.bool (kfOf keep i)) W) := by
  have hi0 : (0 : Int) ≤ (i : Int) := by omega
  obtain ⟨A, c, rfl, hlc, hcm, hu, h3, h4⟩ := hr
  unfold maxLen at hcm
  obtain ⟨n, hn⟩ : ∃ n, n = keep.length := ⟨_, rfl⟩
  by_cases h : i < keep.length
  · obtain ⟨b, o, rfl, hg, hc⟩ := h3 (by omega)
    have hki : keep[i]? = some keep[i] := List.getElem?_eq_getElem h
    have c0 := hc i _ hki 0 (by decide)
    rw [Nat.add_zero, show i * recBo.n = i from Nat.mul_one i] at c0
    simp only [recBo, List.getElem?_cons_zero] at c0
    have hk : kfOf keep i = keep[i] := by rw [kfOf, hki]; rfl
    obtain ⟨x, hx⟩ : ∃ x, x = keep[i] := ⟨_, rfl⟩
    rw [hk, ← hx]
    rw [← hx] at c0
    rw [← hn] at hq hlc h
    have hI : (i : Int) < n := by omega
    clear hc h3 h4 hu hki hk hx hn
    go_enter Tryz.func33, Tryz.ntmps33
    go_wp2
    go_ret
    exact ⟨rfl, rfl⟩
  · have hk : kfOf keep i = false := by rw [kfOf, List.getElem?_eq_none (by omega)]; rfl
    rw [hk]
    rw [← hn] at hq h
    have hI : ¬ (i : Int) < n := by omega
    clear h3 h4 hu hk hn
    go_enter Tryz.func33, Tryz.ntmps33
    go_wp2
    go_ret
    exact ⟨rfl, rfl⟩
theorem sync1_any (i : Nat) (W : World) : Calls Tryz.prog 62 #[.int .i64 i] W (RetV (.bool true) W) := by
  go_enter Tryz.func62, Tryz.ntmps62
  go_wp2
  go_ret
  exact ⟨rfl, rfl⟩
def DiskV.cut (D : DiskV) (keep : List Bool) : DiskV := ⟨D.size, settleN (kfOf keep) D.pend D.kept D.pend.length, [], true, false, D.left, [], D.writes⟩
def DiskV.sync (D : DiskV) : DiskV := D.settle fun _ => true
section
variable {w : World} {d b : Nat} {kv kp : Value} {ks : List SlV} {vs : List Value} {D : DiskV}
set_option maxHeartbeats 2000000 in
theorem dcut_any (v : Value) (g : Option Nat) (keep : List Bool) (h : DAt w d b kv kp ks vs D) (hr : recBo.Rd w v g keep) (hg : ∀ k, g = some k → ¬ DS d b kv k) (hn : D.pend.length ≤ 90000) :
    Calls Tryz.prog 15 #[.pointer (some ⟨d, 0, none⟩), v] w fun e w' => e = .returned (.tuple #[]) ∧ ∃ b', w.heap.size ≤ b' ∧ (∃ ks', DAt w' d b' kv (.slice none 0 0) ks' [] (D.cut keep)) ∧ Keeps (DS d b kv) w w' := by
  obtain ⟨q, hq⟩ : ∃ q, q = w.heap.size := ⟨_, rfl⟩
  obtain ⟨w1, hw1⟩ : ∃ w1, w1 = w.alloc (.cells #[v] 34) := ⟨_, rfl⟩
  have hk1 : Keeps nowhere w w1 := by rw [hw1]; exact (Keeps.refl nowhere w).alloc _
  have h1 := h.same hk1
  have hbx : Blk w1 q 34 #[v] := by rw [hw1, hq]; exact Blk.new _ _ _
  have hqd : ¬ DS d b kv q := by
    rintro (e | e | e)
    · have := h.box.lt; omega
    · have := h.map.lt; omega
    · have := h.kept.lt q e; omega
  have hf : KeepFn 33 #[.pointer (some ⟨q, 0, none⟩)] (kfOf keep) (DS d b kv) w1 := fun W i hi hk => by
    refine (cut1_any q v g keep i hi W ?_ ((hr.same hk1).keep hk hg)).mono ?_
    · have := (hbx.keep hk hqd).cell 0
      simpa using this
    · rintro e w' ⟨he, rfl⟩
      exact ⟨he, Keeps.refl _ _⟩
  have hset := dsettle_any 33 #[.pointer (some ⟨q, 0, none⟩)] (enters_of Tryz.func33 (by kernel_rfl) rfl) (kfOf keep) h1 hf hn
  obtain ⟨A, c, rfl, -⟩ := id hr
  clear hf
  have H := Lib.hid h
  have H1 := Lib.hid h1
  have Hbx := Lib.hid hbx
  have Hset := Lib.hid hset
  have Hw1 := Lib.hid hw1
  have Hq := Lib.hid hq
  have Hk1 := Lib.hid hk1
  have Hr := Lib.hid hr
  clear h h1 hbx hset hw1 hq hk1 hr
  go_enter Tryz.func15, Tryz.ntmps15
  go_upto_region 1 with fail
  rw [← Hw1.out]
  simp only [← Hq.out]
  clear Hw1
  go_wp2_with fail
  refine Hset.out.mono ?_
  rintro e w2 ⟨rfl, b', hb', ⟨ks', hd⟩, hk2⟩
  have c3 := hd.cell 3
  have c4 := hd.cell 4
  have c6 := hd.cell 6
  have f3 := hd.box.frozen 3
  have f4 := hd.box.frozen 4
  have f6 := hd.box.frozen 6
  simp at c3 c4 c6
  obtain ⟨w5, hw5⟩ : ∃ w5, w5 = ((w2.setCell ⟨d, 3, none⟩ (.bool true)).setCell ⟨d, 4, none⟩ (.bool false)).setCell ⟨d, 6, none⟩ (.slice none 0 0) := ⟨_, rfl⟩
  have hk5 : Keeps (only d) w2 w5 := by rw [hw5]; exact (((Keeps.refl (only d) w2).setCell (p := ⟨d, 3, none⟩) (fun _ => rfl) _).setCell (p := ⟨d, 4, none⟩) (fun _ => rfl) _).setCell (p := ⟨d, 6, none⟩) (fun _ => rfl) _
  have hb5 := ((hd.box.set_ 3 (.bool true)).set_ 4 (.bool false)).set_ 6 (.slice none 0 0)
  rw [← hw5] at hb5
  have hd5 := hd.turn hk5 (off := true) (armed := false) (left := (D.settle (kfOf keep)).left) (kp' := .slice none 0 0) (keep := []) (writes := (D.settle (kfOf keep)).writes) (by simpa using hb5) (RecT.Row.nil _ _)
  have hk6 : Keeps (DS d b kv) w w5 := ((Hk1.out.mono (T := DS d b kv) (fun _ _ h => h.elim)).trans hk2 (fun _ _ h => h)).trans hk5 (fun _ _ e => .inl e)
  have hb6 : w.heap.size ≤ b' := Nat.le_trans Hk1.out.size hb'
  clear hd hb5 hk5 hk2
  have Hd5 := Lib.hid hd5
  have Hk6 := Lib.hid hk6
  have Hw5 := Lib.hid hw5
  have Hb6 := Lib.hid hb6
  clear hd5 hk6 hw5 hb6
  go_wp2_with fail
  rw [← Hw5.out]
  go_end0
  exact ⟨rfl, b', Hb6.out, ⟨ks', Hd5.out⟩, Hk6.out⟩
end
end Go.Proofs.YtnddaildicmneaaGreat
/-
  disk: Sync.
-/
namespace Go.Proofs.YtnddaildicmneaaGreat
open Go.Proofs Go.RowKit Go.Sort Go.Maps
section
variable {w : World} {d b : Nat} {kv kp : Value} {ks : List SlV} {vs : List Value} {D : DiskV}
/-- the result's box: laid at the call's beginning -/
theorem box_new (w : World) (x : Int) : Blk (w.alloc (.cells #[.int .i64 x] 26)) w.heap.size 26 #[.int .i64 x] := Blk.new _ _ _
set_option maxHeartbeats 2000000 in
theorem dsync_off (h : DAt w d b kv kp ks vs D) (ho : D.off = true) : Calls Tryz.prog 49 #[.pointer (some ⟨d, 0, none⟩)] w fun e w' => e = .returned (.int .i64 22) ∧ Keeps nowhere w w' := by
  obtain ⟨q, hq⟩ : ∃ q, q = w.heap.size := ⟨_, rfl⟩
  obtain ⟨w1, hw1⟩ : ∃ w1, w1 = w.alloc (.cells #[.int .i64 0] 26) := ⟨_, rfl⟩
  have hk1 : Keeps nowhere w w1 := by rw [hw1]; exact (Keeps.refl nowhere w).alloc _
  have hbx : Blk w1 q 26 #[.int .i64 0] := by rw [hw1, hq]; exact box_new w 0
  have hon := don_off (h.same hk1) ho
  have hk2 : Keeps nowhere w (w1.setCell ⟨q, 0, none⟩ (.int .i64 22)) := hk1.setCell (p := ⟨q, 0, none⟩) (fun hlt => by simp at hlt; omega) _
  have hb2 := (hbx.set_ 0 (.int .i64 22)).cell 0
  simp at hb2
  have H := Lib.hid h
  have Hon := Lib.hid hon
  have Hw1 := Lib.hid hw1
  have Hq := Lib.hid hq
  have Hk1 := Lib.hid hk1
  have Hbx := Lib.hid hbx
  have Hk2 := Lib.hid hk2
  clear h hon hw1 hq hk1 hbx hk2
  go_enter_defers Tryz.func49, Tryz.ntmps49
  go_upto_region 2 with fail
  rw [← Hw1.out]
  simp only [← Hq.out]
  go_wp2_with fail
  refine Hon.out.mono ?_
  rintro e w' ⟨rfl, rfl⟩
  refine leaves_cons (f := 53) (args := #[.pointer (some ⟨q, 0, none⟩)]) (by simp) (by simp [go_sem]) ?_
  refine (dcaught_panic q 22 _ [] w1 Hbx.out).mono ?_
  rintro e u' w'' ⟨rfl, rfl, rfl⟩
  simp [Leaves, settle, results, Tryz.results49, go_sem, hb2]
  exact Hk2.out
set_option maxHeartbeats 2000000 in
theorem dsync_on (h : DAt w d b kv kp ks vs D) (ho : D.off = false) (hn : D.pend.length ≤ 90000) : Calls Tryz.prog 49 #[.pointer (some ⟨d, 0, none⟩)] w fun e w' => e = .returned (.int .i64 0) ∧ ∃ b', w.heap.size ≤ b' ∧ (∃ ks', DAt w' d b' kv kp ks' [] D.sync) ∧ Keeps (DS d b kv) w w' := by
  obtain ⟨q, hq⟩ : ∃ q, q = w.heap.size := ⟨_, rfl⟩
  obtain ⟨w1, hw1⟩ : ∃ w1, w1 = w.alloc (.cells #[.int .i64 0] 26) := ⟨_, rfl⟩
  have hk1 : Keeps nowhere w w1 := by rw [hw1]; exact (Keeps.refl nowhere w).alloc _
  have hbx : Blk w1 q 26 #[.int .i64 0] := by rw [hw1, hq]; exact box_new w 0
  have h1 := h.same hk1
  have hon := don_on h1 ho
  have hset := dsettle_any 62 #[] (enters_of Tryz.func62 (by kernel_rfl) rfl) (fun _ => true) h1 (fun W i _ _ => (sync1_any i W).mono (fun e w' ⟨he, hw⟩ => ⟨he, by rw [hw]; exact Keeps.refl _ _⟩)) hn
  have hqd : ¬ DS d b kv q := by
    rintro (e | e | e)
    · have := h.box.lt; omega
    · have := h.map.lt; omega
    · have := h.kept.lt q e; omega
  have H := Lib.hid h
  have H1 := Lib.hid h1
  have Hon := Lib.hid hon
  have Hset := Lib.hid hset
  have Hw1 := Lib.hid hw1
  have Hq := Lib.hid hq
  have Hk1 := Lib.hid hk1
  have Hbx := Lib.hid hbx
  have Hqd := Lib.hid hqd
  clear h h1 hon hset hw1 hq hk1 hbx hqd
  go_enter_defers Tryz.func49, Tryz.ntmps49
  go_upto_region 2 with fail
  rw [← Hw1.out]
  simp only [← Hq.out]
  go_wp2_with fail
  refine Hon.out.mono ?_
  rintro e w' ⟨rfl, rfl⟩
  go_wp2_with fail
  refine Hset.out.mono ?_
  rintro e w2 ⟨rfl, b', hb', ⟨ks', hd⟩, hk2⟩
  have hbx2 := Hbx.out.keep hk2 Hqd.out
  have c0 := hbx2.cell 0
  have f0 := hbx2.frozen 0
  simp at c0
  have hk3 : Keeps (only q) w2 (w2.setCell ⟨q, 0, none⟩ (.int .i64 0)) := (Keeps.refl (only q) w2).setCell (p := ⟨q, 0, none⟩) (fun _ => rfl) _
  have hb3 := (hbx2.set_ 0 (.int .i64 0)).cell 0
  simp at hb3
  have hd3 : DAt (w2.setCell ⟨q, 0, none⟩ (.int .i64 0)) d b' kv kp ks' [] D.sync := hd.keepAll hk3 (fun k hk e => by
    have e2 : k = q := e
    subst e2
    rcases hk with e | e | e
    · exact Hqd.out (.inl e)
    · have := Hbx.out.lt; omega
    · exact Hqd.out (.inr (.inr e))) (fun k e cs T fr hh => by
    have e2 : k = q := e
    subst e2
    unfold Blk at hbx2
    rw [hbx2] at hh
    injection hh with hh
    injection hh with _ hh
    rw [← hh]; decide)
  have hk4 : Keeps (DS d b kv) w (w2.setCell ⟨q, 0, none⟩ (.int .i64 0)) := ((Hk1.out.mono (T := DS d b kv) (fun _ _ h => h.elim)).trans hk2 (fun _ _ h => h)).trans hk3 (fun k hk e => by have e2 : k = q := e; have := Hq.out; omega)
  have hb4 : w.heap.size ≤ b' := Nat.le_trans Hk1.out.size hb'
  clear hd hk2 hbx2
  have Hd3 := Lib.hid hd3
  have Hk4 := Lib.hid hk4
  have Hb4 := Lib.hid hb4
  have Hk3 := Lib.hid hk3
  clear hd3 hk4 hb4 hk3
  go_wp2_with fail
  refine leaves_cons (f := 53) (args := #[.pointer (some ⟨q, 0, none⟩)]) (by simp) (by simp [go_sem]) ?_
  refine (dcaught_idle q _).mono ?_
  rintro e u' w'' ⟨rfl, rfl, rfl⟩
  simp [Leaves, settle, results, Tryz.results49, go_sem, hb3]
  exact ⟨b', Hb4.out, ⟨ks', Hd3.out⟩, Hk4.out⟩
end
end Go.Proofs.YtnddaildicmneaaGreat
/-
  disk: Write. (wip/gen_dk10.py)
-/
namespace Go.Proofs.YtnddaildicmneaaGreat
open Go.Proofs Go.RowKit Go.Sort Go.Maps

def DiskV.wrote (D : DiskV) (x : Nat) (L : List UInt8) : DiskV := ⟨D.size, D.kept, D.pend ++ [(x, L)], D.off, D.armed, D.left, D.keep, D.writes + 1⟩
def DiskV.less (D : DiskV) : DiskV := ⟨D.size, D.kept, D.pend, D.off, D.armed, D.left - 1, D.keep, D.writes⟩
theorem ents_app (pd : List (Nat × List UInt8)) (vs : List Value) (hl : vs.length = pd.length) (x : Nat) (L : List UInt8) (v : Value) : ents (pd ++ [(x, L)]) (vs ++ [v]) = ents pd vs ++ [(((pd.length : Int), (x : Int)), v)] := by
  unfold ents
  rw [List.length_append, List.length_singleton, List.range_succ, List.map_append]
  congr 1
  · refine List.map_congr_left fun i hi => ?_
    have hi := List.mem_range.1 hi
    simp only [plc, secF]
    rw [List.getElem?_append_left hi, List.getElem?_append_left (by omega)]
  · simp [plc, secF, ← hl]
theorem ents_new (pd : List (Nat × List UInt8)) (vs : List Value) (x : Int) : ∀ p ∈ ents pd vs, p.1 ≠ ((pd.length : Int), x) := by
  intro p hp e
  unfold ents at hp
  obtain ⟨i, hi, rfl⟩ := List.mem_map.1 hp
  have hi := List.mem_range.1 hi
  simp [plc] at e
  omega
section
variable {w w' : World} {d b : Nat} {kv kp : Value} {ks : List SlV} {vs : List Value} {D : DiskV}
/-- one more waits -/
theorem DAt.more (h : DAt w d b kv kp ks vs D) (hk : Keeps (fun k => k = b) w w') {x : Nat} {L : List UInt8} {v : Value} (hm : KMap keyP w' b (putA (ents D.pend vs) ((D.pend.length : Int), (x : Int)) v)) (hr : recB.Row w' v L) (hL : L.length = D.size) (hx : x < D.kept.length) :
    DAt w' d b kv kp ks (vs ++ [v]) ⟨D.size, D.kept, D.pend ++ [(x, L)], D.off, D.armed, D.left, D.keep, D.writes⟩ := by
  have hnr : NotRaw w b := h.notRaw b (.inr (.inl rfl))
  rw [putA_new (ents_new _ _ _), ← ents_app _ _ h.vlen x L v] at hm
  exact
  { box := h.box.keep hk (fun e => h.map.ne_blk h.box e)
    kept := h.kept.keep hk (fun b' e hs => by
      have e2 : b' = b := hs
      subst e2
      rcases h.kept.blk with ⟨rfl, -⟩ | ⟨b2, c2, rest, rfl, hb2, -⟩
      · simp [Value.ownBlock] at e
      · simp only [Value.ownBlock, Option.some.injEq] at e
        subst e
        exact h.map.ne_blk hb2 rfl)
    klen := h.klen
    sec := fun i s L h1 h2 => ⟨(h.sec i s L h1 h2).1.keep hk (fun b' e hs => by have e2 : b' = b := hs; subst e2; exact row_raw (h.sec i s L h1 h2).1 (.inl rfl) hnr e), (h.sec i s L h1 h2).2⟩
    map := hm
    vlen := by rw [List.length_append, List.length_append, h.vlen]; rfl
    pb := fun i p u h1 h2 => by
      by_cases hi : i < D.pend.length
      · rw [List.getElem?_append_left hi] at h1
        rw [List.getElem?_append_left (by rw [h.vlen]; exact hi)] at h2
        exact ⟨(h.pb i p u h1 h2).1.keep hk (fun b' e hs => by have e2 : b' = b := hs; subst e2; exact row_raw (h.pb i p u h1 h2).1 (.inl rfl) hnr e), (h.pb i p u h1 h2).2⟩
      · rw [List.getElem?_append_right (by omega)] at h1
        rw [List.getElem?_append_right (by rw [h.vlen]; omega), h.vlen] at h2
        have : i - D.pend.length = 0 := by have := (List.getElem?_eq_some_iff.1 h1).1; simp at this; omega
        rw [this] at h1 h2
        simp at h1 h2
        subst h1 h2
        exact ⟨hr, hL, hx⟩
    keep := h.keep.keep hk (fun b' e hs => by have e2 : b' = b := hs; subst e2; exact row_raw h.keep (.inr rfl) hnr e) }
set_option maxHeartbeats 2000000 in
theorem dwrite_off (s : Int) (v : Value) (h : DAt w d b kv kp ks vs D) (ho : D.off = true) : Calls Tryz.prog 47 #[.pointer (some ⟨d, 0, none⟩), .int .i64 s, v] w fun e w' => e = .returned (.int .i64 22) ∧ Keeps nowhere w w' := by
  obtain ⟨q, hq⟩ : ∃ q, q = w.heap.size := ⟨_, rfl⟩
  obtain ⟨w1, hw1⟩ : ∃ w1, w1 = w.alloc (.cells #[.int .i64 0] 26) := ⟨_, rfl⟩
  have hk1 : Keeps nowhere w w1 := by rw [hw1]; exact (Keeps.refl nowhere w).alloc _
  have hbx : Blk w1 q 26 #[.int .i64 0] := by rw [hw1, hq]; exact box_new w 0
  have h1 := h.same hk1
  have hon := don_off h1 ho
  have hk2 : Keeps nowhere w (w1.setCell ⟨q, 0, none⟩ (.int .i64 22)) := hk1.setCell (p := ⟨q, 0, none⟩) (fun hlt => by simp at hlt; omega) _
  have hb2 := (hbx.set_ 0 (.int .i64 22)).cell 0
  simp at hb2
  have H := Lib.hid h
  have H1 := Lib.hid h1
  have Hon := Lib.hid hon
  have Hw1 := Lib.hid hw1
  have Hq := Lib.hid hq
  have Hk1 := Lib.hid hk1
  have Hbx := Lib.hid hbx
  have Hk2 := Lib.hid hk2
  clear h h1 hon hw1 hq hk1 hbx hk2
  go_enter_defers Tryz.func47, Tryz.ntmps47
  go_upto_region 2 with fail
  rw [← Hw1.out]
  simp only [← Hq.out]
  go_wp2_with fail
  refine Hon.out.mono ?_
  rintro e w' ⟨rfl, rfl⟩
  refine leaves_cons (f := 53) (args := #[.pointer (some ⟨q, 0, none⟩)]) (by simp) (by simp [go_sem]) ?_
  refine (dcaught_panic q 22 _ [] w1 Hbx.out).mono ?_
  rintro e u' w'' ⟨rfl, rfl, rfl⟩
  simp [Leaves, settle, results, Tryz.results47, go_sem, hb2]
  exact Hk2.out
set_option maxHeartbeats 2000000 in
theorem dwrite_arg (s : Int) (v : Value) (g : Option Nat) (L : List UInt8) (h : DAt w d b kv kp ks vs D) (hr : recB.Rd w v g L) (ho : D.off = false) (hbad : ¬ (0 ≤ s ∧ s < D.kept.length ∧ L.length = D.size)) : Calls Tryz.prog 47 #[.pointer (some ⟨d, 0, none⟩), .int .i64 s, v] w fun e w' => e = .returned (.int .i64 1) ∧ Keeps nowhere w w' := by
  obtain ⟨q, hq⟩ : ∃ q, q = w.heap.size := ⟨_, rfl⟩
  obtain ⟨w1, hw1⟩ : ∃ w1, w1 = w.alloc (.cells #[.int .i64 0] 26) := ⟨_, rfl⟩
  have hk1 : Keeps nowhere w w1 := by rw [hw1]; exact (Keeps.refl nowhere w).alloc _
  have hbx : Blk w1 q 26 #[.int .i64 0] := by rw [hw1, hq]; exact box_new w 0
  have h1 := h.same hk1
  have hon := don_on h1 ho
  have hin := din_any s h1
  obtain ⟨A, c, rfl, -⟩ := hr
  have c0 := hbx.cell 0
  have f0 := hbx.frozen 0
  have z0 := h1.cell 0
  simp at c0 z0
  have hk2 : Keeps nowhere w (w1.setCell ⟨q, 0, none⟩ (.int .i64 1)) := hk1.setCell (p := ⟨q, 0, none⟩) (fun hlt => by simp at hlt; omega) _
  have hb2 := (hbx.set_ 0 (.int .i64 1)).cell 0
  simp at hb2
  obtain ⟨N, hN⟩ : ∃ N, N = D.kept.length := ⟨_, rfl⟩
  obtain ⟨Z, hZ⟩ : ∃ Z, Z = D.size := ⟨_, rfl⟩
  obtain ⟨n, hn⟩ : ∃ n, n = L.length := ⟨_, rfl⟩
  rw [← hN] at hin hbad
  rw [← hZ] at z0 hbad
  rw [← hn] at hbad ⊢
  have H := Lib.hid h
  have H1 := Lib.hid h1
  have Hon := Lib.hid hon
  have Hw1 := Lib.hid hw1
  have Hq := Lib.hid hq
  have Hk1 := Lib.hid hk1
  have Hbx := Lib.hid hbx
  have Hk2 := Lib.hid hk2
  have HN := Lib.hid hN
  have HZ := Lib.hid hZ
  have Hn := Lib.hid hn
  clear h h1 hon hw1 hq hk1 hbx hk2 hN hZ hn
  by_cases hi : 0 ≤ s ∧ s < N
  · have hin2 : (decide (0 ≤ s) && decide (s < (N : Int))) = true := by simp [hi.1, hi.2]
    rw [hin2] at hin
    have hnz : ((n : Int) != (Z : Int)) = true := by simp; intro e; exact hbad ⟨hi.1, hi.2, by omega⟩
    have Hin := Lib.hid hin
    clear hin
    go_enter_defers Tryz.func47, Tryz.ntmps47
    go_upto_region 2 with fail
    rw [← Hw1.out]
    simp only [← Hq.out]
    go_wp2_with fail
    refine Hon.out.mono ?_
    rintro e w' ⟨rfl, rfl⟩
    go_wp2_with fail
    refine Hin.out.mono ?_
    rintro e w' ⟨rfl, rfl⟩
    go_wp2_with fail
    refine leaves_cons (f := 53) (args := #[.pointer (some ⟨q, 0, none⟩)]) (by simp) (by simp [go_sem]) ?_
    refine (dcaught_idle q _).mono ?_
    rintro e u' w'' ⟨rfl, rfl, rfl⟩
    simp [Leaves, settle, results, Tryz.results47, go_sem, hb2]
    exact Hk2.out
  · have hin2 : (decide (0 ≤ s) && decide (s < (N : Int))) = false := by simp; omega
    rw [hin2] at hin
    have Hin := Lib.hid hin
    clear hin
    go_enter_defers Tryz.func47, Tryz.ntmps47
    go_upto_region 2 with fail
    rw [← Hw1.out]
    simp only [← Hq.out]
    go_wp2_with fail
    refine Hon.out.mono ?_
    rintro e w' ⟨rfl, rfl⟩
    go_wp2_with fail
    refine Hin.out.mono ?_
    rintro e w' ⟨rfl, rfl⟩
    go_wp2_with fail
    refine leaves_cons (f := 53) (args := #[.pointer (some ⟨q, 0, none⟩)]) (by simp) (by simp [go_sem]) ?_
    refine (dcaught_idle q _).mono ?_
    rintro e u' w'' ⟨rfl, rfl, rfl⟩
    simp [Leaves, settle, results, Tryz.results47, go_sem, hb2]
    exact Hk2.out
end
end Go.Proofs.YtnddaildicmneaaGreat
/-
  disk: Write: it waits; or the power goes. (wip/gen_dk11.py)
-/
namespace Go.Proofs.YtnddaildicmneaaGreat
open Go.Proofs Go.RowKit Go.Sort Go.Maps
section
variable {w : World} {d b : Nat} {kv kp : Value} {ks : List SlV} {vs : List Value} {D : DiskV}
/-- the result's box is written -/
theorem DAt.boxed (h : DAt w d b kv kp ks vs D) {q : Nat} {T : TypeId} {cs : Array Value} (hq : Blk w q T cs) (hT : T = 26) (hqd : ¬ DS d b kv q) (u : Value) : DAt (w.setCell ⟨q, 0, none⟩ u) d b kv kp ks vs D := by
  subst hT
  refine h.keepAll (S := only q) ((Keeps.refl (only q) w).setCell (p := ⟨q, 0, none⟩) (fun _ => rfl) u) (fun k hk e => hqd (by have e2 : k = q := e; rw [← e2]; exact hk)) (fun k e cs2 T2 fr hh => ?_)
  have e2 : k = q := e
  subst e2
  unfold Blk at hq
  rw [hq] at hh
  injection hh with hh
  injection hh with _ hh
  rw [← hh]; decide
set_option maxRecDepth 20000 in
set_option maxHeartbeats 4000000 in
theorem dwrite_ok (x : Nat) (v : Value) (g : Option Nat) (L : List UInt8) (h : DAt w d b kv kp ks vs D) (hr : recB.Rd w v g L) (ho : D.off = false) (ha : D.armed = false) (hx : x < D.kept.length) (hlen : L.length = D.size) (hn : D.pend.length ≤ 90000) (hsz : D.size ≤ 1000000) (hxb : D.kept.length ≤ 1000000) (hwb : D.writes < 1000000000) :
    Calls Tryz.prog 47 #[.pointer (some ⟨d, 0, none⟩), .int .i64 x, v] w fun e w' => e = .returned (.int .i64 0) ∧ (∃ vs', DAt w' d b kv kp ks vs' (D.wrote x L)) ∧ Keeps (DS d b kv) w w' := by
  obtain ⟨q, hq⟩ : ∃ q, q = w.heap.size := ⟨_, rfl⟩
  obtain ⟨w1, hw1⟩ : ∃ w1, w1 = w.alloc (.cells #[.int .i64 0] 26) := ⟨_, rfl⟩
  have hk1 : Keeps nowhere w w1 := by rw [hw1]; exact (Keeps.refl nowhere w).alloc _
  have hbx : Blk w1 q 26 #[.int .i64 0] := by rw [hw1, hq]; exact box_new w 0
  have h1 := h.same hk1
  have hon := don_on h1 ho
  have hin := din_any (x : Int) h1
  have hr0 := hr
  obtain ⟨A, c, rfl, -⟩ := hr
  have z0 := h1.cell 0
  have z4 := h1.cell 4
  rw [ha] at z4
  simp at z0 z4
  have hqd : ¬ DS d b kv q := by
    rintro (e | e | e)
    · have := h.box.lt; omega
    · have := h.map.lt; omega
    · have := h.kept.lt q e; omega
  obtain ⟨N, hN⟩ : ∃ N, N = D.kept.length := ⟨_, rfl⟩
  obtain ⟨Z, hZ⟩ : ∃ Z, Z = D.size := ⟨_, rfl⟩
  obtain ⟨n, hL⟩ : ∃ n, n = L.length := ⟨_, rfl⟩
  obtain ⟨P, hP⟩ : ∃ P, P = D.pend.length := ⟨_, rfl⟩
  rw [← hN] at hin hx
  rw [← hZ] at z0 hlen
  rw [← hL] at hlen hr0 ⊢
  rw [← hP] at hn
  have hin2 : (decide ((0 : Int) ≤ (x : Int)) && decide ((x : Int) < (N : Int))) = true := by simp; omega
  rw [hin2] at hin
  have hnz : ((n : Int) != (Z : Int)) = false := by simp; omega
  have hr1 := hr0.same hk1
  have hkW := hk1.mono (T := DS d b kv) (fun _ _ h => h.elim)
  have hnZ := hlen
  clear hlen
  have hb2 := hbx
  have hr2 := hr1
  rw [← hZ] at hsz
  rw [← hN] at hxb
  have H := Lib.hid h
  have H1 := Lib.hid h1
  have Hon := Lib.hid hon
  have Hw1 := Lib.hid hw1
  have Hq := Lib.hid hq
  have Hk1 := Lib.hid hk1
  have Hbx := Lib.hid hbx
  have HN := Lib.hid hN
  have HZ := Lib.hid hZ
  have HL := Lib.hid hL
  have HP := Lib.hid hP
  have Hin := Lib.hid hin
  have Hr0 := Lib.hid hr0
  have Hr1 := Lib.hid hr1
  have Hqd := Lib.hid hqd
  have HkW := Lib.hid hkW
  have HnZ := Lib.hid hnZ
  have Hb2 := Lib.hid hb2
  have Hr2 := Lib.hid hr2
  have Hwb := Lib.hid hwb
  clear h h1 hon hw1 hq hk1 hbx hN hZ hL hP hin hr0 hr1 hqd hkW hnZ hb2 hr2 hwb
  go_enter_defers Tryz.func47, Tryz.ntmps47
  go_upto_region 2 with fail
  rw [← Hw1.out]
  simp only [← Hq.out]
  go_wp2_with fail
  refine Hon.out.mono ?_
  rintro e w' ⟨rfl, rfl⟩
  go_wp2_with fail
  refine Hin.out.mono ?_
  rintro e w' ⟨rfl, rfl⟩
  have hq2 : ∀ w', Keeps nowhere w1.drew w' → w'.cell? ⟨d, 2, none⟩ = some (.map (some b)) := fun w' hh => by simpa using (H1.out.same ((Keeps.refl nowhere w1).drew.more hh)).cell 2
  have hlen : ∀ w', Keeps nowhere w1.drew w' → (Builtin.len_ #[54] 3 #[.map (some b)]).run Tryz.prog w' = .ok (.int .i64 P) w' := fun w' hh => by
    have := (H1.out.same ((Keeps.refl nowhere w1).drew.more hh)).map.len (t := 54) (e := 33) Tryz.underlying54 3
    rw [ents_len] at this
    rw [HP.out]; exact this
  go_wp2_with fail
  refine wp_region_script [0, 1, 2, 3, 4, 5, 6, 7, 8, 9, 10, 11] [3, 7, 8] [.ps [0, 1, 2], .fs [3], .ps [4, 5, 6], .fs [7], .fs [8], .ps [9, 10, 11], .es [12] true, .es [13] false] (Keeps nowhere w1.drew) rfl (by kernel_rfl) ?_
  refine wpS_ps rfl fun K hK => ?_
  simp only [List.map_cons, List.map_nil, Option.getD_some, List.getElem?_toArray, List.getElem?_cons_zero, List.getElem?_cons_succ]
  iterate 3 (first | (apply quietO_cons _ rfl; (intro w' _; go_simp; rfl)) | apply quietO_skip rfl)
  refine hK _ ?_
  clear hK K
  simp only [Act.put, List.setIfInBounds_toArray, List.set_cons_zero, List.set_cons_succ]
  refine wpS_fs rfl (Keeps.refl _ _) fun K hK => ?_
  simp only [List.map_cons, List.map_nil, Option.getD_some, List.getElem?_toArray, List.getElem?_cons_zero, List.getElem?_cons_succ]
  iterate 1 (first | (apply quietO_cons _ rfl; (intro w' hs; have c_0 := hq2 w' hs; go_simp; rfl)) | apply quietO_skip rfl)
  refine hK _ ?_
  clear hK K
  simp only [Act.put, List.setIfInBounds_toArray, List.set_cons_zero, List.set_cons_succ]
  refine wpS_ps rfl fun K hK => ?_
  simp only [List.map_cons, List.map_nil, Option.getD_some, List.getElem?_toArray, List.getElem?_cons_zero, List.getElem?_cons_succ]
  iterate 3 (first | (apply quietO_cons _ rfl; (intro w' _; go_simp; rfl)) | apply quietO_skip rfl)
  refine hK _ ?_
  clear hK K
  simp only [Act.put, List.setIfInBounds_toArray, List.set_cons_zero, List.set_cons_succ]
  refine wpS_fs rfl (Keeps.refl _ _) fun K hK => ?_
  simp only [List.map_cons, List.map_nil, Option.getD_some, List.getElem?_toArray, List.getElem?_cons_zero, List.getElem?_cons_succ]
  iterate 1 (first | (apply quietO_cons _ rfl; (intro w' hs; have c_0 := hq2 w' hs; go_simp; rfl)) | apply quietO_skip rfl)
  refine hK _ ?_
  clear hK K
  simp only [Act.put, List.setIfInBounds_toArray, List.set_cons_zero, List.set_cons_succ]
  refine wpS_fs rfl (Keeps.refl _ _) fun K hK => ?_
  simp only [List.map_cons, List.map_nil, Option.getD_some, List.getElem?_toArray, List.getElem?_cons_zero, List.getElem?_cons_succ]
  iterate 1 (first | (apply quietO_cons _ rfl; (intro w' hs; have c_0 := hlen w' hs; go_simp; rfl)) | apply quietO_skip rfl)
  refine hK _ ?_
  clear hK K
  simp only [Act.put, List.setIfInBounds_toArray, List.set_cons_zero, List.set_cons_succ]
  refine wpS_ps rfl fun K hK => ?_
  simp only [List.map_cons, List.map_nil, Option.getD_some, List.getElem?_toArray, List.getElem?_cons_zero, List.getElem?_cons_succ]
  iterate 3 (first | (apply quietO_cons _ rfl; (intro w' _; go_simp; rfl)) | apply quietO_skip rfl)
  refine hK _ ?_
  clear hK K
  simp only [Act.put, List.setIfInBounds_toArray, List.set_cons_zero, List.set_cons_succ]
  clear hq2 hlen
  refine wpS_es rfl fun K hK => ?_
  have HK := Lib.hid hK
  clear hK
  simp only [List.map_cons, List.map_nil, Option.getD_some, List.getElem?_toArray, List.getElem?_cons_zero, List.getElem?_cons_succ]
  go_wp2_with fail
  have hkd := (Keeps.refl nowhere w1).drew
  refine (clB_any _ _ L w1.drew (Hr2.out.same hkd) (by have := HL.out; have := HnZ.out; omega)).mono ?_
  rintro e w3 ⟨v', rfl, hrow, hab, hk3⟩
  have hd3 := H1.out.same (hkd.more hk3)
  have hb3 := Hb2.out.keep (hkd.more hk3) (fun h => h)
  obtain ⟨w4, hput, hm4, hk4⟩ := hd3.map.put (t := 54) (e := 33) Tryz.underlying54 (x := ((P : Int), (x : Int))) ⟨wfI_nat P (by omega), wfI_nat x (by omega)⟩ v' (by rw [ents_len]; have := HP.out; show D.pend.length < 1000000; omega)
  have hrow4 := hrow.keep hk4 (fun b' e hs => by have e2 : b' = b := hs; subst e2; exact row_raw hrow (.inl rfl) (hd3.notRaw _ (.inr (.inl rfl))) e)
  rw [HP.out] at hm4
  have hd4 := hd3.more hk4 hm4 hrow4 (show L.length = D.size by rw [← HL.out, ← HZ.out]; exact HnZ.out) (by have := HN.out; show x < D.kept.length; omega)
  have hb4 := hb3.keep hk4 (fun e => Hqd.out (.inr (.inl e)))
  have hput2 : (Instr.mapUpdate 54 (.map (some b)) (.agg #[.int .i64 (P : Int), .int .i64 (x : Int)]) v').run Tryz.prog w3 = .ok () w4 := hput
  have hkz := (hkd.more hk3)
  have hk14 : Keeps (DS d b kv) w1 w4 := (hkz.mono (T := DS d b kv) (fun _ _ h => h.elim)).trans hk4 (fun _ _ e => .inr (.inl e))
  clear hput hm4 hrow4 hd3 hb3 hrow hab
  have Hd4 := Lib.hid hd4
  have Hb4 := Lib.hid hb4
  have Hkz := Lib.hid hkz
  have Hk4 := Lib.hid hk4
  have Hk14 := Lib.hid hk14
  clear hd4 hb4 hkz hk4 hk14
  go_wp2_with fail
  refine HK.out _ _ (fun _ => hk3) ?_
  clear HK K
  refine wpS_es rfl fun K hK => ?_
  have HK := Lib.hid hK
  clear hK
  simp only [List.map_cons, List.map_nil, Option.getD_some, List.getElem?_toArray, List.getElem?_cons_zero, List.getElem?_cons_succ]
  go_wp2_with fail
  clear hput2
  go_wp2_with fail
  refine HK.out _ _ (fun h => by cases h) ?_
  clear HK K
  refine wpS_nil ?_
  have c7 := Hd4.out.cell 7
  have f7 := Hd4.out.box.frozen 7
  simp at c7
  have hwr : IntKind.i64.wrap (((D).writes : Int) + 1) = ((D).writes : Int) + 1 := IntWalk.i64_in _ (by have := Hwb.out; have e9 : (D).writes = D.writes := rfl; omega)
  obtain ⟨w5, hw5⟩ : ∃ w5, w5 = w4.setCell ⟨d, 7, none⟩ (.int .i64 (((D).writes : Int) + 1)) := ⟨_, rfl⟩
  have hk5 : Keeps (only d) w4 w5 := by rw [hw5]; exact (Keeps.refl (only d) w4).setCell (p := ⟨d, 7, none⟩) (fun _ => rfl) _
  have hbd := Hd4.out.box.set_ 7 (.int .i64 (((D).writes : Int) + 1))
  rw [← hw5] at hbd
  have hd5 := Hd4.out.turn hk5 (off := (D).off) (armed := (D).armed) (left := (D).left) (kp' := kp) (keep := (D).keep) (writes := (D).writes + 1) (by simpa using hbd) (Hd4.out.keep.keep hk5 (fun b' e hs => by have e2 : b' = d := hs; subst e2; exact row_raw Hd4.out.keep (.inr rfl) (Hd4.out.notRaw _ (.inl rfl)) e))
  have hb5 := Hb4.out.keep hk5 (fun e => Hqd.out (.inl e))
  have c0 := hb5.cell 0
  have f0 := hb5.frozen 0
  simp at c0
  have hd6 := DAt.boxed hd5 hb5 rfl Hqd.out (.int .i64 0)
  have hb6 := (hb5.set_ 0 (.int .i64 0)).cell 0
  simp at hb6
  have hk6 : Keeps (DS d b kv) w (w5.setCell ⟨q, 0, none⟩ (.int .i64 0)) := ((HkW.out.trans Hk14.out (fun _ _ h => h)).trans hk5 (fun _ _ e => .inl e)).setCell (p := ⟨q, 0, none⟩) (fun hlt => by have := Hq.out; simp at hlt; omega) _
  clear hd5 hb5 hbd hk5
  rw [hw5] at c0 f0
  have Hd6 := Lib.hid hd6
  have Hk6 := Lib.hid hk6
  have Hw5 := Lib.hid hw5
  clear hd6 hk6 hw5
  go_wp2_with fail
  rw [← Hw5.out]
  refine leaves_cons (f := 53) (args := #[.pointer (some ⟨q, 0, none⟩)]) (by simp) (by simp [go_sem]) ?_
  refine (dcaught_idle q _).mono ?_
  rintro e u' w'' ⟨rfl, rfl, rfl⟩
  simp [Leaves, settle, results, Tryz.results47, go_sem, hb6]
  exact ⟨⟨_, Hd6.out⟩, Hk6.out⟩
set_option maxRecDepth 20000 in
set_option maxHeartbeats 4000000 in
theorem dwrite_less (x : Nat) (v : Value) (g : Option Nat) (L : List UInt8) (h : DAt w d b kv kp ks vs D) (hr : recB.Rd w v g L) (ho : D.off = false) (ha : D.armed = true) (hg : ∀ k, g = some k → ¬ DS d b kv k) (hl1 : 2 ≤ D.left) (hl2 : D.left ≤ 9223372036854775807) (hx : x < D.kept.length) (hlen : L.length = D.size) (hn : D.pend.length ≤ 90000) (hsz : D.size ≤ 1000000) (hxb : D.kept.length ≤ 1000000) (hwb : D.writes < 1000000000) :
    Calls Tryz.prog 47 #[.pointer (some ⟨d, 0, none⟩), .int .i64 x, v] w fun e w' => e = .returned (.int .i64 0) ∧ (∃ vs', DAt w' d b kv kp ks vs' (D.less.wrote x L)) ∧ Keeps (DS d b kv) w w' := by
  obtain ⟨q, hq⟩ : ∃ q, q = w.heap.size := ⟨_, rfl⟩
  obtain ⟨w1, hw1⟩ : ∃ w1, w1 = w.alloc (.cells #[.int .i64 0] 26) := ⟨_, rfl⟩
  have hk1 : Keeps nowhere w w1 := by rw [hw1]; exact (Keeps.refl nowhere w).alloc _
  have hbx : Blk w1 q 26 #[.int .i64 0] := by rw [hw1, hq]; exact box_new w 0
  have h1 := h.same hk1
  have hon := don_on h1 ho
  have hin := din_any (x : Int) h1
  have hr0 := hr
  obtain ⟨A, c, rfl, -⟩ := hr
  have z0 := h1.cell 0
  have z4 := h1.cell 4
  rw [ha] at z4
  simp at z0 z4
  have hqd : ¬ DS d b kv q := by
    rintro (e | e | e)
    · have := h.box.lt; omega
    · have := h.map.lt; omega
    · have := h.kept.lt q e; omega
  obtain ⟨N, hN⟩ : ∃ N, N = D.kept.length := ⟨_, rfl⟩
  obtain ⟨Z, hZ⟩ : ∃ Z, Z = D.size := ⟨_, rfl⟩
  obtain ⟨n, hL⟩ : ∃ n, n = L.length := ⟨_, rfl⟩
  obtain ⟨P, hP⟩ : ∃ P, P = D.pend.length := ⟨_, rfl⟩
  rw [← hN] at hin hx
  rw [← hZ] at z0 hlen
  rw [← hL] at hlen hr0 ⊢
  rw [← hP] at hn
  have hin2 : (decide ((0 : Int) ≤ (x : Int)) && decide ((x : Int) < (N : Int))) = true := by simp; omega
  rw [hin2] at hin
  have hnz : ((n : Int) != (Z : Int)) = false := by simp; omega
  have hr1 := hr0.same hk1
  have z5 := h1.cell 5
  have g5 := h1.box.frozen 5
  simp at z5
  obtain ⟨w2, hw2⟩ : ∃ w2, w2 = w1.setCell ⟨d, 5, none⟩ (.int .i64 (D.left - 1)) := ⟨_, rfl⟩
  have hk2 : Keeps (only d) w1 w2 := by rw [hw2]; exact (Keeps.refl (only d) w1).setCell (p := ⟨d, 5, none⟩) (fun _ => rfl) _
  have hbd := h1.box.set_ 5 (.int .i64 (D.left - 1))
  rw [← hw2] at hbd
  have h2 : DAt w2 d b kv kp ks vs D.less := h1.turn hk2 (off := D.off) (armed := D.armed) (left := D.left - 1) (kp' := kp) (keep := D.keep) (writes := D.writes) (by simpa using hbd) (h1.keep.keep hk2 (fun b' e hs => by have e2 : b' = d := hs; subst e2; exact row_raw h1.keep (.inr rfl) (h1.notRaw _ (.inl rfl)) e))
  have hb2 := hbx.keep hk2 (fun e => hqd (.inl e))
  have z5b := h2.cell 5
  have z6b := h2.cell 6
  simp only [DiskV.less] at z5b z6b
  simp at z5b z6b
  obtain ⟨F, hF⟩ : ∃ F, F = D.left - 1 := ⟨_, rfl⟩
  rw [← hF] at hw2 z5b
  rw [hw2] at z5b
  have hkW := (hk1.mono (T := DS d b kv) (fun _ _ h => h.elim)).trans hk2 (fun _ _ e => .inl e)
  obtain ⟨G, hG⟩ : ∃ G, G = D.left := ⟨_, rfl⟩
  rw [← hG] at z5
  have hwl : IntKind.i64.wrap (G - 1) = F := by rw [hG, hF]; exact IntWalk.i64_in _ (by omega)
  have hnZ := hlen
  clear hlen
  rw [← hZ] at hsz
  rw [← hN] at hxb
  have hr2 := hr1.keep hk2 (fun k e hs => by have e2 : k = d := hs; subst e2; exact hg _ e (.inl rfl))
  have hF1 : ¬ F < 1 := by omega
  clear hbd
  have H := Lib.hid h
  have H1 := Lib.hid h1
  have Hon := Lib.hid hon
  have Hw1 := Lib.hid hw1
  have Hq := Lib.hid hq
  have Hk1 := Lib.hid hk1
  have Hbx := Lib.hid hbx
  have HN := Lib.hid hN
  have HZ := Lib.hid hZ
  have HL := Lib.hid hL
  have HP := Lib.hid hP
  have Hin := Lib.hid hin
  have Hr0 := Lib.hid hr0
  have Hr1 := Lib.hid hr1
  have Hqd := Lib.hid hqd
  have HkW := Lib.hid hkW
  have HnZ := Lib.hid hnZ
  have Hb2 := Lib.hid hb2
  have Hr2 := Lib.hid hr2
  have Hwb := Lib.hid hwb
  have Hw2 := Lib.hid hw2
  have Hk2 := Lib.hid hk2
  have H2 := Lib.hid h2
  have HF := Lib.hid hF
  have HG := Lib.hid hG
  clear h h1 hon hw1 hq hk1 hbx hN hZ hL hP hin hr0 hr1 hqd hkW hnZ hb2 hr2 hwb hw2 hk2 h2 hF hG
  go_enter_defers Tryz.func47, Tryz.ntmps47
  go_upto_region 2 with fail
  rw [← Hw1.out]
  simp only [← Hq.out]
  go_wp2_with fail
  refine Hon.out.mono ?_
  rintro e w' ⟨rfl, rfl⟩
  go_wp2_with fail
  refine Hin.out.mono ?_
  rintro e w' ⟨rfl, rfl⟩
  go_upto_region 10 with fail
  rw [← Hw2.out]
  have hq2 : ∀ w', Keeps nowhere w2.drew w' → w'.cell? ⟨d, 2, none⟩ = some (.map (some b)) := fun w' hh => by simpa using (H2.out.same ((Keeps.refl nowhere w2).drew.more hh)).cell 2
  have hlen : ∀ w', Keeps nowhere w2.drew w' → (Builtin.len_ #[54] 3 #[.map (some b)]).run Tryz.prog w' = .ok (.int .i64 P) w' := fun w' hh => by
    have := (H2.out.same ((Keeps.refl nowhere w2).drew.more hh)).map.len (t := 54) (e := 33) Tryz.underlying54 3
    rw [ents_len] at this
    rw [HP.out]; exact this
  go_wp2_with fail
  refine wp_region_script [0, 1, 2, 3, 4, 5, 6, 7, 8, 9, 10, 11] [3, 7, 8] [.ps [0, 1, 2], .fs [3], .ps [4, 5, 6], .fs [7], .fs [8], .ps [9, 10, 11], .es [12] true, .es [13] false] (Keeps nowhere w2.drew) rfl (by kernel_rfl) ?_
  refine wpS_ps rfl fun K hK => ?_
  simp only [List.map_cons, List.map_nil, Option.getD_some, List.getElem?_toArray, List.getElem?_cons_zero, List.getElem?_cons_succ]
  iterate 3 (first | (apply quietO_cons _ rfl; (intro w' _; go_simp; rfl)) | apply quietO_skip rfl)
  refine hK _ ?_
  clear hK K
  simp only [Act.put, List.setIfInBounds_toArray, List.set_cons_zero, List.set_cons_succ]
  refine wpS_fs rfl (Keeps.refl _ _) fun K hK => ?_
  simp only [List.map_cons, List.map_nil, Option.getD_some, List.getElem?_toArray, List.getElem?_cons_zero, List.getElem?_cons_succ]
  iterate 1 (first | (apply quietO_cons _ rfl; (intro w' hs; have c_0 := hq2 w' hs; go_simp; rfl)) | apply quietO_skip rfl)
  refine hK _ ?_
  clear hK K
  simp only [Act.put, List.setIfInBounds_toArray, List.set_cons_zero, List.set_cons_succ]
  refine wpS_ps rfl fun K hK => ?_
  simp only [List.map_cons, List.map_nil, Option.getD_some, List.getElem?_toArray, List.getElem?_cons_zero, List.getElem?_cons_succ]
  iterate 3 (first | (apply quietO_cons _ rfl; (intro w' _; go_simp; rfl)) | apply quietO_skip rfl)
  refine hK _ ?_
  clear hK K
  simp only [Act.put, List.setIfInBounds_toArray, List.set_cons_zero, List.set_cons_succ]
  refine wpS_fs rfl (Keeps.refl _ _) fun K hK => ?_
  simp only [List.map_cons, List.map_nil, Option.getD_some, List.getElem?_toArray, List.getElem?_cons_zero, List.getElem?_cons_succ]
  iterate 1 (first | (apply quietO_cons _ rfl; (intro w' hs; have c_0 := hq2 w' hs; go_simp; rfl)) | apply quietO_skip rfl)
  refine hK _ ?_
  clear hK K
  simp only [Act.put, List.setIfInBounds_toArray, List.set_cons_zero, List.set_cons_succ]
  refine wpS_fs rfl (Keeps.refl _ _) fun K hK => ?_
  simp only [List.map_cons, List.map_nil, Option.getD_some, List.getElem?_toArray, List.getElem?_cons_zero, List.getElem?_cons_succ]
  iterate 1 (first | (apply quietO_cons _ rfl; (intro w' hs; have c_0 := hlen w' hs; go_simp; rfl)) | apply quietO_skip rfl)
  refine hK _ ?_
  clear hK K
  simp only [Act.put, List.setIfInBounds_toArray, List.set_cons_zero, List.set_cons_succ]
  refine wpS_ps rfl fun K hK => ?_
  simp only [List.map_cons, List.map_nil, Option.getD_some, List.getElem?_toArray, List.getElem?_cons_zero, List.getElem?_cons_succ]
  iterate 3 (first | (apply quietO_cons _ rfl; (intro w' _; go_simp; rfl)) | apply quietO_skip rfl)
  refine hK _ ?_
  clear hK K
  simp only [Act.put, List.setIfInBounds_toArray, List.set_cons_zero, List.set_cons_succ]
  clear hq2 hlen
  refine wpS_es rfl fun K hK => ?_
  have HK := Lib.hid hK
  clear hK
  simp only [List.map_cons, List.map_nil, Option.getD_some, List.getElem?_toArray, List.getElem?_cons_zero, List.getElem?_cons_succ]
  go_wp2_with fail
  have hkd := (Keeps.refl nowhere w2).drew
  refine (clB_any _ _ L w2.drew (Hr2.out.same hkd) (by have := HL.out; have := HnZ.out; omega)).mono ?_
  rintro e w3 ⟨v', rfl, hrow, hab, hk3⟩
  have hd3 := H2.out.same (hkd.more hk3)
  have hb3 := Hb2.out.keep (hkd.more hk3) (fun h => h)
  obtain ⟨w4, hput, hm4, hk4⟩ := hd3.map.put (t := 54) (e := 33) Tryz.underlying54 (x := ((P : Int), (x : Int))) ⟨wfI_nat P (by omega), wfI_nat x (by omega)⟩ v' (by rw [ents_len]; have := HP.out; show D.pend.length < 1000000; omega)
  have hrow4 := hrow.keep hk4 (fun b' e hs => by have e2 : b' = b := hs; subst e2; exact row_raw hrow (.inl rfl) (hd3.notRaw _ (.inr (.inl rfl))) e)
  rw [HP.out] at hm4
  have hd4 := hd3.more hk4 hm4 hrow4 (show L.length = D.size by rw [← HL.out, ← HZ.out]; exact HnZ.out) (by have := HN.out; show x < D.kept.length; omega)
  have hb4 := hb3.keep hk4 (fun e => Hqd.out (.inr (.inl e)))
  have hput2 : (Instr.mapUpdate 54 (.map (some b)) (.agg #[.int .i64 (P : Int), .int .i64 (x : Int)]) v').run Tryz.prog w3 = .ok () w4 := hput
  have hkz := (hkd.more hk3)
  have hk14 : Keeps (DS d b kv) w2 w4 := (hkz.mono (T := DS d b kv) (fun _ _ h => h.elim)).trans hk4 (fun _ _ e => .inr (.inl e))
  clear hput hm4 hrow4 hd3 hb3 hrow hab
  have Hd4 := Lib.hid hd4
  have Hb4 := Lib.hid hb4
  have Hkz := Lib.hid hkz
  have Hk4 := Lib.hid hk4
  have Hk14 := Lib.hid hk14
  clear hd4 hb4 hkz hk4 hk14
  go_wp2_with fail
  refine HK.out _ _ (fun _ => hk3) ?_
  clear HK K
  refine wpS_es rfl fun K hK => ?_
  have HK := Lib.hid hK
  clear hK
  simp only [List.map_cons, List.map_nil, Option.getD_some, List.getElem?_toArray, List.getElem?_cons_zero, List.getElem?_cons_succ]
  go_wp2_with fail
  clear hput2
  go_wp2_with fail
  refine HK.out _ _ (fun h => by cases h) ?_
  clear HK K
  refine wpS_nil ?_
  have c7 := Hd4.out.cell 7
  have f7 := Hd4.out.box.frozen 7
  simp at c7
  have hwr : IntKind.i64.wrap (((D.less).writes : Int) + 1) = ((D.less).writes : Int) + 1 := IntWalk.i64_in _ (by have := Hwb.out; have e9 : (D.less).writes = D.writes := rfl; omega)
  obtain ⟨w5, hw5⟩ : ∃ w5, w5 = w4.setCell ⟨d, 7, none⟩ (.int .i64 (((D.less).writes : Int) + 1)) := ⟨_, rfl⟩
  have hk5 : Keeps (only d) w4 w5 := by rw [hw5]; exact (Keeps.refl (only d) w4).setCell (p := ⟨d, 7, none⟩) (fun _ => rfl) _
  have hbd := Hd4.out.box.set_ 7 (.int .i64 (((D.less).writes : Int) + 1))
  rw [← hw5] at hbd
  have hd5 := Hd4.out.turn hk5 (off := (D.less).off) (armed := (D.less).armed) (left := (D.less).left) (kp' := kp) (keep := (D.less).keep) (writes := (D.less).writes + 1) (by simpa using hbd) (Hd4.out.keep.keep hk5 (fun b' e hs => by have e2 : b' = d := hs; subst e2; exact row_raw Hd4.out.keep (.inr rfl) (Hd4.out.notRaw _ (.inl rfl)) e))
  have hb5 := Hb4.out.keep hk5 (fun e => Hqd.out (.inl e))
  have c0 := hb5.cell 0
  have f0 := hb5.frozen 0
  simp at c0
  have hd6 := DAt.boxed hd5 hb5 rfl Hqd.out (.int .i64 0)
  have hb6 := (hb5.set_ 0 (.int .i64 0)).cell 0
  simp at hb6
  have hk6 : Keeps (DS d b kv) w (w5.setCell ⟨q, 0, none⟩ (.int .i64 0)) := ((HkW.out.trans Hk14.out (fun _ _ h => h)).trans hk5 (fun _ _ e => .inl e)).setCell (p := ⟨q, 0, none⟩) (fun hlt => by have := Hq.out; simp at hlt; omega) _
  clear hd5 hb5 hbd hk5
  rw [hw5] at c0 f0
  have Hd6 := Lib.hid hd6
  have Hk6 := Lib.hid hk6
  have Hw5 := Lib.hid hw5
  clear hd6 hk6 hw5
  go_wp2_with fail
  rw [← Hw5.out]
  refine leaves_cons (f := 53) (args := #[.pointer (some ⟨q, 0, none⟩)]) (by simp) (by simp [go_sem]) ?_
  refine (dcaught_idle q _).mono ?_
  rintro e u' w'' ⟨rfl, rfl, rfl⟩
  simp [Leaves, settle, results, Tryz.results47, go_sem, hb6]
  exact ⟨⟨_, Hd6.out⟩, Hk6.out⟩
set_option maxRecDepth 20000 in
set_option maxHeartbeats 4000000 in
theorem dwrite_cut (x : Nat) (v : Value) (g : Option Nat) (L : List UInt8) (h : DAt w d b kv kp ks vs D) (hr : recB.Rd w v g L) (ho : D.off = false) (ha : D.armed = true) (hl1 : D.left = 1) (hx : x < D.kept.length) (hlen : L.length = D.size) (hn : D.pend.length ≤ 90000) (hsz : D.size ≤ 1000000) (hxb : D.kept.length ≤ 1000000) (hwb : D.writes < 1000000000) :
    Calls Tryz.prog 47 #[.pointer (some ⟨d, 0, none⟩), .int .i64 x, v] w fun e w' => e = .returned (.int .i64 22) ∧ ∃ b', w.heap.size ≤ b' ∧ (∃ ks', DAt w' d b' kv (.slice none 0 0) ks' [] (D.less.cut D.keep)) ∧ Keeps (DS d b kv) w w' := by
  obtain ⟨q, hq⟩ : ∃ q, q = w.heap.size := ⟨_, rfl⟩
  obtain ⟨w1, hw1⟩ : ∃ w1, w1 = w.alloc (.cells #[.int .i64 0] 26) := ⟨_, rfl⟩
  have hk1 : Keeps nowhere w w1 := by rw [hw1]; exact (Keeps.refl nowhere w).alloc _
  have hbx : Blk w1 q 26 #[.int .i64 0] := by rw [hw1, hq]; exact box_new w 0
  have h1 := h.same hk1
  have hon := don_on h1 ho
  have hin := din_any (x : Int) h1
  have hr0 := hr
  obtain ⟨A, c, rfl, -⟩ := hr
  have z0 := h1.cell 0
  have z4 := h1.cell 4
  rw [ha] at z4
  simp at z0 z4
  have hqd : ¬ DS d b kv q := by
    rintro (e | e | e)
    · have := h.box.lt; omega
    · have := h.map.lt; omega
    · have := h.kept.lt q e; omega
  obtain ⟨N, hN⟩ : ∃ N, N = D.kept.length := ⟨_, rfl⟩
  obtain ⟨Z, hZ⟩ : ∃ Z, Z = D.size := ⟨_, rfl⟩
  obtain ⟨n, hL⟩ : ∃ n, n = L.length := ⟨_, rfl⟩
  obtain ⟨P, hP⟩ : ∃ P, P = D.pend.length := ⟨_, rfl⟩
  rw [← hN] at hin hx
  rw [← hZ] at z0 hlen
  rw [← hL] at hlen hr0 ⊢
  rw [← hP] at hn
  have hin2 : (decide ((0 : Int) ≤ (x : Int)) && decide ((x : Int) < (N : Int))) = true := by simp; omega
  rw [hin2] at hin
  have hnz : ((n : Int) != (Z : Int)) = false := by simp; omega
  have hr1 := hr0.same hk1
  have z5 := h1.cell 5
  have g5 := h1.box.frozen 5
  simp at z5
  obtain ⟨w2, hw2⟩ : ∃ w2, w2 = w1.setCell ⟨d, 5, none⟩ (.int .i64 (D.left - 1)) := ⟨_, rfl⟩
  have hk2 : Keeps (only d) w1 w2 := by rw [hw2]; exact (Keeps.refl (only d) w1).setCell (p := ⟨d, 5, none⟩) (fun _ => rfl) _
  have hbd := h1.box.set_ 5 (.int .i64 (D.left - 1))
  rw [← hw2] at hbd
  have h2 : DAt w2 d b kv kp ks vs D.less := h1.turn hk2 (off := D.off) (armed := D.armed) (left := D.left - 1) (kp' := kp) (keep := D.keep) (writes := D.writes) (by simpa using hbd) (h1.keep.keep hk2 (fun b' e hs => by have e2 : b' = d := hs; subst e2; exact row_raw h1.keep (.inr rfl) (h1.notRaw _ (.inl rfl)) e))
  have hb2 := hbx.keep hk2 (fun e => hqd (.inl e))
  have z5b := h2.cell 5
  have z6b := h2.cell 6
  simp only [DiskV.less] at z5b z6b
  simp at z5b z6b
  obtain ⟨F, hF⟩ : ∃ F, F = D.left - 1 := ⟨_, rfl⟩
  rw [← hF] at hw2 z5b
  rw [hw2] at z5b
  have hkW := (hk1.mono (T := DS d b kv) (fun _ _ h => h.elim)).trans hk2 (fun _ _ e => .inl e)
  obtain ⟨G, hG⟩ : ∃ G, G = D.left := ⟨_, rfl⟩
  rw [← hG] at z5
  have hwl : IntKind.i64.wrap (G - 1) = F := by rw [hG, hF]; exact IntWalk.i64_in _ (by omega)
  have hnZ := hlen
  clear hlen
  rw [← hZ] at hsz
  rw [← hN] at hxb
  have hF1 : F < 1 := by omega
  have hkg : ∀ k, kp.ownBlock = some k → ¬ DS d b kv k := fun k e hk => row_raw h2.keep (.inr rfl) (h2.notRaw k hk) e
  have hcut := dcut_any kp _ D.keep h2 h2.keep.rd hkg (show D.pend.length ≤ 90000 by omega)
  clear hbd
  rw [hw2] at z6b
  have H := Lib.hid h
  have H1 := Lib.hid h1
  have Hon := Lib.hid hon
  have Hw1 := Lib.hid hw1
  have Hq := Lib.hid hq
  have Hk1 := Lib.hid hk1
  have Hbx := Lib.hid hbx
  have HN := Lib.hid hN
  have HZ := Lib.hid hZ
  have HL := Lib.hid hL
  have HP := Lib.hid hP
  have Hin := Lib.hid hin
  have Hr0 := Lib.hid hr0
  have Hr1 := Lib.hid hr1
  have Hqd := Lib.hid hqd
  have HkW := Lib.hid hkW
  have HnZ := Lib.hid hnZ
  have Hb2 := Lib.hid hb2
  have Hwb := Lib.hid hwb
  have Hw2 := Lib.hid hw2
  have Hk2 := Lib.hid hk2
  have H2 := Lib.hid h2
  have HF := Lib.hid hF
  have HG := Lib.hid hG
  have Hcut := Lib.hid hcut
  clear h h1 hon hw1 hq hk1 hbx hN hZ hL hP hin hr0 hr1 hqd hkW hnZ hb2 hwb hw2 hk2 h2 hF hG hcut
  go_enter_defers Tryz.func47, Tryz.ntmps47
  go_upto_region 2 with fail
  rw [← Hw1.out]
  simp only [← Hq.out]
  go_wp2_with fail
  refine Hon.out.mono ?_
  rintro e w' ⟨rfl, rfl⟩
  go_wp2_with fail
  refine Hin.out.mono ?_
  rintro e w' ⟨rfl, rfl⟩
  go_wp2_with fail
  rw [← Hw2.out]
  refine Hcut.out.mono ?_
  rintro e w3 ⟨rfl, b', hb', ⟨ks', hd⟩, hk3⟩
  have hb3 := Hb2.out.keep hk3 Hqd.out
  have c0 := hb3.cell 0
  have f0 := hb3.frozen 0
  simp at c0
  have hqd' : ¬ DS d b' kv q := by
    rintro (e | e | e)
    · exact Hqd.out (.inl e)
    · have := Hb2.out.lt; omega
    · exact Hqd.out (.inr (.inr e))
  have hd6 := DAt.boxed hd hb3 rfl hqd' (.int .i64 22)
  have hb6 := (hb3.set_ 0 (.int .i64 22)).cell 0
  simp at hb6
  have hk6 : Keeps (DS d b kv) w (w3.setCell ⟨q, 0, none⟩ (.int .i64 22)) := (HkW.out.trans hk3 (fun _ _ h => h)).setCell (p := ⟨q, 0, none⟩) (fun hlt => by have := Hq.out; simp at hlt; omega) _
  have hsz6 : w.heap.size ≤ b' := Nat.le_trans HkW.out.size hb'
  clear hd hb3 hk3
  have Hd6 := Lib.hid hd6
  have Hk6 := Lib.hid hk6
  have Hsz6 := Lib.hid hsz6
  clear hd6 hk6 hsz6
  go_wp2_with fail
  refine leaves_cons (f := 53) (args := #[.pointer (some ⟨q, 0, none⟩)]) (by simp) (by simp [go_sem]) ?_
  refine (dcaught_idle q _).mono ?_
  rintro e u' w'' ⟨rfl, rfl, rfl⟩
  simp [Leaves, settle, results, Tryz.results47, go_sem, hb6]
  exact ⟨b', Hsz6.out, ⟨ks', Hd6.out⟩, Hk6.out⟩
end
end Go.Proofs.YtnddaildicmneaaGreat
/-
  disk: Read.
-/
namespace Go.Proofs.YtnddaildicmneaaGreat
open Go.Proofs Go.RowKit Go.Sort Go.Maps

set_option maxRecDepth 8000 in
theorem clipB_any (v : Value) (l : List UInt8) (w : World) (hr : recB.Row w v l) : Calls Tryz.prog 37 #[v] w fun e w' => ∃ v' gb, e = .returned v' ∧ recB.Rd w' v' gb l ∧ (∀ b, gb = some b → v.ownBlock = some b) ∧ w' = w := by
  have hrd := hr.rd
  obtain ⟨A, c, rfl, h1, h2, h4⟩ := hr.form
  have hRd : recB.Rd w (.slice A l.length l.length) (Value.ownBlock (.slice A l.length c)) l := by
    obtain ⟨A', c', hv, k1, k2, k3, k4, k5⟩ := hrd
    injection hv with e1 e2 e3
    subst e1 e3
    exact ⟨A, _, rfl, Nat.le_refl _, Nat.le_trans k1 k2, k3, k4, fun h => by have := k5 h; omega⟩
  have h1' : (l.length : Int) ≤ c := by omega
  clear h4
  obtain ⟨L, hL⟩ : ∃ L, L = l.length := ⟨_, rfl⟩
  rw [← hL] at hRd h1' h1 ⊢
  have Hr := Lib.hid hr
  have Hrd := Lib.hid hrd
  have HRd := Lib.hid hRd
  have HL := Lib.hid hL
  clear hr hrd hRd hL
  go_enter Tryz.func37, Tryz.ntmps37
  go_wp2_with fail
  go_ret
  exact ⟨_, _, rfl, HRd.out, fun b hb => hb, rfl⟩

/-- what a sector reads as behind the first `i` pending writes -/
def readN (pd : List (Nat × List UInt8)) (k : List (List UInt8)) (s : Nat) : Nat → List UInt8
  | 0 => (k[s]?).getD []
  | i + 1 => match pd[i]? with
    | some p => if p.1 = s then p.2 else readN pd k s i
    | none => readN pd k s i
def DiskV.read (D : DiskV) (s : Nat) : List UInt8 := readN D.pend D.kept s D.pend.length
section
variable {w : World} {d b : Nat} {kv kp : Value} {ks : List SlV} {vs : List Value} {D : DiskV}
set_option maxHeartbeats 2000000 in
theorem dread_off (s : Int) (h : DAt w d b kv kp ks vs D) (ho : D.off = true) : Calls Tryz.prog 35 #[.pointer (some ⟨d, 0, none⟩), .int .i64 s] w fun e w' => e = .returned (.tuple #[.slice none 0 0, .int .i64 22]) ∧ Keeps nowhere w w' := by
  obtain ⟨q, hq⟩ : ∃ q, q = w.heap.size := ⟨_, rfl⟩
  obtain ⟨w1, hw1⟩ : ∃ w1, w1 = w.alloc (.cells #[.int .i64 0] 26) := ⟨_, rfl⟩
  have hk1 : Keeps nowhere w w1 := by rw [hw1]; exact (Keeps.refl nowhere w).alloc _
  have hbx : Blk w1 q 26 #[.int .i64 0] := by rw [hw1, hq]; exact box_new w 0
  have hon := don_off (h.same hk1) ho
  have hk2 : Keeps nowhere w (w1.setCell ⟨q, 0, none⟩ (.int .i64 22)) := hk1.setCell (p := ⟨q, 0, none⟩) (fun hlt => by simp at hlt; omega) _
  have hb2 := (hbx.set_ 0 (.int .i64 22)).cell 0
  simp at hb2
  have H := Lib.hid h
  have Hon := Lib.hid hon
  have Hw1 := Lib.hid hw1
  have Hq := Lib.hid hq
  have Hk1 := Lib.hid hk1
  have Hbx := Lib.hid hbx
  have Hk2 := Lib.hid hk2
  clear h hon hw1 hq hk1 hbx hk2
  go_enter_defers Tryz.func35, Tryz.ntmps35
  go_upto_region 2 with fail
  rw [← Hw1.out]
  simp only [← Hq.out]
  go_wp2_with fail
  refine Hon.out.mono ?_
  rintro e w' ⟨rfl, rfl⟩
  refine leaves_cons (f := 53) (args := #[.pointer (some ⟨q, 0, none⟩)]) (by simp) (by simp [go_sem]) ?_
  refine (dcaught_panic q 22 _ [] w1 Hbx.out).mono ?_
  rintro e u' w'' ⟨rfl, rfl, rfl⟩
  simp [Leaves, settle, results, Tryz.results35, go_sem, hb2]
  exact Hk2.out
set_option maxHeartbeats 2000000 in
theorem dread_arg (s : Int) (h : DAt w d b kv kp ks vs D) (ho : D.off = false) (hs : ¬ (0 ≤ s ∧ s < D.kept.length)) : Calls Tryz.prog 35 #[.pointer (some ⟨d, 0, none⟩), .int .i64 s] w fun e w' => e = .returned (.tuple #[.slice none 0 0, .int .i64 1]) ∧ Keeps nowhere w w' := by
  obtain ⟨q, hq⟩ : ∃ q, q = w.heap.size := ⟨_, rfl⟩
  obtain ⟨w1, hw1⟩ : ∃ w1, w1 = w.alloc (.cells #[.int .i64 0] 26) := ⟨_, rfl⟩
  have hk1 : Keeps nowhere w w1 := by rw [hw1]; exact (Keeps.refl nowhere w).alloc _
  have hbx : Blk w1 q 26 #[.int .i64 0] := by rw [hw1, hq]; exact box_new w 0
  have h1 := h.same hk1
  have hon := don_on h1 ho
  have hin := din_any s h1
  rw [show (decide (0 ≤ s) && decide (s < (D.kept.length : Int))) = false by simp; omega] at hin
  have c0 := hbx.cell 0
  have f0 := hbx.frozen 0
  simp at c0
  have hk2 : Keeps nowhere w (w1.setCell ⟨q, 0, none⟩ (.int .i64 1)) := hk1.setCell (p := ⟨q, 0, none⟩) (fun hlt => by simp at hlt; omega) _
  have hb2 := (hbx.set_ 0 (.int .i64 1)).cell 0
  simp at hb2
  have H := Lib.hid h
  have H1 := Lib.hid h1
  have Hon := Lib.hid hon
  have Hin := Lib.hid hin
  have Hw1 := Lib.hid hw1
  have Hq := Lib.hid hq
  have Hk1 := Lib.hid hk1
  have Hbx := Lib.hid hbx
  have Hk2 := Lib.hid hk2
  have Hs := Lib.hid hs
  clear h h1 hon hin hw1 hq hk1 hbx hk2 hs
  go_enter_defers Tryz.func35, Tryz.ntmps35
  go_upto_region 2 with fail
  rw [← Hw1.out]
  simp only [← Hq.out]
  go_wp2_with fail
  refine Hon.out.mono ?_
  rintro e w' ⟨rfl, rfl⟩
  go_wp2_with fail
  refine Hin.out.mono ?_
  rintro e w' ⟨rfl, rfl⟩
  go_wp2_with fail
  refine leaves_cons (f := 53) (args := #[.pointer (some ⟨q, 0, none⟩)]) (by simp) (by simp [go_sem]) ?_
  refine (dcaught_idle q _).mono ?_
  rintro e u' w'' ⟨rfl, rfl, rfl⟩
  simp [Leaves, settle, results, Tryz.results35, go_sem, hb2]
  exact Hk2.out
theorem read_len (h : DAt w d b kv kp ks vs D) {s : Nat} (hs : s < D.kept.length) : ∀ i, (readN D.pend D.kept s i).length = D.size
  | 0 => by
    obtain ⟨sl, hsl⟩ : ∃ sl, ks[s]? = some sl := ⟨_, List.getElem?_eq_getElem (by rw [h.klen]; exact hs)⟩
    have hL := List.getElem?_eq_getElem hs
    rw [readN, hL]
    exact (h.sec s sl _ hsl hL).2
  | i + 1 => by
    rw [readN]
    cases hp : D.pend[i]? with
    | none => exact read_len h hs i
    | some p =>
      simp only
      split
      · obtain ⟨sl, hsl⟩ := pend_sl h hp
        exact (h.pb i p _ hp hsl).2.1
      · exact read_len h hs i
set_option maxRecDepth 20000 in
set_option maxHeartbeats 8000000 in
theorem dread_ok (s : Nat) (h : DAt w d b kv kp ks vs D) (ho : D.off = false) (hs : s < D.kept.length) (hn : D.pend.length ≤ 90000) (hsz : D.size ≤ 1000000) (hkb : D.kept.length ≤ 1000000) :
    Calls Tryz.prog 35 #[.pointer (some ⟨d, 0, none⟩), .int .i64 s] w fun e w' => ∃ v g, e = .returned (.tuple #[v, .int .i64 0]) ∧ recB.Rd w' v g (D.read s) ∧ Above w.heap.size g ∧ Keeps nowhere w w' := by
  obtain ⟨q, hq⟩ : ∃ q, q = w.heap.size := ⟨_, rfl⟩
  obtain ⟨w1, hw1⟩ : ∃ w1, w1 = w.alloc (.cells #[.int .i64 0] 26) := ⟨_, rfl⟩
  have hk1 : Keeps nowhere w w1 := by rw [hw1]; exact (Keeps.refl nowhere w).alloc _
  have hbx : Blk w1 q 26 #[.int .i64 0] := by rw [hw1, hq]; exact box_new w 0
  have h1 := h.same hk1
  have hon := don_on h1 ho
  have hin := din_any (s : Int) h1
  rw [show (decide ((0 : Int) ≤ (s : Int)) && decide ((s : Int) < (D.kept.length : Int))) = true by simp; omega] at hin
  obtain ⟨A, c, hkv, hKc, hcm, -⟩ := h.kept.form
  unfold maxLen at hcm
  rw [h.klen] at hkv hKc
  obtain ⟨N, hN⟩ : ∃ N, N = D.kept.length := ⟨_, rfl⟩
  obtain ⟨n, hnn⟩ : ∃ n, n = D.pend.length := ⟨_, rfl⟩
  rw [← hN] at hkv hs hKc hkb
  rw [← hnn] at hn
  subst hkv
  obtain ⟨sl, hsl⟩ : ∃ sl, ks[s]? = some sl := ⟨_, List.getElem?_eq_getElem (by rw [h.klen, ← hN]; exact hs)⟩
  obtain ⟨L0, hL0⟩ : ∃ L, D.kept[s]? = some L := ⟨_, List.getElem?_eq_getElem (by rw [← hN]; exact hs)⟩
  have hsec := (h1.sec s sl L0 hsl hL0).1
  obtain ⟨bk, hbk, ck⟩ : ∃ bk, A = some ⟨bk, 0, none⟩ ∧ w1.cell? ⟨bk, s, none⟩ = some (.slice sl.1 sl.2.1 sl.2.2) := by
    rcases h1.kept.blk with ⟨hv0, h0⟩ | ⟨bk, cap, rest, hvk, hb, h2, h3, h4⟩
    · rw [h0] at hsl; simp at hsl
    · injection hvk with e1 e2 e3
      subst e1
      obtain ⟨A', c', hv', -, -, -, h5, -⟩ := h1.kept.rd
      obtain ⟨b2, o2, hA2, -, hc2⟩ := h5 (by rw [h.klen, ← hN]; omega)
      injection hv' with e4 e5 e6
      rw [← e4] at hA2
      injection hA2 with hA2
      injection hA2 with hA2 hA3
      subst hA2 hA3
      have := hc2 s sl hsl 0 (by decide)
      rw [Nat.zero_add, Nat.add_zero, show s * recS.n = s from Nat.mul_one s] at this
      exact ⟨bk, rfl, this⟩
  subst hbk
  have hs0 : (0 : Int) ≤ (s : Int) := by omega
  have hsI : (s : Int) < N := by omega
  have hrow := prow_any w1 d b n (secF D.pend) (ents D.pend vs) (by simpa using h1.cell 2) h1.map (by rw [hnn]; exact ents_fst _ _) (by omega)
  have c1 := h1.cell 1
  simp at c1
  have hr0 : readN D.pend D.kept s 0 = L0 := by rw [readN, hL0]; rfl
  have H := Lib.hid h
  have H1 := Lib.hid h1
  have Hon := Lib.hid hon
  have Hin := Lib.hid hin
  have Hw1 := Lib.hid hw1
  have Hq := Lib.hid hq
  have Hk1 := Lib.hid hk1
  have Hbx := Lib.hid hbx
  have HN := Lib.hid hN
  have Hnn := Lib.hid hnn
  have Hrow := Lib.hid hrow
  have Hsl := Lib.hid hsl
  have HL0 := Lib.hid hL0
  have Hsec := Lib.hid hsec
  have Hr0 := Lib.hid hr0
  clear h h1 hon hin hw1 hq hk1 hbx hN hnn hrow hsl hL0 hsec hr0
  go_enter_defers Tryz.func35, Tryz.ntmps35
  go_upto_region 2 with fail
  rw [← Hw1.out]
  simp only [← Hq.out]
  go_wp2_with fail
  refine Hon.out.mono ?_
  rintro e w' ⟨rfl, rfl⟩
  go_wp2_with fail
  refine Hin.out.mono ?_
  rintro e w' ⟨rfl, rfl⟩
  go_wp2_with fail
  refine Hrow.out.mono ?_
  rintro e w2 ⟨v, rfl, hpr, hab, hk2⟩
  obtain ⟨A1, c9, rfl, -⟩ := hpr.form
  rw [List.length_map, List.length_range] at hpr hab ⊢
  have h2 := H1.out.same hk2
  have hsec2 := Hsec.out.same hk2
  rw [← Hr0.out] at hsec2
  clear ck c1
  have Hpr := Lib.hid hpr
  have Hab := Lib.hid hab
  have Hk2 := Lib.hid hk2
  have H2 := Lib.hid h2
  have Hsec2 := Lib.hid hsec2
  clear hpr hab hk2 h2 hsec2
  go_wp2_with fail
  go_loopw [6, 25] (fun vb iv wr => ∃ i : Nat, iv = .int .i64 i ∧ i ≤ n ∧ recB.Row wr vb (readN D.pend D.kept s i) ∧ Keeps nowhere w2 wr) (fun _ iv _ => n - (intOf iv).toNat)
  case atStart => exact ⟨0, rfl, Nat.zero_le _, Hsec2.out, Keeps.refl _ _⟩
  case round =>
    obtain ⟨i, rfl, hi, hvb, hkx⟩ := hrel
    obtain ⟨Ab, cb, rfl, -⟩ := hvb.form
    obtain ⟨Lb, hLb⟩ : ∃ Lb, Lb = (readN D.pend D.kept s i).length := ⟨_, rfl⟩
    rw [← hLb] at hvb ⊢
    by_cases hlt : i < n
    · have hltI : (i : Int) < n := by omega
      have hi0 : (0 : Int) ≤ (i : Int) := by omega
      have hi1 : IntKind.i64.wrap ((i : Int) + 1) = i + 1 := IntWalk.i64_in _ (by omega)
      obtain ⟨⟨x, L⟩, hp⟩ : ∃ p, D.pend[i]? = some p := ⟨_, List.getElem?_eq_getElem (by rw [← Hnn.out]; exact hlt)⟩
      have hd := H2.out.same hkx
      obtain ⟨sp, hsp⟩ := pend_sl hd hp
      have hpv := hd.pb i _ _ hp hsp
      have hpl : ((List.range n).map (plc (secF D.pend)))[i]? = some ((i : Int), (x : Int)) := by
        rw [List.getElem?_map, List.getElem?_range hlt]
        simp [plc, secF, hp]
      obtain ⟨A', cp, hv', -, -, hu, h3, -⟩ := (Hpr.out.same hkx).rd
      injection hv' with e1 e2 e3
      clear e2 e3
      subst e1
      obtain ⟨bp, op, rfl, hgp, hcp⟩ := h3 (by rw [List.length_map, List.length_range]; omega)
      have hc := hcp i _ hpl
      have d0 := hc 0 (by decide)
      have d1 := hc 1 (by decide)
      rw [Nat.add_zero] at d0
      rw [show i * recP.n = i * 2 from rfl] at d0 d1
      simp only [recP, List.getElem?_cons_zero, List.getElem?_cons_succ] at d0 d1
      obtain ⟨W, hW⟩ : ∃ W, W = wr.alloc (.cells #[.int .i64 (i : Int), .int .i64 (x : Int)] 93) := ⟨_, rfl⟩
      obtain ⟨q2, hq2⟩ : ∃ q2, q2 = wr.heap.size := ⟨_, rfl⟩
      have hkW : Keeps nowhere wr W := by rw [hW]; exact (Keeps.refl nowhere wr).alloc _
      have hbx2 : Blk W q2 93 #[.int .i64 (i : Int), .int .i64 (x : Int)] := by rw [hW, hq2]; exact Blk.new _ _ _
      have hdW := hd.same hkW
      have hkxW := hkx.more hkW
      have hvbW := hvb.same hkW
      have hpvW := hpv.1.same hkW
      clear hcp hc h3 hu hpl hgp hd hpv
      have Hkx := Lib.hid hkx
      have Hp := Lib.hid hp
      have Hsp := Lib.hid hsp
      have HW := Lib.hid hW
      have Hq2 := Lib.hid hq2
      have Hbx2 := Lib.hid hbx2
      have HdW := Lib.hid hdW
      have HkxW := Lib.hid hkxW
      have HvbW := Lib.hid hvbW
      have HpvW := Lib.hid hpvW
      have HkW := Lib.hid hkW
      have Hvb := Lib.hid hvb
      have HLb := Lib.hid hLb
      clear hkx hp hsp hW hq2 hbx2 hdW hkxW hvbW hpvW hkW hvb hLb
      go_upto_region 9 with fail
      rw [← HW.out]
      simp only [← Hq2.out]
      clear d0 d1 HW
      have d1 := Hbx2.out.cell 1
      simp at d1
      by_cases hxs : x = s
      · have hxI : ((x : Int) == (s : Int)) = true := by simp [hxs]
        have hstep : readN D.pend D.kept s (i + 1) = L := by rw [readN, Hp.out]; simp only; rw [if_pos hxs]
        have hm2 : ∀ w', Keeps nowhere W.drew w' → w'.cell? ⟨d, 2, none⟩ = some (.map (some b)) := fun w' hh => by simpa using (HdW.out.same ((Keeps.refl nowhere W).drew.more hh)).cell 2
        have hb0 : ∀ w', Keeps nowhere W.drew w' → w'.cell? ⟨q2, 0, none⟩ = some (.int .i64 (i : Int)) := fun w' hh => by simpa using (Blk.keep Hbx2.out ((Keeps.refl nowhere W).drew.more hh) (fun h => h)).cell 0
        have hb1 : ∀ w', Keeps nowhere W.drew w' → w'.cell? ⟨q2, 1, none⟩ = some (.int .i64 (x : Int)) := fun w' hh => by simpa using (Blk.keep Hbx2.out ((Keeps.refl nowhere W).drew.more hh) (fun h => h)).cell 1
        have hlk : ∀ w', Keeps nowhere W.drew w' → (Instr.lookup 54 (.map (some b)) (.agg #[.int .i64 (i : Int), .int .i64 (x : Int)]) false).run Tryz.prog w' = .ok (.slice sp.1 sp.2.1 sp.2.2) w' := fun w' hh => by
          have hdw := HdW.out.same ((Keeps.refl nowhere W).drew.more hh)
          have := hdw.map.look (K := keyP) (t := 54) (e := 33) Tryz.underlying54 (z := .slice none 0 0) (by kernel_rfl) (x := ((i : Int), (x : Int))) ⟨wfI_nat i (by omega), wfI_nat x (by omega)⟩
          rw [hdw.ent Hp.out Hsp.out] at this
          exact this
        have hpv3 := HpvW.out
        unfold SlV.v at hpv3
        rw [← hstep] at hpv3
        have Hxs := Lib.hid hxs
        have Hstep := Lib.hid hstep
        have Hpv3 := Lib.hid hpv3
        clear hxs hstep hpv3
        go_wp2_with fail
        refine wp_region_script [0, 1, 2, 3, 4, 5, 6] [3, 4, 5] [.ps [0, 1, 2], .fs [3], .fs [4], .fs [5], .ps [6]] (Keeps nowhere W.drew) rfl (by kernel_rfl) ?_
        refine wpS_ps rfl fun K hK => ?_
        simp only [List.map_cons, List.map_nil, Option.getD_some, List.getElem?_toArray, List.getElem?_cons_zero, List.getElem?_cons_succ]
        iterate 3 (first | (apply quietO_cons _ rfl; (intro w' _; go_simp; rfl)) | apply quietO_skip rfl)
        refine hK _ ?_
        clear hK K
        simp only [Act.put, List.setIfInBounds_toArray, List.set_cons_zero, List.set_cons_succ]
        refine wpS_fs rfl (Keeps.refl _ _) fun K hK => ?_
        simp only [List.map_cons, List.map_nil, Option.getD_some, List.getElem?_toArray, List.getElem?_cons_zero, List.getElem?_cons_succ]
        iterate 1 (first | (apply quietO_cons _ rfl; (intro w' hs; have c_0 := hm2 w' hs; go_simp; rfl)) | apply quietO_skip rfl)
        refine hK _ ?_
        clear hK K
        simp only [Act.put, List.setIfInBounds_toArray, List.set_cons_zero, List.set_cons_succ]
        refine wpS_fs rfl (Keeps.refl _ _) fun K hK => ?_
        simp only [List.map_cons, List.map_nil, Option.getD_some, List.getElem?_toArray, List.getElem?_cons_zero, List.getElem?_cons_succ]
        iterate 1 (first | (apply quietO_cons _ rfl; (intro w' hs; have c_0 := hb0 w' hs; have c_1 := hb1 w' hs; go_simp; rfl)) | apply quietO_skip rfl)
        refine hK _ ?_
        clear hK K
        simp only [Act.put, List.setIfInBounds_toArray, List.set_cons_zero, List.set_cons_succ]
        refine wpS_fs rfl (Keeps.refl _ _) fun K hK => ?_
        simp only [List.map_cons, List.map_nil, Option.getD_some, List.getElem?_toArray, List.getElem?_cons_zero, List.getElem?_cons_succ]
        iterate 1 (first | (apply quietO_cons _ rfl; (intro w' hs; have c_0 := hlk w' hs; go_simp; rfl)) | apply quietO_skip rfl)
        refine hK _ ?_
        clear hK K
        simp only [Act.put, List.setIfInBounds_toArray, List.set_cons_zero, List.set_cons_succ]
        refine wpS_ps rfl fun K hK => ?_
        simp only [List.map_cons, List.map_nil, Option.getD_some, List.getElem?_toArray, List.getElem?_cons_zero, List.getElem?_cons_succ]
        iterate 1 (first | (apply quietO_cons _ rfl; (intro w' _; go_simp; rfl)) | apply quietO_skip rfl)
        refine hK _ ?_
        clear hK K
        simp only [Act.put, List.setIfInBounds_toArray, List.set_cons_zero, List.set_cons_succ]
        refine wpS_nil ?_
        go_wp2_with fail
        go_roundw
        case rel => exact ⟨i + 1, by simp, by omega, Hpv3.out.same (Keeps.refl nowhere W).drew, HkxW.out.drew⟩
        case measure => simp [intOf]; omega
      · have hxI : ((x : Int) == (s : Int)) = false := by simp; omega
        have hstep : readN D.pend D.kept s (i + 1) = readN D.pend D.kept s i := by rw [readN, Hp.out]; simp only; rw [if_neg hxs]
        have hvb3 := HvbW.out
        rw [← hstep] at hvb3
        have Hxs := Lib.hid hxs
        have Hstep := Lib.hid hstep
        have Hvb3 := Lib.hid hvb3
        clear hxs hstep hvb3
        go_wp2_with fail
        go_roundw
        case rel => exact ⟨i + 1, by simp, by omega, Hvb3.out, HkxW.out⟩
        case measure => simp [intOf]; omega
    · obtain rfl : i = n := by omega
      have hiI : ¬ (i : Int) < i := by omega
      have hLen : (readN D.pend D.kept s i).length ≤ 100000000 := by
        have := read_len H1.out (by rw [← HN.out]; exact hs) i
        omega
      have hcl := clB_any _ _ _ wr hvb.rd hLen
      have hrd : D.read s = readN D.pend D.kept s i := by rw [DiskV.read, ← Hnn.out]
      have hbxr := Hbx.out.keep (Hk2.out.more hkx) (fun h => h)
      have hkr := Hk1.out.more (Hk2.out.more hkx)
      clear hLen
      have Hkx := Lib.hid hkx
      have Hcl := Lib.hid hcl
      have Hvb := Lib.hid hvb
      have Hrd := Lib.hid hrd
      have HLb := Lib.hid hLb
      have Hbxr := Lib.hid hbxr
      have Hkr := Lib.hid hkr
      clear hkx hcl hvb hrd hLb hbxr hkr
      go_wp2_with fail
      refine Hcl.out.mono ?_
      rintro e w5 ⟨v5, rfl, hrow5, hab5, hk5⟩
      have hcp := clipB_any v5 _ w5 hrow5
      have Hrow5 := Lib.hid hrow5
      have Hab5 := Lib.hid hab5
      have Hk5 := Lib.hid hk5
      have Hcp := Lib.hid hcp
      clear hrow5 hab5 hk5 hcp
      go_wp2_with fail
      refine Hcp.out.mono ?_
      rintro e w6 ⟨v6, g6, rfl, hrd6, hg6, rfl⟩
      have hb5 := Hbxr.out.keep Hk5.out (fun h => h)
      have c0 := hb5.cell 0
      have f0 := hb5.frozen 0
      simp at c0
      have hb6 := (hb5.set_ 0 (.int .i64 0)).cell 0
      simp at hb6
      have hkq : Keeps (only q) w6 (w6.setCell ⟨q, 0, none⟩ (.int .i64 0)) := (Keeps.refl (only q) w6).setCell (p := ⟨q, 0, none⟩) (fun _ => rfl) _
      have hab6 : Above w.heap.size g6 := fun b' hb' => Nat.le_trans (Hkr.out.size) (Hab5.out b' (hg6 b' hb'))
      have hrd7 := hrd6.keep hkq (fun b' hb' e => by have e2 : b' = q := e; have h7 := Hab5.out b' (hg6 b' hb'); have := Hbxr.out.lt; omega)
      have hk7 : Keeps nowhere w (w6.setCell ⟨q, 0, none⟩ (.int .i64 0)) := (Hkr.out.more Hk5.out).setCell (p := ⟨q, 0, none⟩) (fun hlt => by have := Hq.out; simp at hlt; omega) _
      rw [← Hrd.out] at hrd7
      obtain ⟨A6, c6, rfl, -⟩ := id hrd6
      clear hrd6 hg6 hkq hb5
      have Hrd7 := Lib.hid hrd7
      have Hk7 := Lib.hid hk7
      have Hab6 := Lib.hid hab6
      clear hrd7 hk7 hab6
      go_wp2_with fail
      refine leaves_cons (f := 53) (args := #[.pointer (some ⟨q, 0, none⟩)]) (by simp) (by simp [go_sem]) ?_
      refine (dcaught_idle q _).mono ?_
      rintro e u' w'' ⟨rfl, rfl, rfl⟩
      simp [Leaves, settle, results, Tryz.results35, go_sem, hb6]
      exact ⟨g6, Hrd7.out, Hab6.out, Hk7.out⟩
end
end Go.Proofs.YtnddaildicmneaaGreat
/-
  A slice literal of one record: the block that it lays. Plain words.
-/
namespace Go.Proofs.YtnddaildicmneaaGreat
open Go.RowKit
namespace RecT
theorem fold_sets (off : Nat) : ∀ (l : List Value) (k : Nat) (cs : Array Value), ((l.zipIdx k).foldl (fun cs p => cs.setIfInBounds (off + p.2) p.1) cs).toList = sets cs.toList (off + k) l
  | [], k, cs => rfl
  | u :: us, k, cs => by
    rw [List.zipIdx_cons, List.foldl_cons, fold_sets off us (k + 1), Array.toList_setIfInBounds]
    rfl
theorem fill_one {n : Nat} (v : Value) (cells : Array Value) (h1 : v.cells.size = n) (h2 : cells.size = n) : Instr.fill (fun i => some (i * n, n)) cells [(0, v)] = some v.cells := by
  unfold Instr.fill
  simp only [h1, h2, Nat.zero_mul, Nat.zero_add, Nat.lt_irrefl, gt_iff_lt, decide_false, Bool.or_false, ne_eq, not_true_eq_false]
  unfold Instr.fill
  simp only [Bool.false_eq_true, if_false, Option.some.injEq]
  apply Array.toList_inj.1
  have := fold_sets 0 v.cells.toList 0 cells
  have e := sets_app v.cells.toList [] cells.toList [] (by simp [h1, h2])
  simp only [List.nil_append, List.append_nil, List.length_nil] at e
  rw [Nat.add_zero, e] at this
  simp only [Nat.zero_add] at this
  rw [← this, ← Array.foldl_toList]
  simp
variable {α : Type} {R : RecT α}
theorem run_buildOne {P : Program} {ts : TypeId} {z : Value} {by_ : Nat} (ht : P.underlying ts = some (.slice R.t)) (hinfo : (P.info? R.t).map (fun i => (i.zero, i.size, i.bytes)) = some (some z, R.n, by_)) (hn : R.n ≤ 1000) (w : World) (v : Value) (x : α) (hv : v.cells = (R.cs x).toArray) :
    (Instr.buildSlice ts 1 #[(0, v)]).run P w = .ok (.slice (some ⟨w.heap.size, 0, none⟩) 1 1) (w.alloc (.cells (R.cs x).toArray R.t)) := by
  obtain ⟨i0, hi, hz0, hz1, hz2⟩ := info_parts hinfo
  have hp := R.pos
  have h1 : ¬ 1 * i0.size > 2 ^ 24 := by rw [hz1]; omega
  have h2 : ¬ 1 * i0.size = 0 := by rw [hz1]; omega
  have hf := fill_one (n := R.n) v ((Array.range (1 * i0.size)).map (fun j => z.cells[j % z.cells.size]!)) (by rw [hv]; simp [R.len]) (by simp [hz1])
  rw [hz1, Nat.one_mul] at h1 h2
  rw [hz1, Nat.one_mul] at hf
  simp [Instr.buildSlice, run_underlying ht, sizeOf, typeInfo, zeroValue, hi, hz0, hz1, h1, h2, hf, newRow, hv]
theorem wpList_buildOne {P : Program} {ops : Array Oper} {rest : List Oper} {o : Oper} {a : Act} {w : World} {Q : Exit → Act → World → Prop} {ts : TypeId} {z : Value} {by_ : Nat}
    (ht : P.underlying ts = some (.slice R.t)) (hinfo : (P.info? R.t).map (fun i => (i.zero, i.size, i.bytes)) = some (some z, R.n, by_)) (hn : R.n ≤ 1000)
    (hgd : o.guard = none) (s : Operand) (ho : o.op = .buildSlice ts 1 #[(0, s)]) (v : Value) (hs : a.eval s = v) (x : α) (hv : v.cells = (R.cs x).toArray)
    (h : wpList P ops Q rest (a.put o.dst (.slice (some ⟨w.heap.size, 0, none⟩) 1 1)) (w.alloc (.cells (R.cs x).toArray R.t))) : wpList P ops Q (o :: rest) a w :=
  wpList_plain hgd fun K hK => by
    unfold Oper.wp execOp
    simp only [ho, Sem.run_bind, List.map_toArray, List.map_cons, List.map_nil, hs, run_buildOne ht hinfo hn w v x hv, Result.andThen_ok]
    exact hK _ _ h
end RecT
end Go.Proofs.YtnddaildicmneaaGreat
/-
  disk: New.
-/
namespace Go.Proofs.YtnddaildicmneaaGreat
open Go.Proofs Go.RowKit Go.Sort Go.Maps

def zerosB (n : Nat) : List UInt8 := List.replicate n 0
theorem made_zerosB (n : Nat) : (madeCells #[Value.int .u8 0] (n * 1)).toList = recB.cells (zerosB n) := by
  rw [Nat.mul_one]
  apply List.ext_getElem?
  intro j
  have e : recB.cells (zerosB n) = List.replicate n (.int .u8 0) := by
    unfold RecT.cells zerosB
    rw [List.flatMap_replicate]
    simp [recB, bv]
  rw [e]
  by_cases hj : j < n
  · simp [madeCells, hj, Nat.mod_one]
  · rw [List.getElem?_eq_none (by simp [madeCells]; omega), List.getElem?_eq_none (by simp; omega)]
section
variable {ops : Array Oper} {rest : List Oper} {o : Oper} {a : Act} {Q : Exit → Act → World → Prop}
theorem wpList_make_bytesB (w : World) (hgd : o.guard = none) (l c : Operand) (hop : o.op = Op.makeSlice 33 l c) (n : Nat) (L : Int) (hl : a.eval l = .int .i64 L) (hc : a.eval c = .int .i64 L) (hL : L = (n : Int)) (hn : n ≤ 1099511627776)
    (hK : ∀ w', recB.Row w' (.slice (some ⟨w.heap.size, 0, none⟩) n n) (zerosB n) → Keeps nowhere w w' → wpList Tryz.prog ops Q rest (a.put o.dst (.slice (some ⟨w.heap.size, 0, none⟩) n n)) w') : wpList Tryz.prog ops Q (o :: rest) a w := by
  obtain ⟨i0, hi, hz0, hz1, hz2⟩ := info_parts infoB
  refine wpList_make_full _ hgd l c 33 hop 0 5 i0 (.int .u8 0) 1 Tryz.underlying33 hi hz0 hz1 .i64 .i64 L L n hl hc hL hL (by rw [hz2]; omega) (by unfold maxLen; omega) (Nat.zero_le _) fun w' h1 h2 => hK w' ?_ ((Keeps.refl _ w).grown h2 (fun _ h => by cases h))
  unfold RecT.Row
  rw [show (Value.int .u8 0).cells = #[Value.int .u8 0] from rfl, made_zerosB] at h1
  rw [show (zerosB n).length = n by simp [zerosB]]
  exact h1
end
section
variable {w w' : World} {d b : Nat} {kv kp : Value} {ks : List SlV} {vs : List Value} {D : DiskV}
/-- one more sector is kept: the row behind an append, then the store of it -/
theorem DAt.sector (h : DAt w d b kv kp ks vs D) (hk : Keeps (fun k => kv.ownBlock = some k) w w') {v' : Value} {s : SlV} {L : List UInt8} (hr : recS.Row w' v' (ks ++ [s])) (hs : recB.Row w' s.v L) (hl : L.length = D.size) :
    DAt (w'.setCell ⟨d, 1, none⟩ v') d b v' kp (ks ++ [s]) vs ⟨D.size, D.kept ++ [L], D.pend, D.off, D.armed, D.left, D.keep, D.writes⟩ ∧ Keeps (fun k => k = d ∨ kv.ownBlock = some k) w (w'.setCell ⟨d, 1, none⟩ v') ∧ (∃ u, w'.cell? ⟨d, 1, none⟩ = some u) ∧ w'.frozen? ⟨d, 1, none⟩ = false := by
  have hnr : ∀ k, kv.ownBlock = some k → NotRaw w k := fun k e => h.notRaw k (.inr (.inr e))
  have hdr : NotRaw w d := h.notRaw d (.inl rfl)
  have hnd : kv.ownBlock ≠ some d := own_blk_ne h.kept h.box (by decide)
  have hbox := h.box.keep hk hnd
  obtain ⟨w2, hw2⟩ : ∃ w2, w2 = w'.setCell ⟨d, 1, none⟩ v' := ⟨_, rfl⟩
  have hk2 : Keeps (only d) w' w2 := by rw [hw2]; exact (Keeps.refl (only d) w').setCell (p := ⟨d, 1, none⟩) (fun _ => rfl) _
  have hbox2 := hbox.set_ 1 v'
  have hk3 : Keeps (fun k => k = d ∨ kv.ownBlock = some k) w w2 := (hk.mono (fun _ _ e => .inr e)).trans hk2 (fun _ _ e => .inl e)
  rw [← hw2] at hbox2
  have hc1 := hbox.cell 1
  have hf1 := hbox.frozen 1
  rw [← hw2]
  have hraw : ∀ {α : Type} {R : RecT α} {v : Value} {l : List α}, R.Row w v l → (R.t = 5 ∨ R.t = 4) → ∀ bb, v.ownBlock = some bb → ¬ (bb = d ∨ kv.ownBlock = some bb) := fun hrow ht bb e hs => by
    rcases hs with e2 | e2
    · subst e2; exact row_raw hrow ht hdr e
    · exact row_raw hrow ht (hnr bb e2) e
  have hd2 : ∀ {α : Type} {R : RecT α} {v : Value} {l : List α}, R.Row w' v l → R.t ≠ 57 → R.Row w2 v l := fun hrow ht => hrow.keep hk2 (fun bb e hs => by have e2 : bb = d := hs; subst e2; exact own_blk_ne hrow hbox ht e)
  refine ⟨?_, hk3, ⟨_, by simpa using hc1⟩, hf1⟩
  exact
  { box := by simpa using hbox2
    kept := hd2 hr (by decide)
    klen := by rw [List.length_append, List.length_append, h.klen]; rfl
    sec := fun i s2 L2 g1 g2 => by
      by_cases hi : i < ks.length
      · rw [List.getElem?_append_left hi] at g1
        rw [List.getElem?_append_left (by rw [← h.klen]; exact hi)] at g2
        exact ⟨(h.sec i s2 L2 g1 g2).1.keep hk3 (hraw (h.sec i s2 L2 g1 g2).1 (.inl rfl)), (h.sec i s2 L2 g1 g2).2⟩
      · rw [List.getElem?_append_right (by omega)] at g1
        rw [List.getElem?_append_right (by rw [← h.klen]; omega), ← h.klen] at g2
        have : i - ks.length = 0 := by have := (List.getElem?_eq_some_iff.1 g1).1; simp at this; omega
        rw [this] at g1 g2
        simp at g1 g2
        subst g1 g2
        exact ⟨hd2 hs (by decide), hl⟩
    map := h.map.keep hk3 (fun e => by
      rcases e with e | e
      · exact h.map.ne_blk h.box e.symm
      · rcases h.kept.blk with ⟨rfl, -⟩ | ⟨b2, c2, rest, rfl, hb2, -⟩
        · simp [Value.ownBlock] at e
        · simp only [Value.ownBlock, Option.some.injEq] at e
          subst e
          exact h.map.ne_blk hb2 rfl)
    vlen := h.vlen
    pb := fun i p v h1 h2 => ⟨(h.pb i p v h1 h2).1.keep hk3 (hraw (h.pb i p v h1 h2).1 (.inl rfl)), (h.pb i p v h1 h2).2.1, by rw [List.length_append]; exact Nat.lt_of_lt_of_le (h.pb i p v h1 h2).2.2 (Nat.le_add_right _ _)⟩
    keep := h.keep.keep hk3 (hraw h.keep (.inr rfl)) }
end
def freshD (n size : Nat) : DiskV := ⟨size, List.replicate n (zerosB size), [], false, false, 0, [], 0⟩
/-- a disk of the call's own -/
def NewD (w : World) (D : DiskV) (r : Value) (w' : World) : Prop := ∃ d b kv kp ks vs, r = .pointer (some ⟨d, 0, none⟩) ∧ DAt w' d b kv kp ks vs D ∧ (∀ k, DS d b kv k → w.heap.size ≤ k) ∧ Keeps nowhere w w'
theorem dnew_bad (s z : Int) (w : World) (hb : (decide (1 ≤ s) && decide (s ≤ 16384) && decide (64 ≤ z) && decide (z ≤ 1024)) = false) : Calls Tryz.prog 6 #[.int .i64 s, .int .i64 z] w fun e w' => e = .returned (.tuple #[.pointer none, .int .i64 1]) ∧ w = w' := by
  have hr := right_any s z w
  rw [hb] at hr
  have Hr := Lib.hid hr
  clear hr
  go_enter Tryz.func6, Tryz.ntmps6
  go_wp2_with fail
  refine Hr.out.mono ?_
  rintro e w' ⟨rfl, rfl⟩
  go_wp2_with fail
  go_ret2
  exact ⟨rfl, rfl⟩
/-- the beginning: no sector -/
theorem dnew_start (w : World) (size : Nat) (W : World) (hW : W = (w.alloc (.map #[] 0)).alloc (.cells #[.int .i64 (size : Int), .slice none 0 0, .map (some w.heap.size), .bool false, .bool false, .int .i64 0, .slice none 0 0, .int .i64 0] 57)) :
    DAt W (w.heap.size + 1) w.heap.size (.slice none 0 0) (.slice none 0 0) [] [] (freshD 0 size) := by
  subst hW
  exact
  { box := by have := Blk.new (w.alloc (.map #[] 0)) 57 #[.int .i64 (size : Int), .slice none 0 0, .map (some w.heap.size), .bool false, .bool false, .int .i64 0, .slice none 0 0, .int .i64 0]; simpa [freshD] using this
    kept := RecT.Row.nil _ _
    klen := rfl
    sec := fun i s L h => by simp at h
    map := (KMap.new keyP w).keep ((Keeps.refl nowhere _).alloc _) (fun h => h)
    vlen := rfl
    pb := fun i p v h => by simp [freshD] at h
    keep := RecT.Row.nil _ _ }
set_option maxRecDepth 20000 in
set_option maxHeartbeats 4000000 in
theorem dnew_any (n size : Nat) (w : World) (h1 : 1 ≤ n) (h2 : n ≤ 16384) (h3 : 64 ≤ size) (h4 : size ≤ 1024) :
    Calls Tryz.prog 6 #[.int .i64 n, .int .i64 size] w fun e w' => ∃ r, e = .returned (.tuple #[r, .int .i64 0]) ∧ NewD w (freshD n size) r w' := by
  have hr := right_any (n : Int) (size : Int) w
  rw [show (decide ((1 : Int) ≤ (n : Int)) && decide ((n : Int) ≤ 16384) && decide ((64 : Int) ≤ (size : Int)) && decide ((size : Int) ≤ 1024)) = true by simp; omega] at hr
  have Hr := Lib.hid hr
  clear hr
  have hmm := @run_makeMap Tryz.prog
  obtain ⟨W, hW⟩ : ∃ W, W = (w.alloc (.map #[] 0)).alloc (.cells #[.int .i64 (size : Int), .slice none 0 0, .map (some w.heap.size), .bool false, .bool false, .int .i64 0, .slice none 0 0, .int .i64 0] 57) := ⟨_, rfl⟩
  have hS := dnew_start w size W hW
  have hkW : Keeps nowhere w W := by rw [hW]; exact ((Keeps.refl nowhere w).alloc _).alloc _
  have HW := Lib.hid hW
  have HS := Lib.hid hS
  have HkW := Lib.hid hkW
  clear hW hS hkW
  go_enter Tryz.func6, Tryz.ntmps6
  go_wp2_with fail
  refine Hr.out.mono ?_
  rintro e w' ⟨rfl, rfl⟩
  go_wp2_with fail
  rw [← HW.out]
  obtain ⟨d, hd⟩ : ∃ d, d = w.heap.size + 1 := ⟨_, rfl⟩
  obtain ⟨b, hb⟩ : ∃ b, b = w.heap.size := ⟨_, rfl⟩
  simp only [← hd]
  have hS := HS.out
  rw [← hd] at hS
  simp only [← hb] at hS
  clear HW HS
  have Hd := Lib.hid hd
  have Hb := Lib.hid hb
  have HS := Lib.hid hS
  clear hd hb hS
  go_loopw [16] (fun iv wr => ∃ (i : Nat) (kv : Value) (ks : List SlV), iv = .int .i64 i ∧ i ≤ n ∧ DAt wr d b kv (.slice none 0 0) ks [] (freshD i size) ∧ (∀ k, kv.ownBlock = some k → w.heap.size ≤ k) ∧ Keeps nowhere w wr) (fun iv _ => n - (intOf iv).toNat)
  case atStart => exact ⟨0, _, _, rfl, Nat.zero_le _, HS.out, fun k h => by simp [Value.ownBlock] at h, HkW.out⟩
  case round =>
    obtain ⟨i, kv, ks, rfl, hi, hD, hab, hk⟩ := hrel
    by_cases hlt : i < n
    · have hltI : (i : Int) < n := by omega
      have hi1 : IntKind.i64.wrap ((i : Int) + 1) = i + 1 := IntWalk.i64_in _ (by omega)
      have hkd := (Keeps.refl nowhere wr).drew
      have hD0 := hD.same hkd
      have hkr := hk.more hkd
      have q1 : ∀ w', Keeps nowhere wr.drew w' → w'.cell? ⟨d, 1, none⟩ = some kv := fun w' hh => by simpa using (hD0.same hh).cell 1
      have hKl : ks.length = i := by rw [hD.klen]; simp [freshD]
      have HD := Lib.hid hD
      have Hab := Lib.hid hab
      have Hk := Lib.hid hk
      have HD0 := Lib.hid hD0
      have Hkr := Lib.hid hkr
      have HKl := Lib.hid hKl
      clear hD hab hk hD0 hkr hKl
      go_wp2_with fail
      refine wp_region_script [0, 1, 2, 3, 4, 5, 9, 10] [4] [.ps [0, 1, 2, 3], .fs [4], .ps [5], .es [6] true, .es [7] true, .es [8] false, .ps [9, 10], .es [11] false] (Keeps nowhere wr.drew) rfl (by kernel_rfl) ?_
      refine wpS_ps rfl fun K hK => ?_
      simp only [List.map_cons, List.map_nil, Option.getD_some, List.getElem?_toArray, List.getElem?_cons_zero, List.getElem?_cons_succ]
      iterate 4 (first | (apply quietO_cons _ rfl; (intro w' _; go_simp; rfl)) | apply quietO_skip rfl)
      refine hK _ ?_
      clear hK K
      simp only [Act.put, List.setIfInBounds_toArray, List.set_cons_zero, List.set_cons_succ]
      refine wpS_fs rfl (Keeps.refl _ _) fun K hK => ?_
      simp only [List.map_cons, List.map_nil, Option.getD_some, List.getElem?_toArray, List.getElem?_cons_zero, List.getElem?_cons_succ]
      iterate 1 (first | (apply quietO_cons _ rfl; (intro w' hs; have c_0 := q1 w' hs; go_simp; rfl)) | apply quietO_skip rfl)
      refine hK _ ?_
      clear hK K
      simp only [Act.put, List.setIfInBounds_toArray, List.set_cons_zero, List.set_cons_succ]
      refine wpS_ps rfl fun K hK => ?_
      simp only [List.map_cons, List.map_nil, Option.getD_some, List.getElem?_toArray, List.getElem?_cons_zero, List.getElem?_cons_succ]
      iterate 1 (first | (apply quietO_cons _ rfl; (intro w' _; go_simp; rfl)) | apply quietO_skip rfl)
      refine hK _ ?_
      clear hK K
      simp only [Act.put, List.setIfInBounds_toArray, List.set_cons_zero, List.set_cons_succ]
      refine wpS_es rfl fun K hK => ?_
      have HK := Lib.hid hK
      clear hK
      simp only [List.map_cons, List.map_nil, Option.getD_some, List.getElem?_toArray, List.getElem?_cons_zero, List.getElem?_cons_succ]
      go_wp2_with (at_make; refine wpList_make_bytesB _ rfl _ _ rfl size (size : Int) rfl rfl rfl (by omega) ?_)
      intro w2 hs2 hk2
      obtain ⟨q, hq⟩ : ∃ q, q = wr.heap.size := ⟨_, rfl⟩
      rw [← hq] at hs2
      simp only [← hq]
      have Hs2 := Lib.hid hs2
      have Hq := Lib.hid hq
      clear hs2 hq
      go_wp2_with fail
      refine HK.out _ _ (fun _ => hk2) ?_
      clear HK K
      refine wpS_es rfl fun K hK => ?_
      have HK := Lib.hid hK
      clear hK
      simp only [List.map_cons, List.map_nil, Option.getD_some, List.getElem?_toArray, List.getElem?_cons_zero, List.getElem?_cons_succ]
      refine RecT.wpList_buildOne (R := recS) Tryz.underlying55 infoS (by decide) rfl (.tmp 24) rfl _ rfl ((some ⟨q, 0, none⟩, size, size) : SlV) rfl ?_
      have hk3 := hk2.alloc (.cells (recS.cs ((some ⟨q, 0, none⟩, size, size) : SlV)).toArray recS.t)
      have hk23 := (Keeps.refl nowhere w2).alloc (.cells (recS.cs ((some ⟨q, 0, none⟩, size, size) : SlV)).toArray recS.t)
      have hrd := RecT.Rd.one recS w2 ((some ⟨q, 0, none⟩, size, size) : SlV)
      obtain ⟨w3, hw3⟩ : ∃ w3, w3 = w2.alloc (.cells (recS.cs ((some ⟨q, 0, none⟩, size, size) : SlV)).toArray recS.t) := ⟨_, rfl⟩
      obtain ⟨q2, hq2⟩ : ∃ q2, q2 = w2.heap.size := ⟨_, rfl⟩
      rw [← hw3] at hk3 hk23 hrd ⊢
      simp only [← hq2] at hrd ⊢
      have hD3 := HD0.out.same hk3
      have hs3 := Hs2.out.same hk23
      have hlb : ks.length + ([((some ⟨q, 0, none⟩, size, size) : SlV)] : List SlV).length ≤ 100000000 := by have := HKl.out; simp; omega
      clear hk2 hk23
      have Hrd := Lib.hid hrd
      have Hw3 := Lib.hid hw3
      have Hq2 := Lib.hid hq2
      have HD3 := Lib.hid hD3
      have Hs3 := Lib.hid hs3
      have Hlb := Lib.hid hlb
      clear hrd hw3 hq2 hD3 hs3 hlb
      go_wp2_with fail
      refine HK.out _ _ (fun _ => hk3) ?_
      clear HK K
      have Hk3 := Lib.hid hk3
      clear hk3
      refine wpS_es rfl fun K hK => ?_
      have HK := Lib.hid hK
      clear hK
      simp only [List.map_cons, List.map_nil, Option.getD_some, List.getElem?_toArray, List.getElem?_cons_zero, List.getElem?_cons_succ]
      go_wp2_with (at_builtin; go_must (refine RecT.wpList_append (R := recS) Tryz.underlying55 infoS rfl (by decide) rfl (.tmp 22) (.tmp 25) rfl _ ks rfl HD3.out.kept _ _ [((some ⟨q, 0, none⟩, size, size) : SlV)] rfl Hrd.out Hlb.out ?_))
      intro v4 w4 hrow4 hk4 hf4
      obtain ⟨hD5, hk5, ⟨u, cu⟩, fu⟩ := HD3.out.sector hk4 hrow4 (s := ((some ⟨q, 0, none⟩, size, size) : SlV)) (L := zerosB size) (Hs3.out.keep hk4 (fun bb e hs => row_raw Hs3.out (.inl rfl) (HD3.out.notRaw _ (.inr (.inr hs))) e)) (by simp [zerosB, freshD])
      have hab5 : ∀ k, v4.ownBlock = some k → w.heap.size ≤ k := fun k e => by
        rcases hf4 k e with h | h
        · exact Hab.out k h
        · have := Hk3.out.size; have := Hkr.out.size; omega
      have hk6 : Keeps nowhere w (w4.setCell ⟨d, 1, none⟩ v4) := (Hkr.out.more Hk3.out).trans hk5 (fun k hk e => by
        rcases e with e | e
        · have := Hd.out; omega
        · have := Hab.out k e; omega)
      rw [show (freshD i size).size = size from rfl, show (freshD i size).kept ++ [zerosB size] = List.replicate (i + 1) (zerosB size) by simp [freshD, List.replicate_succ'], show (freshD i size).pend = [] from rfl] at hD5
      obtain ⟨A4, c4, hv4, -⟩ := hrow4.form
      clear hk4 hf4 hk5 hrow4
      generalize (ks ++ [((some ⟨q, 0, none⟩, size, size) : SlV)]).length = N4 at hv4
      subst hv4
      have HD5 := Lib.hid hD5
      have Hab5 := Lib.hid hab5
      have Hk6 := Lib.hid hk6
      clear hD5 hab5 hk6
      go_wp2_with fail
      refine HK.out _ _ (fun h => by cases h) ?_
      clear HK K
      refine wpS_ps rfl fun K hK => ?_
      simp only [List.map_cons, List.map_nil, Option.getD_some, List.getElem?_toArray, List.getElem?_cons_zero, List.getElem?_cons_succ]
      iterate 2 (first | (apply quietO_cons _ rfl; (intro w' _; go_simp; rfl)) | apply quietO_skip rfl)
      refine hK _ ?_
      clear hK K
      simp only [Act.put, List.setIfInBounds_toArray, List.set_cons_zero, List.set_cons_succ]
      refine wpS_es rfl fun K hK => ?_
      have HK := Lib.hid hK
      clear hK
      simp only [List.map_cons, List.map_nil, Option.getD_some, List.getElem?_toArray, List.getElem?_cons_zero, List.getElem?_cons_succ]
      go_wp2_with fail
      go_wp2_with fail
      refine HK.out _ _ (fun h => by cases h) ?_
      clear HK K
      refine wpS_nil ?_
      go_wp2_with fail
      go_roundw
      case rel => exact ⟨i + 1, _, _, by simp, by omega, HD5.out, Hab5.out, Hk6.out⟩
      case measure => simp [intOf]; omega
    · obtain rfl : i = n := by omega
      have hiI : ¬ (i : Int) < i := by omega
      have habs : ∀ k, DS d b kv k → w.heap.size ≤ k := by
        have e1 := Hd.out
        have e2 := Hb.out
        rintro k (e | e | e)
        · omega
        · omega
        · exact hab k e
      have HD := Lib.hid hD
      have Hab := Lib.hid hab
      have Hk := Lib.hid hk
      have Habs := Lib.hid habs
      clear hD hab hk habs
      go_wp2_with fail
      go_ret2
      exact ⟨_, rfl, d, b, kv, _, ks, [], rfl, HD.out, Habs.out, Hk.out⟩
end Go.Proofs.YtnddaildicmneaaGreat
/-
  append onto a row of the call's own, from any slice that reads.
-/
namespace Go.Proofs.YtnddaildicmneaaGreat
open Go.RowKit

section
variable {P : Program} (w : World)
theorem run_append_rd (base : Nat) (t ty e : TypeId) (i : TypeInfo) (z : Value) (bytes : Nat) (ht : P.underlying t = some (.slice e)) (hi : P.info? e = some i) (hz : i.zero = some z)
    (hsize : i.size = 1) (hby : i.bytes = bytes) (hzs : z.cells.size = 1)
    (v : Value) (n : Nat) (xs : List Value) (hown : w.ownsRow base e 1 v n xs)
    (vx : Value) (gx : Option Nat) (news : List Value) (hr : Rd w vx gx news) (h1 : ∀ u ∈ news, u.oneCell' = true)
    (h63 : n + news.length ≤ maxLen) (hbytes : (n + news.length) * bytes ≤ 140737488355328) (hbase : base ≤ w.heap.size) :
    ∃ v' w', (Builtin.append_ #[t, t] ty #[v, vx]).run P w = .ok v' w' ∧ w'.ownsRow base e 1 v' (n + news.length) (xs ++ news) ∧ w.grownBy w' v.ownBlock ∧ From v.ownBlock w.heap.size v'.ownBlock ∧ w.heap.size ≤ w'.heap.size := by
  rcases hr with ⟨rfl, _, rfl⟩ | ⟨a, cap, rfl, _, _, hl, hm, hc⟩
  · refine ⟨v, w, run_append_owned_none (P := P) (w := w) base t ty e i 1 ht hi v n xs hown, by simpa using hown, World.grownBy.refl w _, From.refl _ _, Nat.le_refl _⟩
  · obtain ⟨v', w', hrun, h2, h3, _, h5⟩ := run_append_own_at (P := P) w base t ty e i z 1 bytes ht hi hz hsize hby hzs (by decide) v n xs hown a news.length cap news (by simp)
      hc h1 h63 hbytes hbase
    exact ⟨v', w', hrun, h2, h3, fun b hb => h5.elim (fun e => .inl (by rw [← e, hb])) (fun e => .inr (by rw [hb] at e; injection e with e; omega)), h3.size⟩

theorem wp_append_rd {o : Oper} {a : Act} {K : Act → World → Prop} {Q : Exit → Act → World → Prop} (s x : Operand) (t : TypeId)
    (ho : o.op = .call { callee := .builtin .append, args := #[s, x], argTypes := #[t, t] })
    (base : Nat) (e : TypeId) (i : TypeInfo) (z : Value) (bytes : Nat) (ht : P.underlying t = some (.slice e)) (hi : P.info? e = some i) (hz : i.zero = some z)
    (hsize : i.size = 1) (hby : i.bytes = bytes) (hzs : z.cells.size = 1)
    (v : Value) (n : Nat) (xs : List Value) (hs : a.eval s = v) (hown : w.ownsRow base e 1 v n xs)
    (vx : Value) (gx : Option Nat) (news : List Value) (hx : a.eval x = vx) (hr : Rd w vx gx news) (h1 : ∀ u ∈ news, u.oneCell' = true)
    (h63 : n + news.length ≤ maxLen) (hbytes : (n + news.length) * bytes ≤ 140737488355328) (hbase : base ≤ w.heap.size)
    (h : ∀ v' w', w'.ownsRow base e 1 v' (n + news.length) (xs ++ news) → w.grownBy w' v.ownBlock → From v.ownBlock w.heap.size v'.ownBlock → K (a.put o.dst v') w') : o.wp P a w K Q := by
  obtain ⟨v', w', hrun, h2, h3, h4, _⟩ := run_append_rd (P := P) w base t o.type e i z bytes ht hi hz hsize hby hzs v n xs hown vx gx news hr h1 h63 hbytes hbase
  unfold Oper.wp execOp
  simp only [ho, resolve, invoke, builtin, Sem.run_bind, Sem.run_pure, Result.andThen_ok, List.map_toArray, List.map_cons, List.map_nil, hs, hx, hrun]
  exact h v' w' h2 h3 h4

theorem wpList_append_rd {ops : Array Oper} {rest : List Oper} {o : Oper} {a : Act} {Q : Exit → Act → World → Prop} (hgd : o.guard = none) (s x : Operand) (t : TypeId)
    (ho : o.op = .call { callee := .builtin .append, args := #[s, x], argTypes := #[t, t] })
    (base : Nat) (e : TypeId) (i : TypeInfo) (z : Value) (bytes : Nat) (ht : P.underlying t = some (.slice e)) (hi : P.info? e = some i) (hz : i.zero = some z)
    (hsize : i.size = 1) (hby : i.bytes = bytes) (hzs : z.cells.size = 1)
    (v : Value) (n : Nat) (xs : List Value) (hs : a.eval s = v) (hown : w.ownsRow base e 1 v n xs)
    (vx : Value) (gx : Option Nat) (news : List Value) (hx : a.eval x = vx) (hr : Rd w vx gx news) (h1 : ∀ u ∈ news, u.oneCell' = true)
    (h63 : n + news.length ≤ maxLen) (hbytes : (n + news.length) * bytes ≤ 140737488355328) (hbase : base ≤ w.heap.size)
    (h : ∀ v' w', w'.ownsRow base e 1 v' (n + news.length) (xs ++ news) → w.grownBy w' v.ownBlock → From v.ownBlock w.heap.size v'.ownBlock → wpList P ops Q rest (a.put o.dst v') w') : wpList P ops Q (o :: rest) a w :=
  wpList_plain hgd fun _ hK => wp_append_rd w s x t ho base e i z bytes ht hi hz hsize hby hzs v n xs hs hown vx gx news hx hr h1 h63 hbytes hbase fun v' w' h2 h3 h4 => hK _ _ (h v' w' h2 h3 h4)

theorem step_append_rd {ops : Array Oper} {o : Oper} {a : Act} {K : Act → World → Prop} {Q : Exit → Act → World → Prop} {E : Prop} (hgd : o.guard = none) (s x : Operand) (t : TypeId)
    (ho : o.op = .call { callee := .builtin .append, args := #[s, x], argTypes := #[t, t] })
    (base : Nat) (e : TypeId) (i : TypeInfo) (z : Value) (bytes : Nat) (ht : P.underlying t = some (.slice e)) (hi : P.info? e = some i) (hz : i.zero = some z)
    (hsize : i.size = 1) (hby : i.bytes = bytes) (hzs : z.cells.size = 1)
    (v : Value) (n : Nat) (xs : List Value) (hs : a.eval s = v) (hown : w.ownsRow base e 1 v n xs)
    (vx : Value) (gx : Option Nat) (news : List Value) (hx : a.eval x = vx) (hr : Rd w vx gx news) (h1 : ∀ u ∈ news, u.oneCell' = true)
    (h63 : n + news.length ≤ maxLen) (hbytes : (n + news.length) * bytes ≤ 140737488355328) (hbase : base ≤ w.heap.size)
    (h : ∀ v' w', w'.ownsRow base e 1 v' (n + news.length) (xs ++ news) → w.grownBy w' v.ownBlock → From v.ownBlock w.heap.size v'.ownBlock → K (a.put o.dst v') w') :
    if Region.wanted o (yielded ops a.tmps) = true then Oper.wp P o a w K Q else E := by
  have hw : Region.wanted o (yielded ops a.tmps) = true := by simp [Region.wanted, hgd]
  rw [if_pos hw]
  exact wp_append_rd w s x t ho base e i z bytes ht hi hz hsize hby hzs v n xs hs hown vx gx news hx hr h1 h63 hbytes hbase h
end

section
variable {w w1 : World} {v v' : Value} {S : Nat → Prop}
/-- what an append keeps -/
theorem Keeps.append {w0 : World} (h : Keeps S w0 w) (hg : w.grownBy w1 v.ownBlock) (hv : ∀ b, v.ownBlock = some b → b < w0.heap.size → S b) : Keeps S w0 w1 := h.grown hg hv
theorem keeps_append (hg : w.grownBy w1 v.ownBlock) : Keeps (fun b => v.ownBlock = some b) w w1 := (Keeps.refl _ w).grown hg (fun _ h _ => h)
end
end Go.Proofs.YtnddaildicmneaaGreat
