/-
  frame: 'caught' lets a stream die; New, Held, Dead; append to a slice of slices of bytes; what Feed tells, as a plain function.
-/
import Derived.Test.YtblmbchjafffbaaF0
namespace Go.Proofs.Ytblmbchjafffbaa
open Go.RowKit

theorem infoSl : (Try.prog.info? 24).map (fun i => (i.zero, i.size, i.bytes)) = some (some (.slice none 0 0), 1, 24) := by kernel_rfl

/-- The value owns a row of slices. -/
def OwnSl (w : World) (v : Value) (vs : List Value) : Prop := w.ownsRow 0 24 1 v vs.length vs
theorem OwnSl.nil (w : World) : OwnSl w (.slice none 0 0) [] := World.ownsRow_nil _ _ _ _
theorem OwnSl.rd {w : World} {v : Value} {vs : List Value} (h : OwnSl w v vs) : Rd w v v.ownBlock vs := Rd.of_own h
theorem OwnSl.keep {w w' : World} {v : Value} {vs : List Value} {S : Nat → Prop} (h : OwnSl w v vs) (hk : Keeps S w w') (hs : ∀ b, v.ownBlock = some b → ¬ S b) : OwnSl w' v vs := own_keep h hk hs
theorem OwnSl.lt {w : World} {v : Value} {vs : List Value} (h : OwnSl w v vs) : Under w.heap.size v.ownBlock := fun b hb => (World.ownsRow.lt h b hb).2
theorem OwnSl.form {w : World} {v : Value} {vs : List Value} (h : OwnSl w v vs) : ∃ A c, v = .slice A vs.length c ∧ vs.length ≤ c ∧ c ≤ maxLen := (OwnSl.rd h).form

theorem Parts.one {w : World} {A : Nat → Prop} {vs : List Value} {Ls : List (List UInt8)} (h : Parts w A vs Ls) : ∀ u ∈ vs, u.oneCell' = true := by
  intro u hu
  obtain ⟨i, hi, rfl⟩ := List.mem_iff_getElem.1 hu
  obtain ⟨v, L, g, h1, _, h3, _⟩ := h.at_ hi
  rw [List.getElem?_eq_getElem hi] at h1
  injection h1 with h1
  rw [h1]
  obtain ⟨a, c, rfl, _⟩ := h3.form
  rfl

/-- A row of the call's own and the parts in it; no part lies in the row itself, all lie from `N` on. -/
def Heap (w : World) (N : Nat) (v : Value) (Ls : List (List UInt8)) : Prop :=
  ∃ vs, OwnSl w v vs ∧ Parts w (fun b => N ≤ b ∧ v.ownBlock ≠ some b) vs Ls ∧ Above N v.ownBlock

section
variable {w w' : World} {N : Nat} {v : Value} {Ls : List (List UInt8)}
theorem Heap.nil (w : World) (N : Nat) : Heap w N (.slice none 0 0) [] := ⟨[], OwnSl.nil _, Parts.nil _ _, Above.none _⟩
theorem Heap.keep {S : Nat → Prop} (h : Heap w N v Ls) (hk : Keeps S w w') (hs : ∀ b, N ≤ b → ¬ S b) : Heap w' N v Ls := by
  obtain ⟨vs, h1, h2, h3⟩ := h
  exact ⟨vs, h1.keep hk fun b hb => hs b (h3 b hb), h2.keep hk fun b hb => hs b hb.1, h3⟩
theorem Heap.mono {M : Nat} (h : Heap w N v Ls) (hM : M ≤ N) : Heap w M v Ls := by
  obtain ⟨vs, h1, h2, h3⟩ := h
  exact ⟨vs, h1, h2.mono fun b _ hb => ⟨by omega, hb.2⟩, h3.mono hM⟩
theorem Heap.form (h : Heap w N v Ls) : ∃ A c, v = .slice A Ls.length c ∧ Ls.length ≤ c ∧ c ≤ maxLen := by
  obtain ⟨vs, h1, h2, _⟩ := h
  rw [← h2.1]
  exact h1.form
theorem Heap.rd (h : Heap w N v Ls) : ∃ vs, Rd w v v.ownBlock vs ∧ Parts w (fun b => N ≤ b) vs Ls := by
  obtain ⟨vs, h1, h2, _⟩ := h
  exact ⟨vs, h1.rd, h2.mono fun b _ hb => hb.1⟩
end

section
variable {ops : Array Oper} {rest : List Oper} {o : Oper} {a : Act} {Q : Exit → Act → World → Prop} {w : World}
theorem wpList_append_parts (hgd : o.guard = none) (s x : Operand) (ho : o.op = .call { callee := .builtin .append, args := #[s, x], argTypes := #[22, 22] })
    (N : Nat) (v : Value) (Ls : List (List UInt8)) (hs : a.eval s = v) (hown : Heap w N v Ls) (hN : N ≤ w.heap.size) (vx : Value) (gx : Option Nat) (us : List Value) (Ms : List (List UInt8)) (hx : a.eval x = vx) (hr : Rd w vx gx us)
    (hp : Parts w (fun b => N ≤ b ∧ v.ownBlock ≠ some b) us Ms) (hb : Ls.length + Ms.length ≤ 1099511627776)
    (h : ∀ v' w', Heap w' N v' (Ls ++ Ms) → Keeps (fun b => v.ownBlock = some b) w w' → From v.ownBlock w.heap.size v'.ownBlock → wpList Try.prog ops Q rest (a.put o.dst v') w') : wpList Try.prog ops Q (o :: rest) a w := by
  obtain ⟨i0, hi, hz0, hz1, hz2⟩ := info_parts infoSl
  obtain ⟨vs, h1, h2, h3⟩ := hown
  have hl1 := h2.1
  have hl2 := hp.1
  refine wpList_append_rd w hgd s x _ ho 0 24 i0 _ 24 Try.underlying22 hi hz0 hz1 hz2 rfl v vs.length vs hs h1 vx gx us hx hr hp.one (by simp [maxLen]; omega) (by omega) (Nat.zero_le _) fun v' w' k1 k2 k3 => ?_
  have hk : Keeps (fun b => v.ownBlock = some b) w w' := keeps_append k2
  refine h v' w' ⟨vs ++ us, ?_, ?_, h3.of_from k3 hN⟩ hk k3
  · unfold OwnSl; simpa using k1
  · have hne : ∀ b, b < w.heap.size → (N ≤ b ∧ v.ownBlock ≠ some b) → (N ≤ b ∧ v'.ownBlock ≠ some b) := fun b hb hb' => ⟨hb'.1, fun e => (k3 b e).elim hb'.2 (by omega)⟩
    have m1 := (h2.append hp).mono hne
    exact ⟨m1.1, fun i u L hu hL => by
      obtain ⟨g, hg, ha⟩ := (h2.append hp).2 i u L hu hL
      exact ⟨g, hg.keep hk (fun b hb e => (ha b hb).2 e), fun b hb => hne b (hg.lt b hb) (ha b hb)⟩⟩
end

/-- what Feed tells of the bytes that it then holds: the bodies, what is left, is it dead? -/
def feed (m : Nat) (L : List UInt8) : List (List UInt8) × List UInt8 × Bool :=
  if h4 : L.length < 4 then ([], L, false)
  else if h7 : sizeN L < 7 ∨ m < sizeN L then ([], [], true)
  else if L.length < sizeN L then ([], L, false)
  else (((L.drop 4).take (sizeN L - 4)) :: (feed m (L.drop (sizeN L))).1, (feed m (L.drop (sizeN L))).2)
termination_by L.length
decreasing_by all_goals (simp only [List.length_drop]; omega)

theorem feed_wait {m : Nat} {L : List UInt8} (h : L.length < 4 ∨ (7 ≤ sizeN L ∧ sizeN L ≤ m ∧ L.length < sizeN L)) : feed m L = ([], L, false) := by
  rw [feed]
  by_cases h4 : L.length < 4
  · rw [dif_pos h4]
  · rw [dif_neg h4, dif_neg (by omega), if_pos (by omega)]
theorem feed_dead {m : Nat} {L : List UInt8} (h : 4 ≤ L.length ∧ (sizeN L < 7 ∨ m < sizeN L)) : feed m L = ([], [], true) := by
  rw [feed, dif_neg (by omega), dif_pos h.2]
theorem feed_cut {m : Nat} {L : List UInt8} (h : 7 ≤ sizeN L ∧ sizeN L ≤ m ∧ sizeN L ≤ L.length) :
    feed m L = (((L.drop 4).take (sizeN L - 4)) :: (feed m (L.drop (sizeN L))).1, (feed m (L.drop (sizeN L))).2) := by
  conv => lhs; rw [feed]
  rw [dif_neg (by omega), dif_neg (by omega), if_neg (by omega)]

set_option maxHeartbeats 400000 in
theorem f_caught_idle (p : Nat) (w : World) :
    CallsD Try.prog 44 #[.pointer (some ⟨p, 0, none⟩)] .returning w fun e u' w' => e = .returned (.tuple #[]) ∧ u' = .returning ∧ w' = w := by
  refine callsD_of_wpS Try.func44 rfl fun c₀ cs hu => ?_
  apply wpS_seq
  apply wpS_region
  simp [wpOpsS, go_sem, recoverD, hu, Try.ntmps44, Exit.thenS, Array.replicate_succ]
  refine wpS_of_wp ?_
  go_wp2
  cases c₀
  simp_all [bodyPostS, results, Try.results44]

set_option maxHeartbeats 400000 in
theorem f_caught_panic (p : Nat) (v : Value) (d : Bool) (older : List PanicEntry) (w : World) (hb : Blk w p 84 #[v, .bool d]) :
    CallsD Try.prog 44 #[.pointer (some ⟨p, 0, none⟩)] (.panicking ({ v := .iface 100 (.agg #[]), recovered := false } :: older)) w fun e u' w' =>
      e = .returned (.tuple #[]) ∧ u' = .panicking ({ v := .iface 100 (.agg #[]), recovered := true } :: older) ∧ StAt 84 w' p none [] true ∧ Keeps (only p) w w' := by
  have hb1 := hb.alloc (.cells #[] 100)
  have hc0 := hb1.cell 0
  have hf0 := hb1.frozen 0
  have hc1 := hb1.cell 1
  have hf1 := hb1.frozen 1
  simp at hc0 hc1
  have Hb1 := Lib.hid hb1
  clear hb1
  have hta : ∀ w, (Instr.typeAssert (.iface 100 (.agg #[])) 20 100 true).run Try.prog w = .ok (.tuple #[.agg #[], .bool true]) w := fun _ => by kernel_rfl
  have Hb := Lib.hid hb
  clear hb
  refine callsD_of_wpS Try.func44 rfl fun c₀ cs hu => ?_
  apply wpS_seq
  apply wpS_region
  simp [wpOpsS, go_sem, recoverD, hu, Try.ntmps44, Exit.thenS, Array.replicate_succ]
  refine wpS_of_wp ?_
  go_wp2
  simp [bodyPostS, results, Try.results44]
  have h2 := (Hb1.out.set_ 0 (.slice none 0 0)).set_ 1 (.bool true)
  exact ⟨⟨_, by simpa using h2, Rd.nil _, by simp⟩, (((Keeps.refl (only p) w).alloc _).setCell (p := ⟨p, 0, none⟩) (fun _ => rfl) _).setCell (p := ⟨p, 1, none⟩) (fun _ => rfl) _⟩

set_option maxHeartbeats 400000 in
theorem f_new (w : World) :
    Calls Try.prog 17 #[] w fun e w' => e = .returned (.pointer (some ⟨w.heap.size, 0, none⟩)) ∧ StAt 84 w' w.heap.size none [] false ∧ Keeps nowhere w w' := by
  go_enter Try.func17, Try.ntmps17
  go_wp2
  go_ret
  exact ⟨rfl, StAt.new _ _, (Keeps.refl _ _).alloc _⟩

set_option maxHeartbeats 400000 in
theorem f_held (p : Nat) (g : Option Nat) (L : List UInt8) (d : Bool) (w : World) (h : StAt 84 w p g L d) :
    Calls Try.prog 20 #[.pointer (some ⟨p, 0, none⟩)] w fun e w' => e = .returned (.int .i64 L.length) ∧ w = w' := by
  obtain ⟨v, hb, hr, _⟩ := h
  have hc0 := hb.cell 0
  simp at hc0
  obtain ⟨A, c, rfl, _⟩ := hr.form
  rw [List.length_map] at hc0
  clear hr hb
  go_enter Try.func20, Try.ntmps20
  go_wp2
  go_ret
  exact ⟨rfl, rfl⟩

set_option maxHeartbeats 400000 in
theorem f_dead (p : Nat) (g : Option Nat) (L : List UInt8) (d : Bool) (w : World) (h : StAt 84 w p g L d) :
    Calls Try.prog 21 #[.pointer (some ⟨p, 0, none⟩)] w fun e w' => e = .returned (.bool d) ∧ w = w' := by
  obtain ⟨v, hb, hr, _⟩ := h
  have hc1 := hb.cell 1
  simp at hc1
  clear hr hb
  go_enter Try.func21, Try.ntmps21
  go_wp2
  go_ret
  exact ⟨rfl, rfl⟩
end Go.Proofs.Ytblmbchjafffbaa
