/-
  The play of tags: plain words; where the play stands.
-/
import Derived.Test.YtnccgmffgmfinaaOpenAct21
namespace Go.Proofs.Ytnccgmffgmfinaa
open Go.RowKit Go.Shelf

theorem idx_case (ts : List Nat) (x : Nat) : (ts.contains x = false ∧ idxR (fun y => y == x) ts = -1) ∨ ∃ i : Nat, i < ts.length ∧ ts[i]? = some x ∧ idxR (fun y => y == x) ts = i ∧ ts.contains x = true := by
  rcases idxR_cases (fun y => y == x) ts with ⟨h1, h2⟩ | ⟨i, hi, h1, h2, -⟩
  · refine .inl ⟨?_, h1⟩
    cases hc : ts.contains x with
    | false => rfl
    | true =>
      have := h2 x (List.contains_iff_mem.1 hc)
      simp at this
  · have hx : ts[i] = x := by simpa using h2
    exact .inr ⟨i, hi, by rw [List.getElem?_eq_getElem hi, hx], h1, List.contains_iff_mem.2 (by rw [← hx]; exact List.getElem_mem _)⟩
theorem erase_done {ts : List Nat} {i x : Nat} (hn : ts.Nodup) (hi : ts[i]? = some x) : ts.eraseIdx i = doneA ts x := by
  obtain ⟨h, hx⟩ := List.getElem?_eq_some_iff.1 hi
  have e : ts = ts.take i ++ x :: ts.drop (i + 1) := by rw [← hx, ← List.drop_eq_getElem_cons h, List.take_append_drop]
  rw [List.eraseIdx_eq_take_drop_succ]
  have hn2 := hn
  rw [e, List.nodup_append, List.nodup_cons] at hn2
  obtain ⟨-, ⟨n2, -⟩, n3⟩ := hn2
  have f1 : (ts.take i).filter (fun y => !(y == x)) = ts.take i := List.filter_eq_self.2 fun a ha => by
    have := n3 a ha x (by simp)
    simpa using this
  have f2 : (ts.drop (i + 1)).filter (fun y => !(y == x)) = ts.drop (i + 1) := List.filter_eq_self.2 fun a ha => by
    have : a ≠ x := fun e => n2 (by rw [← e]; exact ha)
    simpa using this
  have h2 : doneA ts x = doneA (ts.take i ++ x :: ts.drop (i + 1)) x := congrArg (fun l => doneA l x) e
  rw [h2]
  unfold doneA
  rw [List.filter_append, List.filter_cons, f1, f2]
  simp
theorem nodup_ask {ts : List Nat} {x : Nat} (hn : ts.Nodup) (hc : ts.contains x = false) : (ts ++ [x]).Nodup := by
  rw [List.nodup_append]
  refine ⟨hn, by simp, fun a ha b hb => ?_⟩
  rw [List.mem_singleton.1 hb]
  rintro rfl
  rw [List.contains_iff_mem.2 ha] at hc
  cases hc
theorem nodup_done {ts : List Nat} (x : Nat) (hn : ts.Nodup) : (doneA ts x).Nodup := List.Pairwise.sublist List.filter_sublist hn
theorem doneA_len (ts : List Nat) (x : Nat) : (doneA ts x).length ≤ ts.length := List.length_filter_le _ _
theorem doneW_stays {ts : List Nat} {ws : List (Nat × Nat)} {x : Nat} (hc : ts.contains x = true) : doneW ts ws x = ws.filter (stays x true) := by
  rw [doneW, if_pos hc]
  rfl
theorem flushW_no {ts : List Nat} {ws : List (Nat × Nat)} {x old : Nat} (hc : ts.contains x = false) : flushW ts ws x old = ws := by rw [flushW, hc]; rfl
theorem flushW_stays {ts : List Nat} {ws : List (Nat × Nat)} {x old : Nat} (hc : ts.contains x = true) (h : ¬ (old ≠ x ∧ ts.contains old = true)) : flushW ts ws x old = ws.filter (stays x false) := by
  rw [flushW, if_pos hc, if_neg h]
  congr 1
  funext t
  simp [stays]
theorem flushW_adds {ts : List Nat} {ws : List (Nat × Nat)} {x old : Nat} (hc : ts.contains x = true) (h : old ≠ x ∧ ts.contains old = true) : flushW ts ws x old = ws.filter (stays x false) ++ [(x, old)] := by
  rw [flushW, if_pos hc, if_pos h]
  congr 2
  funext t
  simp [stays]

theorem outs_at {ws : List (Nat × Nat)} {k y old : Nat} (h : ws[k]? = some (y, old)) : (outsL ws old)[(outsL (ws.take k) old).length]? = some y := by
  obtain ⟨hk, e⟩ := List.getElem?_eq_some_iff.1 h
  have hsp : ws = ws.take k ++ (y, old) :: ws.drop (k + 1) := by rw [← e, ← List.drop_eq_getElem_cons hk, List.take_append_drop]
  have h2 : outsL ws old = outsL (ws.take k ++ (y, old) :: ws.drop (k + 1)) old := congrArg (fun l => outsL l old) hsp
  rw [h2]
  unfold outsL
  rw [List.filter_append, List.map_append, List.getElem?_append_right (Nat.le_refl _), Nat.sub_self, List.filter_cons]
  simp
/-- where the play stands: the table, and the law's own rows, which lie elsewhere -/
structure StandT (w wr : World) (p : Nat) (g h : Option Nat) (ts : List Nat) (ws : List (Nat × Nat)) (rv wv : Value) : Prop where
  q : TOwn w wr p g h ts ws
  r : recU.Row wr rv ts
  l : recL.Row wr wv ws
  nr : ∀ b, rv.ownBlock = some b → ¬ only3 p g h b
  nl : ∀ b, wv.ownBlock = some b → ¬ only3 p g h b
  nd : ts.Nodup
  n32 : ts.length ≤ 32
section
variable {w wr w2 : World} {p : Nat} {g h g' h' : Option Nat} {ts ts' : List Nat} {ws ws' : List (Nat × Nat)} {rv wv : Value}
theorem StandT.same (s : StandT w wr p g h ts ws rv wv) (hk : Keeps nowhere wr w2) : StandT w w2 p g h ts ws rv wv := ⟨s.q.same hk, s.r.same hk, s.l.same hk, s.nr, s.nl, s.nd, s.n32⟩
theorem ne3_from {x : Option Nat} {n : Nat} (hn : ∀ b, x = some b → ¬ only3 p g h b) (hx : ∀ b, x = some b → b < n) (hf : From g n g') (hf2 : From h n h') : ∀ b, x = some b → ¬ only3 p g' h' b := fun b hb e => by
  rcases e with e | e | e
  · exact hn b hb (.inl e)
  · rcases hf b e.symm with h1 | h1
    · exact hn b hb (.inr (.inl h1.symm))
    · have := hx b hb; omega
  · rcases hf2 b e.symm with h1 | h1
    · exact hn b hb (.inr (.inr h1.symm))
    · have := hx b hb; omega
/-- the rows behind a call that changes the table alone -/
theorem StandT.rows (s : StandT w wr p g h ts ws rv wv) (hk : Keeps (only3 p g h) wr w2) (hf : From g wr.heap.size g') (hf2 : From h wr.heap.size h') :
    recU.Row w2 rv ts ∧ recL.Row w2 wv ws ∧ (∀ b, rv.ownBlock = some b → ¬ only3 p g' h' b) ∧ (∀ b, wv.ownBlock = some b → ¬ only3 p g' h' b) :=
  ⟨s.r.keep hk s.nr, s.l.keep hk s.nl, ne3_from s.nr s.r.lt hf hf2, ne3_from s.nl s.l.lt hf hf2⟩
theorem row_apart (hr : recU.Row wr rv ts) (hl : recL.Row wr wv ws) : ∀ b, rv.ownBlock = some b → wv.ownBlock ≠ some b := fun b e1 e2 => by
  rcases hr.blk with ⟨rfl, -⟩ | ⟨b1, c1, r1, rfl, k1, -⟩
  · simp [Value.ownBlock] at e1
  · rcases hl.blk with ⟨rfl, -⟩ | ⟨b2, c2, r2, rfl, k2, -⟩
    · simp [Value.ownBlock] at e2
    · simp only [Value.ownBlock, Option.some.injEq] at e1 e2
      subst e1 e2
      exact Blk.ne_ k1 k2 (by decide) rfl
end
/-- an append onto a row that lies elsewhere -/
theorem TOwn.aside {w0 w w2 : World} {p : Nat} {g h x : Option Nat} {ts : List Nat} {ws : List (Nat × Nat)} (o : TOwn w0 w p g h ts ws) (hk : Keeps (fun b => x = some b) w w2) (hx : ∀ b, x = some b → ¬ only3 p g h b) (ha : Above w0.heap.size x) : TOwn w0 w2 p g h ts ws :=
  ⟨o.t.keep hk (fun e => hx p e (.inl rfl)) (fun b e1 e2 => hx b e2 (.inr (.inl e1.symm))) (fun b e1 e2 => hx b e2 (.inr (.inr e1.symm))), o.hp, o.hg, o.hh, o.k.trans hk fun b hb e => by have := ha b e; omega⟩
/-- a call's three cells in the block `q` -/
def ActBox21 (w : World) (q : Nat) (t : Act21) : Prop := Blk w q 69 #[.int .i64 t.op, .int .u16 t.x, .int .u16 t.o]
theorem ActBox21.cells {w : World} {q : Nat} {t : Act21} (h : ActBox21 w q t) : w.cell? ⟨q, 0, none⟩ = some (.int .i64 t.op) ∧ w.cell? ⟨q, 1, none⟩ = some (.int .u16 t.x) ∧ w.cell? ⟨q, 2, none⟩ = some (.int .u16 t.o) :=
  ⟨by simpa using Blk.cell h 0, by simpa using Blk.cell h 1, by simpa using Blk.cell h 2⟩
theorem ActBox21.same {w w2 : World} {q : Nat} {t : Act21} (h : ActBox21 w q t) (hk : Keeps nowhere w w2) : ActBox21 w2 q t := Blk.keep h hk (fun h => h)
theorem ActBox21.keep3 {w0 w w2 : World} {q p : Nat} {g h : Option Nat} {t : Act21} {ts : List Nat} {ws : List (Nat × Nat)} (a : ActBox21 w q t) (o : TOwn w0 w p g h ts ws) (hk : Keeps (only3 p g h) w w2) : ActBox21 w2 q t := by
  refine Blk.keep a hk ?_
  obtain ⟨va, vw, hb, hu, hw, rfl, rfl⟩ := o.t
  rintro (e | e | e)
  · exact (hb.ne_ a (by decide)) e.symm
  · exact own_blk_ne hu a (by decide) e.symm
  · exact own_blk_ne hw a (by decide) e.symm
end Go.Proofs.Ytnccgmffgmfinaa
