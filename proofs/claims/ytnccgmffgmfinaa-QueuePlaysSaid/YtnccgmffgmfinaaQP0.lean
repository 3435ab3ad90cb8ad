/-
  The play of a queue: plain words.
-/
import Derived.Test.YtnccgmffgmfinaaOpenAct25
import Derived.Test.YtnccgmffgmfinaaQOrd
import Derived.Test.YtnccgmffgmfinaaTree
namespace Go.Proofs.Ytnccgmffgmfinaa
open Go.RowKit Go.Shelf

/-- the last place with a connection and a tag, as far as was looked -/
def LastAt (l : List J) (c : Int) (t k : Nat) (a : Int) : Prop :=
  (a = -1 ∧ ∀ x ∈ l.take k, isJ c t x = false) ∨ (∃ m, m < k ∧ a = (m : Nat) ∧ ∃ x, l[m]? = some x ∧ isJ c t x = true)
theorem LastAt.start (l : List J) (c : Int) (t : Nat) : LastAt l c t 0 (-1) := .inl ⟨rfl, by simp⟩
theorem LastAt.hit {l : List J} {c : Int} {t k : Nat} {x : J} (hx : l[k]? = some x) (h : isJ c t x = true) : LastAt l c t (k + 1) (k : Nat) := .inr ⟨k, by omega, rfl, x, hx, h⟩
theorem LastAt.miss {l : List J} {c : Int} {t k : Nat} {a : Int} {x : J} (hl : LastAt l c t k a) (hx : l[k]? = some x) (h : isJ c t x = false) : LastAt l c t (k + 1) a := by
  rcases hl with ⟨rfl, hn⟩ | ⟨m, hm, rfl, y, hy, hp⟩
  · refine .inl ⟨rfl, fun y hy => ?_⟩
    obtain ⟨hk, rfl⟩ := List.getElem?_eq_some_iff.1 hx
    rw [List.take_succ_eq_append_getElem hk, List.mem_append, List.mem_singleton] at hy
    rcases hy with hy | rfl
    · exact hn y hy
    · exact h
  · exact .inr ⟨m, by omega, rfl, y, hy, hp⟩

/-- no two jobs of one connection with one tag -/
def Once (l : List J) : Prop := l.Pairwise fun a b => ¬ (a.c = b.c ∧ a.t = b.t)
theorem Once.nil : Once [] := List.Pairwise.nil
theorem Once.erase {l : List J} (h : Once l) (i : Nat) : Once (l.eraseIdx i) := List.Pairwise.sublist (List.eraseIdx_sublist l i) h
theorem Once.filter {l : List J} (h : Once l) (p : J → Bool) : Once (l.filter p) := List.Pairwise.sublist List.filter_sublist h
theorem Once.add {l : List J} (h : Once l) {j : J} (hj : ∀ x ∈ l, isJ j.c j.t x = false) : Once (l ++ [j]) := by
  unfold Once
  rw [List.pairwise_append]
  refine ⟨h, List.pairwise_singleton _ _, fun a ha b hb => ?_⟩
  rw [List.mem_singleton.1 hb]
  have := hj a ha
  intro ⟨h1, h2⟩
  simp [isJ, h1, h2] at this
theorem Once.only {l : List J} (h : Once l) {c : Int} {t k m : Nat} {x y : J} (hx : l[k]? = some x) (hy : l[m]? = some y) (h1 : isJ c t x = true) (h2 : isJ c t y = true) : k = m := by
  obtain ⟨hk, rfl⟩ := List.getElem?_eq_some_iff.1 hx
  obtain ⟨hm, rfl⟩ := List.getElem?_eq_some_iff.1 hy
  simp only [isJ, Bool.and_eq_true, decide_eq_true_eq] at h1 h2
  rcases Nat.lt_trichotomy k m with e | e | e
  · exact absurd ⟨h1.1.trans h2.1.symm, h1.2.trans h2.2.symm⟩ (List.pairwise_iff_getElem.1 h k m hk hm e)
  · exact e
  · exact absurd ⟨h2.1.trans h1.1.symm, h2.2.trans h1.2.symm⟩ (List.pairwise_iff_getElem.1 h m k hm hk e)
theorem Once.cut {l : List J} (h : Once l) {c : Int} {t k : Nat} {x : J} (hx : l[k]? = some x) (h1 : isJ c t x = true) : cutL l c t = l.eraseIdx k ∧ l.any (isJ c t) = true := by
  rcases idxP_cases (isJ c t) l with ⟨_, hno⟩ | ⟨i, hi, _, hp, hn⟩
  · exact absurd (hno x (List.mem_of_getElem? hx)) (by simp [h1])
  · obtain rfl := h.only hx (List.getElem?_eq_getElem hi) h1 hp
    exact cut_some hi hp hn

/-- what the last place says of the row: none -/
theorem last_none {l : List J} {c : Int} {t : Nat} {a : Int} (h : LastAt l c t l.length a) (ha : a < 0) : a = -1 ∧ (∀ x ∈ l, isJ c t x = false) ∧ cutL l c t = l ∧ l.any (isJ c t) = false := by
  rcases h with ⟨rfl, hn⟩ | ⟨m, _, rfl, _⟩
  · rw [List.take_length] at hn
    exact ⟨rfl, hn, cut_none hn⟩
  · omega
theorem last_some {l : List J} {c : Int} {t : Nat} {a : Int} (ho : Once l) (h : LastAt l c t l.length a) (ha : ¬ a < 0) : ∃ m : Nat, a = m ∧ m < l.length ∧ cutL l c t = l.eraseIdx m ∧ l.any (isJ c t) = true := by
  rcases h with ⟨rfl, hn⟩ | ⟨m, _, rfl, x, hx, hp⟩
  · omega
  · exact ⟨m, rfl, (List.getElem?_eq_some_iff.1 hx).1, ho.cut hx hp⟩
theorem put_new {l : List J} {j : J} (hl : l.length < 512) (h : l.any (isJ j.c j.t) = false) : putE l j = 0 ∧ putL l j = l ++ [j] := by
  have hE : putE l j = 0 := by rw [putE, if_neg (by omega), if_neg (by rw [h]; simp)]
  exact ⟨hE, by rw [putL, if_pos hE]⟩
theorem put_old {l : List J} {j : J} (hl : l.length < 512) (h : l.any (isJ j.c j.t) = true) : putE l j = 7 ∧ putL l j = l := by
  have hE : putE l j = 7 := by rw [putE, if_neg (by omega), if_pos (by rw [h])]
  exact ⟨hE, by rw [putL, if_neg (by rw [hE]; decide)]⟩
/-- what is picked, and where it stands -/
theorem pick_at {l : List J} (ho : Once l) (i : Int) (hne : l ≠ []) : ∃ (k : Nat) (j : J), (idxs l l.length)[i.toNat % (idxs l l.length).length]? = some k ∧ k < l.length ∧ l[k]? = some j ∧ pickV l i = .tuple #[j.v, .bool true] ∧ pickL l i = l.eraseIdx k ∧ 0 < (idxs l l.length).length := by
  have hp := ready_pos hne
  rw [ready_len] at hp
  have hm := Nat.mod_lt i.toNat hp
  obtain ⟨k, hk⟩ : ∃ k, (idxs l l.length)[i.toNat % (idxs l l.length).length]? = some k := ⟨_, List.getElem?_eq_getElem hm⟩
  obtain ⟨h1, h2⟩ := idxs_get hk
  have hj : pickJ l i = some (l[k]'h2) := by
    unfold pickJ
    rw [ready_len, h1]
    exact List.getElem?_eq_getElem h2
  obtain ⟨h3, h4⟩ := pick_val hj
  refine ⟨k, l[k], hk, h2, List.getElem?_eq_getElem h2, h3, ?_, hp⟩
  rw [h4]
  exact (ho.cut (List.getElem?_eq_getElem h2) (by simp [isJ])).1
theorem pick_nil (i : Int) : pickV [] i = .tuple #[noJ.v, .bool false] ∧ pickL [] i = [] := by
  have : pickJ [] i = none := by unfold pickJ; simp [readyL, readyTo]
  unfold pickV pickL
  rw [this]
  exact ⟨rfl, rfl⟩
theorem take_filter_succ {l : List J} {k : Nat} {x : J} (hx : l[k]? = some x) (p : J → Bool) : (l.take (k + 1)).filter p = (l.take k).filter p ++ (if p x = true then [x] else []) := by
  obtain ⟨hk, rfl⟩ := List.getElem?_eq_some_iff.1 hx
  rw [List.take_succ_eq_append_getElem hk, List.filter_append]
  congr 1
  cases h : p l[k] <;> simp [h]

/-- where the play stands: the queue, and the row of its jobs, which lies elsewhere -/
structure StandQ (w wr : World) (p : Nat) (g : Option Nat) (l : List J) (rv : Value) : Prop where
  q : QOwn w wr p g l
  r : JRow wr rv l
  ne : ∀ b, rv.ownBlock = some b → ¬ only2 p g b
theorem QOwn.apart {w wr : World} {p : Nat} {g : Option Nat} {l : List J} (h : QOwn w wr p g l) {x : Option Nat} (hx : Above wr.heap.size x) : ∀ b, x = some b → ¬ only2 p g b := fun b hb e => by
  have h1 := hx b hb
  have h2 := h.q.lt
  rcases e with e | e
  · omega
  · have := h2.2.1 b e.symm; omega
theorem StandQ.same {w wr w2 : World} {p : Nat} {g : Option Nat} {l : List J} {rv : Value} (h : StandQ w wr p g l rv) (hk : Keeps nowhere wr w2) : StandQ w w2 p g l rv := ⟨h.q.same hk, h.r.keep hk (fun _ _ h => h), h.ne⟩
theorem StandQ.to {w wr w2 : World} {p : Nat} {g : Option Nat} {l l2 : List J} {rv rv2 : Value} (h : QOwn w wr p g l2) (hr : JRow w2 rv2 l2) (ha : Above wr.heap.size rv2.ownBlock) (hk : Keeps nowhere wr w2) : StandQ w w2 p g l2 rv2 :=
  ⟨h.same hk, hr, h.apart ha⟩
/-- a call's six cells in the block `q` -/
def ActBox25 (w : World) (q : Nat) (t : Act25) : Prop := Blk w q 47 #[.int .i64 t.op, .int .i64 t.n, .int .i64 t.j.c, .int .u16 t.j.t, .int .u16 t.j.o, .bool t.j.s]
theorem ActBox25.cells {w : World} {q : Nat} {t : Act25} (h : ActBox25 w q t) : w.cell? ⟨q, 0, none⟩ = some (.int .i64 t.op) ∧ w.cell? ⟨q, 1, none⟩ = some (.int .i64 t.n) ∧ w.cell? ⟨q, 2, none⟩ = some (.int .i64 t.j.c) ∧ w.cell? ⟨q, 3, none⟩ = some (.int .u16 t.j.t) ∧ w.cell? ⟨q, 4, none⟩ = some (.int .u16 t.j.o) ∧ w.cell? ⟨q, 5, none⟩ = some (.bool t.j.s) :=
  ⟨by simpa using Blk.cell h 0, by simpa using Blk.cell h 1, by simpa using Blk.cell h 2, by simpa using Blk.cell h 3, by simpa using Blk.cell h 4, by simpa using Blk.cell h 5⟩
theorem ActBox25.keep2 {w0 w w2 : World} {q p : Nat} {g : Option Nat} {t : Act25} {l : List J} (h : ActBox25 w q t) (hq : QOwn w0 w p g l) (hk : Keeps (only2 p g) w w2) : ActBox25 w2 q t := by
  refine Blk.keep h hk ?_
  obtain ⟨v, h1, h2, hg⟩ := hq.q
  rintro (e | e)
  · exact (h1.ne_ h (by decide)) e.symm
  · rw [hg] at e
    exact own_blk_ne h2 h (by decide) e.symm
end Go.Proofs.Ytnccgmffgmfinaa
