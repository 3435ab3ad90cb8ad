/-
  fid: a fid as a value, rows of fids and of numbers, a map of fids by their numbers as a list that rises. Plain words and the map's laws.
-/
import Derived.Test.YtnddaildicmneaaChecked
import Derived.Test.YtnddaildicmneaaRec2
import Derived.Maps.OwnSet
namespace Go.Proofs.Ytnddaildicmneaa
open Go.RowKit

structure FidV where
  user : ByteArray
  path : Nat
  opn : Bool
  mode : Nat
  next : Nat
  seen : Int

def FidV.cs (f : FidV) : List Value := [.string f.user, .int .u64 f.path, .bool f.opn, .int .u8 f.mode, .int .u64 f.next, .int .i64 f.seen]
def FidV.v (f : FidV) : Value := .agg #[.string f.user, .int .u64 f.path, .bool f.opn, .int .u8 f.mode, .int .u64 f.next, .int .i64 f.seen]
def FidV.zero : FidV := ⟨ByteArray.empty, 0, false, 0, 0, 0⟩
theorem FidV.v_inj {f g : FidV} (h : f.v = g.v) : f = g := by
  obtain ⟨a, b, c, d, e, s⟩ := f
  obtain ⟨a', b', c', d', e', s'⟩ := g
  simp [FidV.v] at h
  obtain ⟨h1, h2, h3, h4, h5, h6⟩ := h
  obtain rfl : b = b' := by omega
  obtain rfl : d = d' := by omega
  obtain rfl : e = e' := by omega
  subst h1 h3 h6
  rfl
def recF : RecT FidV := ⟨31, 6, FidV.cs, fun _ => rfl, fun _ u hu => by simp [FidV.cs] at hu; rcases hu with rfl | rfl | rfl | rfl | rfl | rfl <;> rfl, by decide⟩
def recU4 : RecT Nat := ⟨28, 1, fun x => [.int .u32 x], fun _ => rfl, fun _ u hu => by rw [List.mem_singleton.1 hu]; rfl, by decide⟩
theorem infoU4 : (Try.prog.info? 28).map (fun i => (i.zero, i.size, i.bytes)) = some (some (.int .u32 0), 1, 4) := by kernel_rfl
theorem infoFd : (Try.prog.info? 31).map (fun i => (i.zero, i.size, i.bytes)) = some (some FidV.zero.v, 6, 48) := by kernel_rfl
theorem atU4 {w : World} {b a x : Nat} (h : recU4.At w b a x) : w.cell? ⟨b, a, none⟩ = some (.int .u32 x) := h 0 (by decide)

open Classical in
/-- how an element of the map reads: it is a fid's value -/
noncomputable def rdF (v : Value) : Option (DataW Value × List MemPlace) := if ∃ f : FidV, v = f.v then some (.held v, []) else none
theorem rdF_v (f : FidV) : rdF f.v = some (.held f.v, []) := if_pos ⟨f, rfl⟩
theorem rdF_inv {v : Value} {z : DataW Value × List MemPlace} (h : rdF v = some z) : ∃ f : FidV, v = f.v ∧ z = (.held f.v, []) := by
  unfold rdF at h
  split at h
  · rename_i he
    obtain ⟨f, rfl⟩ := he
    injection h with h
    exact ⟨f, rfl, h.symm⟩
  · cases h

/-! ### the list that the map holds -/
section
variable {α : Type}
def insM (a : Nat × α) : List (Nat × α) → List (Nat × α)
  | [] => [a]
  | y :: r => if a.1 < y.1 then a :: y :: r else y :: insM a r
def delM (l : List (Nat × α)) (x : Nat) : List (Nat × α) := l.filter fun p => !(p.1 == x)
def putM (l : List (Nat × α)) (x : Nat) (f : α) : List (Nat × α) := insM (x, f) (delM l x)
def look (l : List (Nat × α)) (x : Nat) : Option α := (l.find? fun p => p.1 == x).map (·.2)
def Rising (l : List (Nat × α)) : Prop := l.Pairwise fun p q => p.1 < q.1
theorem Rising.del {l : List (Nat × α)} (h : Rising l) (x : Nat) : Rising (delM l x) := h.filter _
theorem mem_insM {a p : Nat × α} : ∀ {l : List (Nat × α)}, p ∈ insM a l → p = a ∨ p ∈ l
  | [], h => by simp [insM] at h; exact .inl h
  | y :: r, h => by
    unfold insM at h
    split at h
    · simp only [List.mem_cons] at h ⊢; exact h
    · simp only [List.mem_cons] at h ⊢
      rcases h with h | h
      · exact .inr (.inl h)
      · exact (mem_insM h).imp_right .inr
theorem Rising.ins {a : Nat × α} : ∀ {l : List (Nat × α)}, Rising l → (∀ p ∈ l, p.1 ≠ a.1) → Rising (insM a l)
  | [], _, _ => by simp [insM, Rising]
  | y :: r, h, hn => by
    obtain ⟨h1, h2⟩ := List.pairwise_cons.1 h
    unfold insM
    split
    · rename_i hlt
      refine List.pairwise_cons.2 ⟨fun p hp => ?_, h⟩
      rcases List.mem_cons.1 hp with rfl | hp
      · exact hlt
      · exact Nat.lt_trans hlt (h1 p hp)
    · rename_i hlt
      refine List.pairwise_cons.2 ⟨fun p hp => ?_, Rising.ins h2 (fun p hp => hn p (List.mem_cons_of_mem _ hp))⟩
      rcases mem_insM hp with rfl | hp
      · have := hn y (List.mem_cons_self ..)
        omega
      · exact h1 p hp
theorem Rising.put {l : List (Nat × α)} (h : Rising l) (x : Nat) (f : α) : Rising (putM l x f) :=
  Rising.ins (h.del x) fun p hp => by
    have := (List.mem_filter.1 hp).2
    simpa using this
theorem length_insM (a : Nat × α) : ∀ l : List (Nat × α), (insM a l).length = l.length + 1
  | [] => rfl
  | y :: r => by
    unfold insM
    split
    · rfl
    · simp [length_insM a r]
theorem length_putM (l : List (Nat × α)) (x : Nat) (f : α) : (putM l x f).length ≤ l.length + 1 := by
  unfold putM
  rw [length_insM]
  have := List.length_filter_le (fun p : Nat × α => !(p.1 == x)) l
  unfold delM
  omega
theorem length_delM (l : List (Nat × α)) (x : Nat) : (delM l x).length ≤ l.length := List.length_filter_le _ _
end

def lkU (x : Nat) : Lit := .int .u32 x
def mapD (l : List (Nat × FidV)) : DataW Value := .map (l.map fun p => (lkU p.1, .held p.2.v))
theorem sameU (x y : Nat) : (lkU x).sameKey (lkU y) = (x == y) := by
  simp [lkU, Lit.sameKey]
  rw [Bool.eq_iff_iff]
  simp only [decide_eq_true_eq, beq_iff_eq]
  omega
theorem mapD_size (l : List (Nat × FidV)) : Maps.size (mapD l) = l.length := by simp [Maps.size, mapD]
theorem mapD_ins (x : Nat) (f : FidV) : ∀ l : List (Nat × FidV), DataW.insert (lkU x, .held f.v) (l.map fun p => (lkU p.1, (.held p.2.v : DataW Value))) = (insM (x, f) l).map fun p => (lkU p.1, .held p.2.v)
  | [] => rfl
  | y :: r => by
    unfold insM
    rw [List.map_cons, DataW.insert]
    have e : (lkU x).before (lkU y.1) = decide (x < y.1) := by simp [lkU, Lit.before]
    by_cases h : x < y.1
    · rw [if_pos (by rw [e]; simpa using h), if_pos h]; rfl
    · rw [if_neg (by rw [e]; simpa using h), if_neg h, mapD_ins x f r]; rfl
theorem mapD_filter (l : List (Nat × FidV)) (x : Nat) : (l.map fun p => (lkU p.1, (.held p.2.v : DataW Value))).filter (fun p => !p.1.sameKey (lkU x)) = (delM l x).map fun p => (lkU p.1, .held p.2.v) := by
  unfold delM
  rw [List.filter_map]
  congr 1
  refine List.filter_congr fun p _ => ?_
  simp only [Function.comp_apply]
  rw [sameU]
theorem mapD_put (l : List (Nat × FidV)) (x : Nat) (f : FidV) : (mapD l).put (lkU x) (.held f.v) = mapD (putM l x f) := by
  unfold mapD DataW.put
  simp only
  rw [mapD_filter, mapD_ins]; rfl
theorem mapD_del (l : List (Nat × FidV)) (x : Nat) : (mapD l).del (lkU x) = mapD (delM l x) := by
  unfold mapD DataW.del
  simp only
  rw [mapD_filter]
theorem mapD_find (l : List (Nat × FidV)) (x : Nat) : (l.map fun p => (lkU p.1, (.held p.2.v : DataW Value))).find? (fun p => p.1.sameKey (lkU x)) = (l.find? fun p => p.1 == x).map fun p => (lkU p.1, .held p.2.v) := by
  rw [List.find?_map]
  congr 1
  congr 1
  funext p
  simp only [Function.comp_apply]
  rw [sameU]
theorem mapD_at (l : List (Nat × FidV)) (x : Nat) (z : DataW Value) : (mapD l).atKey (lkU x) z = match look l x with | some f => .held f.v | none => z := by
  unfold mapD DataW.atKey look
  simp only
  rw [mapD_find]
  cases l.find? fun p => p.1 == x <;> rfl
theorem mapD_has (l : List (Nat × FidV)) (x : Nat) : Maps.has (mapD l) (lkU x) = (look l x).isSome := by
  cases h : look l x with
  | none => exact Maps.has_false_of_atKey (fun z => by rw [mapD_at, h])
  | some f => exact Maps.has_true_of_atKey (y := .held f.v) (fun z => by rw [mapD_at, h])

/-- block `b` is the map of the fids `l` -/
def MapAt (w : World) (b : Nat) (l : List (Nat × FidV)) : Prop := w.ownsMap Try.prog 28 rdF b l.length (mapD l) ∧ Rising l
theorem ownsMap_tight {H : Type} {P : Program} {k : TypeId} {R : Value → Option (DataW H × List MemPlace)} {w : World} {b n : Nat} {D : DataW H} (h : w.ownsMap P k R b n D) : w.ownsMap P k R b (Maps.size D) D := by
  obtain ⟨es, clock, hb, F, hs, rfl⟩ := h
  exact ⟨es, clock, hb, F, by simp [Maps.size, length_sorted], rfl⟩
theorem MapAt.of {w : World} {b n : Nat} {l : List (Nat × FidV)} (h : w.ownsMap Try.prog 28 rdF b n (mapD l)) (hr : Rising l) : MapAt w b l := by
  have := ownsMap_tight h
  rw [mapD_size] at this
  exact ⟨this, hr⟩
theorem MapAt.lt {w : World} {b : Nat} {l : List (Nat × FidV)} (h : MapAt w b l) : b < w.heap.size := h.1.lt
theorem MapAt.keep {S : Nat → Prop} {w w' : World} {b : Nat} {l : List (Nat × FidV)} (h : MapAt w b l) (hk : Keeps S w w') (hs : ¬ S b) : MapAt w' b l := by
  obtain ⟨⟨es, clock, hb, F, hn, hD⟩, hr⟩ := h
  exact ⟨⟨es, clock, (hk.block b (Array.getElem?_eq_some_iff.1 hb).1 hs).trans hb, F, hn, hD⟩, hr⟩
theorem keyU {x : Nat} (hx : x < 4294967296) : keyOf Try.prog 28 (.int .u32 x) = some (lkU x) :=
  Maps.keyOf_int_mk Try.underlying28 (by simp [Lit.wf, IntKind.min, IntKind.max, IntKind.signed, IntKind.bits]; omega)
theorem keyedU : Maps.Keyed Try.prog 28 := Maps.int_keyed Try.underlying28
theorem mapTurned_keeps {w w' : World} {b : Nat} (h : w.mapTurned w' b) : Keeps (only b) w w' :=
  (Keeps.refl _ w).grown h.grown (fun k e _ => by injection e with e; exact e.symm)
theorem zeroFd (w : World) : (zeroValue 31).run Try.prog w = .ok FidV.zero.v w := by kernel_rfl
end Go.Proofs.Ytnddaildicmneaa
