/-
  inode: what is read back; the plain laws.
-/
import Derived.Test.YtblmbchjafffbaaI6
namespace Go.Proofs.Ytblmbchjafffbaa
open Go.RowKit

theorem step_chunk (c R : List UInt8) (n : Int) (h1 : 1 ≤ n) (h8 : n ≤ 8) (hc : (c.length : Int) = n) : stepS (c ++ R, 0) n = (R, 0) ∧ takeVal (c ++ R) 0 n = le c := by
  have hl : n ≤ ((c ++ R).length : Nat) := by rw [List.length_append]; omega
  have hn : n.toNat = c.length := by omega
  refine ⟨?_, ?_⟩
  · unfold stepS
    rw [takeLeft, if_pos ⟨rfl, h1, h8, hl⟩, takeErr, if_neg (by simp), if_neg (show ¬ (n < 1 ∨ 8 < n) from by omega), if_neg (show ¬ (((c ++ R).length : Nat) : Int) < n from by omega), hn, List.drop_left]
  · rw [takeVal, if_pos ⟨rfl, h1, h8, hl⟩, hn, List.take_left]

theorem run_chunks (T : List UInt8) : ∀ (cs : List (List UInt8)) (ws : List Int), cs.map (fun c => (c.length : Int)) = ws → (∀ n ∈ ws, 1 ≤ n ∧ n ≤ 8) → ∀ k, k ≤ cs.length →
    (ws.take k).foldl stepS (cs.flatten ++ T, 0) = ((cs.drop k).flatten ++ T, 0)
  | cs, ws, _, _, 0, _ => by simp
  | [], ws, h, hw, k + 1, hk => by simp at hk
  | c :: cs, ws, h, hw, k + 1, hk => by
    rw [List.map_cons] at h
    subst h
    have hn := hw _ (List.mem_cons_self ..)
    have h1 := (step_chunk c (cs.flatten ++ T) c.length hn.1 hn.2 rfl).1
    rw [List.take_succ_cons, List.foldl_cons, List.flatten_cons, List.append_assoc, h1, run_chunks T cs _ rfl (fun n hn => hw n (List.mem_cons_of_mem _ hn)) k (by simpa using hk)]
    rfl

theorem val_chunk (T : List UInt8) (cs : List (List UInt8)) (h : cs.map (fun c => (c.length : Int)) = wds) (k : Nat) (c : List UInt8) (hk : cs[k]? = some c) : valAt (cs.flatten ++ T) k = le c := by
  obtain ⟨hlt, hc⟩ := List.getElem?_eq_some_iff.1 hk
  have hw : ∀ n ∈ wds, 1 ≤ n ∧ n ≤ 8 := by decide
  have hs : stAt (cs.flatten ++ T) k = ((cs.drop k).flatten ++ T, 0) := run_chunks T cs wds h hw k (by omega)
  have hd : cs.drop k = c :: cs.drop (k + 1) := by rw [List.drop_eq_getElem_cons hlt, hc]
  have hg : wds.getD k 0 = c.length := by
    rw [← h]
    simp [List.getD, hk]
  unfold valAt
  rw [hs, hd, hg, List.flatten_cons, List.append_assoc]
  have hm : (c.length : Int) ∈ wds := by
    rw [← h]
    exact List.mem_map.2 ⟨c, List.mem_of_getElem? hk, rfl⟩
  exact (step_chunk c _ c.length (hw _ hm).1 (hw _ hm).2 rfl).2

def chunks (i : Ino) : List (List UInt8) := [nb 4 i.m, nb 4 i.v, nb 4 i.s, nb 2 i.l, nb 2 0, nb 4 i.d0, nb 4 i.d1, nb 4 i.d2, nb 4 i.d3, nb 4 i.d4, nb 4 i.d5, nb 4 i.d6, nb 4 i.d7, nb 4 i.a, nb 4 i.b]
theorem encB_chunks (i : Ino) : encB i = (chunks i).flatten ++ zeros 8 := by simp [encB, encI, enc4, chunks, Ino.blocks]
theorem chunks_len (i : Ino) : (chunks i).map (fun c => (c.length : Int)) = wds := by simp [chunks, nb_len, wds]
theorem le4 {x : Nat} (h : x < 4294967296) : le (nb 4 x) = x := by rw [le_nb]; exact Nat.mod_eq_of_lt h
theorem le2 {x : Nat} (h : x < 65536) : le (nb 2 x) = x := by rw [le_nb]; exact Nat.mod_eq_of_lt h

theorem rdI_enc (i : Ino) (hi : i.ok) : rdI (encB i) = i := by
  have v := fun k c (hk : (chunks i)[k]? = some c) => val_chunk (zeros 8) (chunks i) (chunks_len i) k c hk
  rw [encB_chunks]
  obtain ⟨h0, h1, h2, h3, h4, h5, h6, h7, h8, h9, h10, h11, h12, h13⟩ := hi
  unfold rdI
  rw [v 0 _ rfl, v 1 _ rfl, v 2 _ rfl, v 3 _ rfl, v 5 _ rfl, v 6 _ rfl, v 7 _ rfl, v 8 _ rfl, v 9 _ rfl, v 10 _ rfl, v 11 _ rfl, v 12 _ rfl, v 13 _ rfl, v 14 _ rfl, le4 h0, le4 h1, le4 h2, le2 h3, le4 h4, le4 h5, le4 h6, le4 h7, le4 h8, le4 h9, le4 h10, le4 h11, le4 h12, le4 h13]
theorem good_enc (i : Ino) (hi : i.ok) (hc : chkI i = 0) : goodI (encB i) := by
  unfold goodI
  rw [rdI_enc i hi]
  exact ⟨hc, rfl⟩
theorem dec_enc (i : Ino) (hi : i.ok) (hc : chkI i = 0) : decI (encB i) = i ∧ decE (encB i) = 0 := by
  have h := good_enc i hi hc
  rw [decI, decE, if_pos h, if_pos h]
  exact ⟨rdI_enc i hi, rfl⟩
theorem dec_len (L : List UInt8) (h : L.length ≠ 64) : decE L = 2 ∧ decI L = zeroI := by
  have hg : ¬ goodI L := fun hg => h (by rw [← hg.2, encB_len])
  rw [decE, decI, if_neg hg, if_neg hg]
  exact ⟨rfl, rfl⟩
end Go.Proofs.Ytblmbchjafffbaa
