/-
  frame: the statement FrameEach, walked.
-/
import Derived.Test.YtblmbchjafffbaaFSizes
namespace Go.Proofs.Ytblmbchjafffbaa
open Go.RowKit

theorem feedS_nil (m : Nat) : feedS m [] false [] = ([], [], false) := feed_wait (.inl (by simp))

theorem feedS_step {m : Nat} {B : List UInt8} {k : Nat} (hk : k < B.length) {Ls M : List (List UInt8)} {R R' : List UInt8} {d d' : Bool} (h : feedS m [] false (B.take k) = (Ls, R, d)) (h' : feedS m R d [B[k]] = (M, R', d')) :
    feedS m [] false (B.take (k + 1)) = (Ls ++ M, R', d') := by
  rw [List.take_add_one, List.getElem?_eq_getElem hk, feedS_app, h]
  simp only [Option.toList_some]
  rw [h']

/-- `x[k:k+j]` as the model spells it -/
theorem Rd.mid {w : World} {A : Option Addr} {n c : Nat} {g : Option Nat} {xs : List Value} (h : Rd w (.slice A n c) g xs) (k j : Nat) (hkj : k + j ≤ xs.length) : Rd w (.slice (if c = k then A else A.map (·.add (k * 1))) j (c - k)) g ((xs.drop k).take j) :=
  (h.drop k (by omega) _ _ _ rfl).take j (by rw [List.length_drop]; omega) _ _ _ rfl
theorem Rd.one {w : World} {b off n c : Nat} {g : Option Nat} {B : List UInt8} (h : Rd w (.slice (some ⟨b, off, none⟩) n c) g (B.map bv)) (k : Nat) (hk : k < B.length) (hc : B.length ≤ c) : Rd w (.slice (some ⟨b, off + k, none⟩) 1 (c - k)) g (([B[k]] : List UInt8).map bv) := by
  have h1 := h.mid k 1 (by rw [List.length_map]; omega)
  rw [if_neg (by omega)] at h1
  rw [← List.map_drop, ← List.map_take, List.drop_eq_getElem_cons hk] at h1
  simpa only [Option.map_some, Addr.add_lit, Nat.mul_one, List.take_succ_cons, List.take_zero] using h1

/-- What is needed of a loop that gathers bodies behind a stream: the gathered row, the stream, and that neither lies in the other. -/
structure Gath (T : TypeId) (w : World) (N q : Nat) (o : Value) (Ls : List (List UInt8)) (R : List UInt8) (d : Bool) : Prop where
  heap : Heap w N o Ls
  st : ∃ g, StAt T w q g R d ∧ ∀ b, g = some b → N ≤ b ∧ o.ownBlock ≠ some b
  lt : q < N

theorem Gath.feed {T : TypeId} {w w' : World} {N q : Nat} {o : Value} {Ls : List (List UInt8)} {R : List UInt8} {d : Bool} (h : Gath T w N q o Ls R d) (hN : N ≤ w.heap.size) {r : List (List UInt8) × List UInt8 × Bool} {e : Ending} {g : Option Nat}
    (hst : StAt T w q g R d) (hg : ∀ b, g = some b → N ≤ b ∧ o.ownBlock ≠ some b) (hr : RetFeed T w q g r e w') :
    ∃ v us g', e = .returned v ∧ Rd w' v v.ownBlock us ∧ Parts w' (fun b => N ≤ b ∧ o.ownBlock ≠ some b) us r.1 ∧ Heap w' N o Ls ∧ StAt T w' q g' r.2.1 r.2.2 ∧ (∀ b, g' = some b → N ≤ b ∧ o.ownBlock ≠ some b) ∧ Keeps (only q) w w' := by
  obtain ⟨v, g', rfl, hh, hs, hf, hk⟩ := hr
  obtain ⟨us, h1, h2⟩ := hh.rd
  have hol : ∀ b, o.ownBlock = some b → b < w.heap.size := fun b hb => by
    obtain ⟨vs, k1, _⟩ := h.heap
    exact k1.lt b hb
  refine ⟨v, us, g', rfl, h1, h2.mono fun b _ hb => ⟨Nat.le_trans hN hb, fun e => by have := hol b e; omega⟩, h.heap.keep hk fun b hb e => ?_, hs, fun b hb => ?_, hk⟩
  · have := h.lt
    unfold only at e
    omega
  · rcases hf b hb with h3 | h3
    · exact hg b h3
    · exact ⟨Nat.le_trans hN h3, fun e => by have := hol b e; omega⟩

theorem Gath.append {T : TypeId} {w w1 w' : World} {N q : Nat} {o v' : Value} {Ls M : List (List UInt8)} {R R' : List UInt8} {d d' : Bool} {g' : Option Nat} (h : Gath T w N q o Ls R d) (hh1 : Heap w1 N o Ls)
    (hs1 : StAt T w1 q g' R' d') (hg1 : ∀ b, g' = some b → N ≤ b ∧ o.ownBlock ≠ some b) (hh : Heap w' N v' (Ls ++ M)) (hk : Keeps (fun b => o.ownBlock = some b) w1 w') (hf : From o.ownBlock w1.heap.size v'.ownBlock) :
    Gath T w' N q v' (Ls ++ M) R' d' := by
  have hq := h.lt
  refine ⟨hh, ⟨g', hs1.keep hk (fun e => ?_) (fun b hb e => (hg1 b hb).2 e), fun b hb => ⟨(hg1 b hb).1, fun e => ?_⟩⟩, hq⟩
  · obtain ⟨vs, _, _, h3⟩ := hh1
    have := h3 q e
    omega
  · rcases hf b e with h3 | h3
    · exact (hg1 b hb).2 h3
    · have := hs1.lt.2 b hb
      omega

theorem Gath.keeps {w w1 w2 w' : World} {N q : Nat} {o : Value} {Ls : List (List UInt8)} {S : Nat → Prop} (h1 : Heap w1 N o Ls) (hN : w.heap.size ≤ N) (hk : Keeps S w w2) (hk1 : Keeps (only q) w2 w1) (hk' : Keeps (fun b => o.ownBlock = some b) w1 w') (hS : S q) : Keeps S w w' :=
  (hk.trans hk1 fun b _ e => by unfold only at e; subst e; exact hS).trans hk' fun b hb e => by
    obtain ⟨vs, _, _, h3⟩ := h1
    have := h3 b e
    omega

set_option maxHeartbeats 3200000 in
set_option maxRecDepth 20000 in
theorem each_walk (v0 : Value) (g0 : Option Nat) (B : List UInt8) (w : World) (hr : Rd w v0 g0 (B.map bv)) : Calls Try.prog 5 #[v0] w (Yes w) := by
  obtain ⟨A0, c0, rfl, hlc, hmc⟩ := hr.form
  rw [List.length_map] at *
  unfold maxLen at hmc
  by_cases hlong : 300 < B.length
  · have hl' : (300 : Int) < B.length := by omega
    have Hr := Lib.hid hr
    clear hr
    go_enter Try.func5, Try.ntmps5
    go_wp2_with fail
    refine (known6 w).mono ?_
    rintro e w1 ⟨rfl, hk1⟩
    have Hk1 := Lib.hid hk1
    clear hk1
    go_wp2_with fail
    go_ret
    exact ⟨rfl, Hk1.out⟩
  · have hl' : ¬ (300 : Int) < B.length := by omega
    have hpl : ∀ k, k < B.length → ∃ b o, A0 = some ⟨b, o, none⟩ ∧ g0 = some b := fun k hk => by
      obtain ⟨b, o, c, he, hg, -⟩ := hr.plain (by rw [List.length_map]; omega)
      injection he with e1 e2 e3
      exact ⟨b, o, e1, hg⟩
    obtain ⟨n, hn⟩ : ∃ n, n = B.length := ⟨_, rfl⟩
    rw [← hn] at hr hl' hlc hlong hpl ⊢
    have Hr := Lib.hid hr
    have Hpl := Lib.hid hpl
    have Hn := Lib.hid hn
    clear hr hpl hn
    go_enter Try.func5, Try.ntmps5
    go_wp2_with fail
    refine (known6 w).mono ?_
    rintro e w1 ⟨rfl, hk1⟩
    have Hk1 := Lib.hid hk1
    clear hk1
    go_wp2_with fail
    refine (f_new _).mono ?_
    rintro e w2 ⟨rfl, hs2, hk2⟩
    have Hs2 := Lib.hid hs2
    have Hk2 := Lib.hid hk2
    clear hs2 hk2
    go_wp2_with fail
    refine (f_new _).mono ?_
    rintro e w3 ⟨rfl, ht3, hk3⟩
    have hs3 := Hs2.out.keep0 hk3
    have hkw3 := (Hk1.out.more Hk2.out).more hk3
    have hr3 := Hr.out.keep hkw3 (fun _ _ h => h)
    obtain ⟨X, Y, d, hR⟩ : ∃ X Y d, feedS 100 [] false B = (X, Y, d) := ⟨_, _, _, rfl⟩
    have hsl := Hs2.out.lt.1
    have htl := ht3.lt.1
    have Ht3 := Lib.hid ht3
    have Hk3 := Lib.hid hk3
    have Hs3 := Lib.hid hs3
    have Hkw3 := Lib.hid hkw3
    have Hr3 := Lib.hid hr3
    have HR := Lib.hid hR
    clear ht3 hk3 hs3 hkw3 hr3 hR
    go_wp2_with fail
    refine (feed_any _ _ _ [] B false 100 _ _ Hs3.out Hr3.out (by omega) (by rw [← Hn.out]; simp; omega)).mono ?_
    rw [HR.out]
    rintro e w4 ⟨vx, gx, rfl, hhx, hs4, hf4, hk4⟩
    have ht4 := Ht3.out.keep hk4 (fun e => by unfold only at e; omega) (fun b hb => by cases hb)
    have hkw4 : Keeps nowhere w w4 := Hkw3.out.fresh hk4 (by have := Hk1.out.size; omega)
    have hr4 := Hr.out.keep hkw4 (fun _ _ h => h)
    have hsz4 := hk4.size
    have Hhx := Lib.hid hhx
    have Hs4 := Lib.hid hs4
    have Hf4 := Lib.hid hf4
    have Hk4 := Lib.hid hk4
    have Ht4 := Lib.hid ht4
    have Hkw4 := Lib.hid hkw4
    have Hr4 := Lib.hid hr4
    clear hhx hs4 hf4 hk4 ht4 hkw4 hr4
    go_wp2_with fail
    go_loopw [6, 7] (fun o i wr => ∃ (k : Nat) (Ls : List (List UInt8)) (R : List UInt8) (dd : Bool), k ≤ n ∧ i = .int .i64 k ∧ feedS 100 [] false (B.take k) = (Ls, R, dd) ∧ Gath 84 wr w4.heap.size w2.heap.size o Ls R dd ∧ Keeps (only w2.heap.size) w4 wr) (fun _ i _ => n - (intOf i).toNat)
    case atStart => exact ⟨0, [], [], false, Nat.zero_le _, rfl, feedS_nil 100, ⟨Heap.nil _ _, ⟨none, Ht4.out, fun b hb => by cases hb⟩, by omega⟩, Keeps.refl _ _⟩
    case round =>
      obtain ⟨k, Ls, R, dd, hk, rfl, hfe, hga, hkr⟩ := hrel
      have hle := feedS_le 100 [] false (B.take k)
      rw [hfe] at hle
      simp only [List.length_nil, List.length_take, ← Hn.out] at hle
      have hszr := hkr.size
      by_cases hlt : k < n
      · obtain ⟨b, off, rfl, rfl⟩ := Hpl.out k hlt
        have hkB : k < B.length := by rw [← Hn.out]; exact hlt
        obtain ⟨gt, hst, hgt⟩ := hga.st
        obtain ⟨M, R', d', hM⟩ : ∃ M R' d', feedS 100 R dd [B[k]] = (M, R', d') := ⟨_, _, _, rfl⟩
        have hstep := feedS_step hkB hfe hM
        have hk1 : (0 : Int) ≤ k ∧ (k : Int) ≤ (k : Int) + 1 ∧ (k : Int) + 1 ≤ c0 := by omega
        have hwk : IntKind.i64.wrap ((k : Int) + 1) = (k : Int) + 1 := IntWalk.i64_in _ (by omega)
        have htk : ((k : Int) + 1).toNat - k = 1 := by omega
        have hbl : b < w.heap.size := Hr.out.lt b rfl
        have hw2 : w.heap.size ≤ w2.heap.size := (Hk1.out.more Hk2.out).size
        have hrk := (Hr4.out.keep hkr (fun x hx e => by injection hx with hx; unfold only at e; omega)).one k hkB (by rw [← Hn.out]; exact hlc)
        have hle2 := feedS_le 100 [] false (B.take (k + 1))
        rw [hstep] at hle2
        simp only [List.length_nil, List.length_take, ← Hn.out, List.length_append] at hle2
        have hb6 : Ls.length + M.length ≤ 1099511627776 := by omega
        have hdk := hga.heap.form
        have Hfe := Lib.hid hfe
        have Hga := Lib.hid hga
        have Hkr := Lib.hid hkr
        have Hst := Lib.hid hst
        have Hgt := Lib.hid hgt
        have HM := Lib.hid hM
        have Hstep := Lib.hid hstep
        have Hrk := Lib.hid hrk
        have Hle := Lib.hid hle
        have Hle2 := Lib.hid hle2
        have Hb6 := Lib.hid hb6
        clear hfe hga hkr hst hgt hM hstep hrk hle hle2 hb6
        clear hdk
        go_wp2_with fail
        refine (feed_any _ gt _ R [B[k]] dd 100 _ _ Hst.out Hrk.out (by omega) (by have := Hle.out; simp; omega)).mono ?_
        rw [HM.out]
        rintro e w5 hret
        obtain ⟨vy, us, g', rfl, hvy, hus, hh5, hs5, hg5, hk5⟩ := Hga.out.feed hszr Hst.out Hgt.out hret
        have hsz5 := hk5.size
        clear hret
        have Hvy := Lib.hid hvy
        have Hus := Lib.hid hus
        have Hh5 := Lib.hid hh5
        have Hs5 := Lib.hid hs5
        have Hg5 := Lib.hid hg5
        have Hk5 := Lib.hid hk5
        clear hvy hus hh5 hs5 hg5 hk5
        go_wp2_with (at_builtin; go_must (refine wpList_append_parts rfl (.tmp 24) (.tmp 31) rfl w4.heap.size u6 Ls rfl Hh5.out ?hN _ _ us M rfl Hvy.out Hus.out Hb6.out ?_))
        case hN => omega
        intro v' w6 hh6 hk6 hf6
        have hga6 := Hga.out.append Hh5.out Hs5.out Hg5.out hh6 hk6 hf6
        have hkr6 := Gath.keeps (S := only w2.heap.size) Hh5.out (Nat.le_refl _) Hkr.out Hk5.out hk6 rfl
        clear hh6 hk6 hf6
        have Hga6 := Lib.hid hga6
        have Hkr6 := Lib.hid hkr6
        clear hga6 hkr6
        go_wp2_with fail
        go_roundw
        case rel => exact ⟨k + 1, Ls ++ M, R', d', by omega, by go_num, Hstep.out, Hga6.out, Hkr6.out⟩
        case measure => simp [intOf]; omega
      · obtain rfl : k = n := by omega
        rw [show B.take k = B from by rw [Hn.out, List.take_length], HR.out] at hfe
        injection hfe with e1 e2
        injection e2 with e2 e3
        subst e1 e2 e3
        obtain ⟨gt, hst, hgt⟩ := hga.st
        have hhx5 := Hhx.out.keep hkr (fun b hb e => by unfold only at e; omega)
        obtain ⟨us, hus1, hus2⟩ := hhx5.rd
        obtain ⟨vs, hvs1, hvs2⟩ := hga.heap.rd
        have hs5 := Hs4.out.keep hkr (fun e => by unfold only at e; omega) (fun b hb e => (Hf4.out b hb).elim (fun h => by cases h) (fun h => by unfold only at e; omega))
        have hkw5 : Keeps nowhere w wr := Hkw4.out.fresh hkr (by have := (Hk1.out.more Hk2.out).size; omega)
        have htx := texts_any _ _ _ _ us vs X X _ _ wr hus1 hus2 hvs1 hvs2
        rw [show decide (X = X) = true from by simp] at htx
        have Hga := Lib.hid hga
        have Hkr := Lib.hid hkr
        have Hst := Lib.hid hst
        have Hgt := Lib.hid hgt
        have Hhx5 := Lib.hid hhx5
        have Hus1 := Lib.hid hus1
        have Hus2 := Lib.hid hus2
        have Hvs1 := Lib.hid hvs1
        have Hvs2 := Lib.hid hvs2
        have Hs5 := Lib.hid hs5
        have Hkw5 := Lib.hid hkw5
        have Htx := Lib.hid htx
        clear hga hkr hst hgt hhx5 hus1 hus2 hvs1 hvs2 hs5 hkw5 htx
        go_wp2_with fail
        refine Htx.out.mono ?_
        rintro e w6 ⟨rfl, hk6⟩
        have hd6 := f_dead _ _ _ _ _ (Hs5.out.keep0 hk6)
        have hd6' := f_dead _ _ _ _ _ (Hst.out.keep0 hk6)
        have hl6 := f_held _ _ _ _ _ (Hs5.out.keep0 hk6)
        have hl6' := f_held _ _ _ _ _ (Hst.out.keep0 hk6)
        have hkw6 := Hkw5.out.more hk6
        have hdd : (d == d) = true := by simp
        have hyy : ((Y.length : Int) == (Y.length : Int)) = true := by simp
        have Hk6 := Lib.hid hk6
        have Hd6 := Lib.hid hd6
        have Hd6' := Lib.hid hd6'
        have Hl6 := Lib.hid hl6
        have Hl6' := Lib.hid hl6'
        have Hkw6 := Lib.hid hkw6
        clear hk6 hd6 hd6' hl6 hl6' hkw6
        go_wp2_with fail
        refine Hd6.out.mono ?_
        rintro e w7 ⟨rfl, rfl⟩
        go_wp2_with fail
        refine Hd6'.out.mono ?_
        rintro e w7 ⟨rfl, rfl⟩
        go_wp2_with fail
        refine Hl6.out.mono ?_
        rintro e w7 ⟨rfl, rfl⟩
        go_wp2_with fail
        refine Hl6'.out.mono ?_
        rintro e w7 ⟨rfl, rfl⟩
        go_wp2_with fail
        go_ret
        exact ⟨by simp, Hkw6.out⟩
end Go.Proofs.Ytblmbchjafffbaa
