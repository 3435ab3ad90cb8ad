/-
  loggialaw1.NumBack: the walk.
-/
import Derived.Test.YtbckbnmpeedodaaItems
import Derived.Test.YtbckbnmpeedodaaQidPlain
namespace Go.Proofs.Ytbckbnmpeedodaa
open Go.RowKit

/-- what an item is written as -/
def enc (t : It) : List UInt8 := if t.is_ then t.b else pb t.n t.v
def encs (l : List It) : List UInt8 := l.flatMap enc
theorem encs_take (l : List It) (k : Nat) (t : It) (h : l[k]? = some t) : encs (l.take (k + 1)) = encs (l.take k) ++ enc t := by
  obtain ⟨hk, rfl⟩ := List.getElem?_eq_some_iff.1 h
  unfold encs
  rw [List.take_succ_eq_append_getElem hk, List.flatMap_append, List.flatMap_cons, List.flatMap_nil, List.append_nil]
theorem encs_drop (l : List It) (k : Nat) (t : It) (h : l[k]? = some t) : encs (l.drop k) = enc t ++ encs (l.drop (k + 1)) := by
  obtain ⟨hk, rfl⟩ := List.getElem?_eq_some_iff.1 h
  unfold encs
  rw [List.drop_eq_getElem_cons hk, List.flatMap_cons]

set_option maxHeartbeats 1000000 in
theorem back_long (B : Option Addr) (n d : Nat) (hn : 60 < n) (hm' : n ≤ 9223372036854775807) (w : World) :
    Calls Try.prog 5 #[.slice B n d] w (Yes w) := by
  have h2' : (60 : Int) < n := by omega
  go_enter Try.func5, Try.ntmps5
  go_wp2_with fail
  refine (known1 _).mono ?_
  rintro e w0 ⟨rfl, hk0⟩
  have Hk0 := Lib.hid hk0
  clear hk0
  go_wp2_with fail
  go_ret
  exact ⟨rfl, Hk0.out⟩


/-- An Out and a row of bytes beside it, both new since `w`. -/
def NB (w wr : World) (p : Nat) (g : Option Nat) (v : Value) (L M : List UInt8) : Prop :=
  OutAt wr p g M ∧ OwnB wr v L ∧ Above w.heap.size g ∧ Above w.heap.size v.ownBlock ∧ w.heap.size ≤ p ∧ (∀ b, v.ownBlock = some b → ¬ only2 p g b) ∧ Keeps nowhere w wr
theorem NB.put {w wr w5 : World} {p : Nat} {g g5 : Option Nat} {v : Value} {L M M' : List UInt8} (h : NB w wr p g v L M) (ho : OutAt w5 p g5 M') (hf : From g wr.heap.size g5) (hk : Keeps (only2 p g) wr w5) : NB w w5 p g5 v L M' := by
  obtain ⟨h1, h2, h3, h4, h5, h6, h7⟩ := h
  exact ⟨ho, h2.keep hk h6, h3.of_from hf h7.size, h4, h5, fun b hb => not_only2_from (h6 b hb) hf (h2.lt b hb), h7.fresh2 hk h5 h3⟩
theorem NB.app {w wr w5 : World} {p : Nat} {g : Option Nat} {v v5 : Value} {L M L' : List UInt8} (h : NB w wr p g v L M) (ho : OwnB w5 v5 L') (hk : Keeps (fun b => v.ownBlock = some b) wr w5) (hf : From v.ownBlock wr.heap.size v5.ownBlock) : NB w w5 p g v5 L' M := by
  obtain ⟨h1, h2, h3, h4, h5, h6, h7⟩ := h
  refine ⟨h1.keep hk (fun e => h6 p e (.inl rfl)) (fun b hb e => h6 b e (.inr hb.symm)), ho, h3, h4.of_from hf h7.size, h5, fun b hb e => ?_, h7.trans hk (fun b hb e => by have := h4 b e; omega)⟩
  rcases hf b hb with hb' | hb'
  · exact h6 b hb' e
  · rcases e with e | e
    · have := h1.lt.1; omega
    · have := h1.lt.2 b e.symm; omega
theorem NB.more {w wr w5 : World} {p : Nat} {g : Option Nat} {v : Value} {L M : List UInt8} (h : NB w wr p g v L M) (hk : Keeps nowhere wr w5) : NB w w5 p g v L M := by
  obtain ⟨h1, h2, h3, h4, h5, h6, h7⟩ := h
  exact ⟨h1.keep hk (fun e => e) (fun _ _ e => e), h2.keep hk (fun _ _ e => e), h3, h4, h5, h6, h7.more hk⟩

theorem take_short' (its : List It) (k : Nat) (t : It) (ht : its[k]? = some t) (h3 : t.b.length ≤ 300) (hall : ∀ t ∈ its.take k, t.b.length ≤ 300) : ∀ t ∈ its.take (k + 1), t.b.length ≤ 300 := by
  obtain ⟨hk, rfl⟩ := List.getElem?_eq_some_iff.1 ht
  intro u hu
  rw [List.take_succ_eq_append_getElem hk, List.mem_append] at hu
  rcases hu with hu | hu
  · exact hall u hu
  · simp at hu; subst hu; exact h3
theorem enc_len (t : It) (h3 : t.b.length ≤ 300) : (enc t).length ≤ 300 := by
  unfold enc; split
  · exact h3
  · have := pb_len t.n t.v; omega
theorem encs_len : ∀ (its : List It), (∀ t ∈ its, t.b.length ≤ 300) → (encs its).length ≤ 300 * its.length
  | [], _ => by simp [encs]
  | t :: l, h => by
    have h1 := enc_len t (h t (by simp))
    have h2 := encs_len l (fun u hu => h u (by simp [hu]))
    unfold encs at h2 ⊢
    rw [List.flatMap_cons, List.length_append, List.length_cons]; omega

theorem rawVal_app (a r : List UInt8) : rawVal (a ++ r) 0 a.length = a := by
  rw [rawVal, if_pos ⟨rfl, by omega, by rw [List.length_append]; omega⟩, Int.toNat_natCast, List.take_left' rfl]
theorem rawLeft_app (a r : List UInt8) : rawLeft (a ++ r) 0 a.length = r := by
  rw [rawLeft, if_pos ⟨rfl, by omega, by rw [List.length_append]; omega⟩, Int.toNat_natCast, List.drop_left' rfl]
theorem rawErr_app (a r : List UInt8) : rawErr (a ++ r) 0 a.length = 0 := by
  rw [rawErr, if_neg (by simp), if_neg (by omega), if_neg (by rw [List.length_append]; omega)]
theorem encs_drop_len (its : List It) (k : Nat) (hn : its.length ≤ 60) (h : ∀ t ∈ its, t.b.length ≤ 300) : (encs (its.drop k)).length ≤ 18000 := by
  have := encs_len (its.drop k) (fun t ht => h t (List.mem_of_mem_drop ht))
  have h2 : (its.drop k).length ≤ 60 := by rw [List.length_drop]; omega
  omega
theorem mask_low (v m : Nat) (hm : m < 8) (hv : v < 18446744073709551616) :
    bits .and .u64 (v : Int) (IntKind.u64.wrap (IntKind.u64.wrap (2 ^ (8 * m)) - 1)) = ((v % 256 ^ m : Nat) : Int) := by
  obtain ⟨P, hP, hP0, hP1⟩ : ∃ P : Nat, P = 256 ^ m ∧ 0 < P ∧ P < 18446744073709551616 :=
    ⟨_, rfl, Nat.pow_pos (by omega), Nat.lt_of_le_of_lt (Nat.pow_le_pow_right (by omega) (show m ≤ 7 by omega)) (by decide)⟩
  have e1 : ((2 : Int) ^ (8 * m)) = (P : Int) := by rw [hP, pow256, Int.natCast_pow]; rfl
  have e2 : IntKind.u64.wrap (IntKind.u64.wrap (2 ^ (8 * m)) - 1) = ((P - 1 : Nat) : Int) := by rw [e1, IntKind.wrap_u64, IntKind.wrap_u64]; omega
  have h1 : (BitVec.ofInt 64 (v : Int)).toNat = v := by
    rw [BitVec.ofInt_natCast, BitVec.toNat_ofNat]; exact Nat.mod_eq_of_lt (by omega)
  have h2 : (BitVec.ofInt 64 ((P - 1 : Nat) : Int)).toNat = P - 1 := by
    rw [BitVec.ofInt_natCast, BitVec.toNat_ofNat]; exact Nat.mod_eq_of_lt (by omega)
  rw [e2]
  show IntKind.u64.wrap ((BitVec.ofInt 64 (v : Int) &&& BitVec.ofInt 64 ((P - 1 : Nat) : Int)).toNat : Int) = _
  rw [BitVec.toNat_and, h1, h2, hP, pow256, Nat.and_two_pow_sub_one_eq_mod, ← pow256, ← hP, IntKind.wrap_u64]
  have := Nat.mod_lt v hP0
  omega
theorem pb_out (n v : Int) (h : ¬ (1 ≤ n ∧ n ≤ 8)) : pb n v = [] := by rw [pb, if_neg h]

set_option maxRecDepth 8000 in
set_option maxHeartbeats 4000000 in
theorem nback_walk (A : Option Addr) (its : List It) (c : Nat) (hn : its.length ≤ 60) (w : World) (hA : IArr w A its) :
    Calls Try.prog 5 #[.slice A its.length c] w (Yes w) := by
  have h2 : decide ((60 : Int) < its.length) = false := by simp; omega
  have HA := Lib.hid hA
  clear hA
  go_enter Try.func5, Try.ntmps5
  go_wp2_with fail
  refine (known1 _).mono ?_
  rintro e w1 ⟨rfl, hk1⟩
  have ho1 := OutAt.new w1
  have hk1' := hk1.alloc (.cells #[.slice none 0 0] 30)
  have hs1 := hk1.size
  clear hk1
  obtain ⟨p, hp⟩ : ∃ p, p = w1.heap.size := ⟨_, rfl⟩
  have hnb1 : Hid (NB w (w1.alloc (.cells #[.slice none 0 0] 30)) w1.heap.size none (.slice none 0 0) [] []) :=
    ⟨ho1, OwnB.nil _, Above.none _, Above.none _, hs1, fun _ h => (by cases h), hk1'⟩
  clear ho1 hk1' hs1
  go_wp2_with fail
  rw [← hp] at hnb1 ⊢
  generalize w1.alloc (.cells #[.slice none 0 0] 30) = w2 at *
  clear hp
  go_loopw [4, 5] (fun wv i wr => ∃ (k : Nat) (g : Option Nat), k ≤ its.length ∧ i = .int .i64 k ∧ NB w wr p g wv (encs (its.take k)) (encs (its.take k)) ∧ (∀ t ∈ its.take k, t.b.length ≤ 300)) (fun _ i _ => its.length - (intOf i).toNat)
  case atStart => exact ⟨0, none, Nat.zero_le _, rfl, by simpa [encs] using hnb1.out, by simp⟩
  case round =>
    obtain ⟨k, g, hk, rfl, hnb, hall⟩ := hrel
    by_cases hlt : k < its.length
    · obtain ⟨b, off, rfl, hbw, hc⟩ := HA.out (by omega)
      obtain ⟨t, ht⟩ : ∃ t, its[k]? = some t := ⟨its[k], List.getElem?_eq_getElem hlt⟩
      obtain ⟨⟨hn0, hv0⟩, vb, gb, c0, c1, c2, c3, hrb, hub⟩ := hc k t ht
      have hkp := hnb.2.2.2.2.2.2
      have d0 := (hkp.cell (p := ⟨b, off + k * 4, none⟩) hbw (fun h => h)).trans c0
      have d1 := (hkp.cell (p := ⟨b, off + k * 4 + 1, none⟩) hbw (fun h => h)).trans c1
      have d2 := (hkp.cell (p := ⟨b, off + k * 4 + 2, none⟩) hbw (fun h => h)).trans c2
      have d3 := (hkp.cell (p := ⟨b, off + k * 4 + 3, none⟩) hbw (fun h => h)).trans c3
      have hi0 : (0 : Int) ≤ (k : Int) := by omega
      have hi1 : (k : Int) < its.length := by omega
      obtain ⟨AB, cB, rfl, _⟩ := hrb.form
      rw [List.length_map] at hrb d3
      clear c0 c1 c2 c3 hc
      by_cases h300 : 300 < t.b.length
      · have h300' : (300 : Int) < t.b.length := by omega
        have Hkp := Lib.hid hkp
        clear hkp
        clear hnb
        go_wp2_with fail
        go_ret
        exact ⟨rfl, Hkp.out.alloc _⟩
      · have h300' : decide ((300 : Int) < t.b.length) = false := by simp; omega
        have hes := encs_take its k t ht
        have hall' := take_short' its k t ht (by omega) hall
        have hlen : (encs (its.take k)).length ≤ 18000 := by
          have := encs_len _ hall
          have h2 : (its.take k).length ≤ 60 := by rw [List.length_take]; omega
          omega
        have hnba := hnb.more ((Keeps.refl nowhere wr).alloc (.cells #[.bool t.is_, .int .i64 t.n, .int .u64 t.v, .slice AB t.b.length cB] 48))
        have hblk := Blk.new wr 48 #[.bool t.is_, .int .i64 t.n, .int .u64 t.v, .slice AB t.b.length cB]
        have hra := (hrb.keep hkp (fun _ _ h => h)).keep ((Keeps.refl nowhere wr).alloc (.cells #[.bool t.is_, .int .i64 t.n, .int .u64 t.v, .slice AB t.b.length cB] 48)) (fun _ _ h => h)
        have Hsep : Hid (¬ only2 p g wr.heap.size ∧ (∀ b, gb = some b → b ≠ wr.heap.size ∧ ¬ only2 p g b)) := by
          have h0 := hkp.size
          have hp := hnb.2.2.2.2.1
          have hg := hnb.2.2.1
          have hl := hnb.1.lt
          refine ⟨not_only2 (by omega) (fun b hb => by have := hl.2 b hb; omega), fun b hb => ?_⟩
          have hb' := hub b hb
          exact ⟨by omega, fun e => by rcases e with e | e; omega; have := hg b e.symm; omega⟩
        clear hkp hnb hall hrb hub
        have Hes := Lib.hid hes
        have Hlen := Lib.hid hlen
        have Hall' := Lib.hid hall'
        have Hnba := Lib.hid hnba
        have Hblk := Lib.hid hblk
        have Hra := Lib.hid hra
        clear hes hlen hall' hnba hblk hra
        cases hts : t.is_ with
        | true =>
          rw [hts] at d0 Hnba Hblk Hra
          go_wp2_with fail
          generalize wr.alloc (Obj.cells #[.bool true, .int .i64 t.n, .int .u64 t.v, .slice AB t.b.length cB] 48) = wa at *
          refine (out_raw _ _ gb _ t.b _ _ Hnba.out.1 Hra.out (by have := Hlen.out; omega)).mono ?_
          rintro e w5 ⟨rfl, g5, ho5, hf5, hk5⟩
          have hnb5 := Hnba.out.put ho5 hf5 hk5
          have hb5 := Hblk.out.keep hk5 Hsep.out.1
          have hr5 := Hra.out.keep hk5 (fun b hb => (Hsep.out.2 b hb).2)
          have e3 := hb5.cell 3
          simp at e3
          clear ho5 hf5 hk5 hb5
          have Hnb5 := Lib.hid hnb5
          have Hr5 := Lib.hid hr5
          clear hnb5 hr5
          go_wp2_with (at_builtin; go_must (refine wpList_append_bytes rfl (.tmp 38) (.tmp 40) rfl _ _ rfl Hnb5.out.2.1 _ _ t.b rfl Hr5.out (by have := Hlen.out; omega) ?_))
          intro v6 w6 h6 k6 f6
          have hnb6 := Hnb5.out.app h6 k6 f6
          clear h6 k6 f6 e3
          have Hnb6 := Lib.hid hnb6
          clear hnb6
          go_wp2_with fail
          go_roundw
          case rel => exact ⟨k + 1, g5, by omega, by go_num, by rw [Hes.out, enc, hts]; exact Hnb6.out, Hall'.out⟩
          case measure => simp [intOf]; omega
        | false =>
          rw [hts] at d0 Hnba Hblk Hra
          have hpl : Hid ((pb t.n t.v).length ≤ 8) := pb_len _ _
          go_wp2_with fail
          generalize wr.alloc (Obj.cells #[.bool false, .int .i64 t.n, .int .u64 t.v, .slice AB t.b.length cB] 48) = wa at *
          refine (put_any _ _ _ _ _ _ Hnba.out.1 (by omega) (by omega) (by have := Hlen.out; omega)).mono ?_
          rintro e w5 ⟨rfl, g5, ho5, hf5, hk5⟩
          have hnb5 := Hnba.out.put ho5 hf5 hk5
          have hb5 := Hblk.out.keep hk5 Hsep.out.1
          have e1 := hb5.cell 1
          have e2 := hb5.cell 2
          simp at e1 e2
          clear ho5 hf5 hk5 hb5
          have Hnb5 := Lib.hid hnb5
          clear hnb5
          go_wp2_with fail
          refine (ref_num _ _ _ (by omega) (by omega)).mono ?_
          rintro e w6 ⟨v6, rfl, how6, hab6, hk6⟩
          have hnb6 := Hnb5.out.more hk6
          have hr6 := OwnB.rd how6
          clear how6 hab6 hk6 e1 e2
          have Hnb6 := Lib.hid hnb6
          have Hr6 := Lib.hid hr6
          clear hnb6 hr6
          go_wp2_with (at_builtin; go_must (refine wpList_append_bytes rfl (.tmp 48) (.tmp 53) rfl _ _ rfl Hnb6.out.2.1 _ _ _ rfl Hr6.out (by have := Hlen.out; have := hpl.out; omega) ?_))
          intro v7 w7 h7 k7 f7
          have hnb7 := Hnb6.out.app h7 k7 f7
          clear h7 k7 f7
          have Hnb7 := Lib.hid hnb7
          clear hnb7
          go_wp2_with fail
          go_roundw
          case rel => exact ⟨k + 1, g5, by omega, by go_num, by rw [Hes.out, enc, hts]; exact Hnb7.out, Hall'.out⟩
          case measure => simp [intOf]; omega
    · have hke : k = its.length := by omega
      subst hke
      rw [List.take_length] at hnb hall
      have hlen : (encs its).length ≤ 18000 := by
        have := encs_len _ hall
        omega
      have Hnb := Lib.hid hnb
      have Hall := Lib.hid hall
      have Hlen := Lib.hid hlen
      clear hnb hall hlen
      go_wp2_with fail
      refine wp_region_script [0, 3, 4, 5] [4] [.ps [0, 3], .fs [4], .es [1] true, .es [2] true, .ps [5]] (Keeps nowhere wr.drew) rfl (by kernel_rfl) ?_
      have cv : ∀ w', Keeps nowhere wr.drew w' → (convert 28 9 u4).run Try.prog w' = .ok (.string (strOf (encs its))) w' := fun w' hk =>
        conv_str _ _ _ _ ((OwnB.rd Hnb.out.2.1).keep (w := wr.drew) hk (fun _ _ h => h))
      refine wpS_ps rfl fun K hK => ?_
      simp only [List.map_cons, List.map_nil, Option.getD_some, List.getElem?_toArray, List.getElem?_cons_zero, List.getElem?_cons_succ]
      iterate 2 (first | (apply quietO_cons _ rfl; (intro w' _; go_simp; rfl)) | apply quietO_skip rfl)
      refine hK _ ?_
      clear hK K
      simp only [Act.put, List.setIfInBounds_toArray, List.set_cons_zero, List.set_cons_succ]
      refine wpS_fs rfl (Keeps.refl _ _) fun K hK => ?_
      simp only [List.map_cons, List.map_nil, Option.getD_some, List.getElem?_toArray, List.getElem?_cons_zero, List.getElem?_cons_succ]
      iterate 1 (first | (apply quietO_cons _ rfl; (intro w' hs; have c_0 := cv w' hs; go_simp; rfl)) | apply quietO_skip rfl)
      refine hK _ ?_
      clear hK K
      simp only [Act.put, List.setIfInBounds_toArray, List.set_cons_zero, List.set_cons_succ]
      refine wpS_es rfl fun K hK => ?_
      have HK := Lib.hid hK
      clear hK
      simp only [List.map_cons, List.map_nil, Option.getD_some, List.getElem?_toArray, List.getElem?_cons_zero, List.getElem?_cons_succ]
      go_wp2_with fail
      refine (out_bytes _ _ _ wr.drew (by exact Hnb.out.1) (by have := Hlen.out; omega)).mono ?_
      rintro e w8 ⟨v8, g8, rfl, hr8, hg8, hk8⟩
      have hnb8 := (Hnb.out.more (Keeps.refl nowhere wr).drew).more hk8
      have hc8 := conv_str _ _ _ _ hr8
      clear hg8 hr8 cv
      have Hk8 := Lib.hid hk8
      have Hnb8 := Lib.hid hnb8
      have Hc8 := Lib.hid hc8
      clear hk8 hnb8 hc8
      go_wp2_with fail
      refine HK.out _ _ (fun _ => Hk8.out) ?_
      clear HK K
      refine wpS_es rfl fun K hK => ?_
      have HK := Lib.hid hK
      clear hK
      simp only [List.map_cons, List.map_nil, Option.getD_some, List.getElem?_toArray, List.getElem?_cons_zero, List.getElem?_cons_succ]
      have hc8 := Hc8.out
      go_wp2_with fail
      refine HK.out _ _ (fun _ => Hk8.out) ?_
      clear HK K
      clear hc8
      refine wpS_ps rfl fun K hK => ?_
      simp only [List.map_cons, List.map_nil, Option.getD_some, List.getElem?_toArray, List.getElem?_cons_zero, List.getElem?_cons_succ]
      iterate 1 (first | (apply quietO_cons _ rfl; (intro w' _; go_simp; rfl)) | apply quietO_skip rfl)
      refine hK _ ?_
      clear hK K
      simp only [Act.put, List.setIfInBounds_toArray, List.set_cons_zero, List.set_cons_succ]
      refine wpS_nil ?_
      clear Hk8 Hc8 Hnb
      go_wp2_with fail
      refine (in_of _ _ _ _ (OwnB.rd Hnb8.out.2.1) (by have := Hlen.out; omega)).mono ?_
      rintro e w9 ⟨p9, g9, rfl, hi9, hp9, hg9, hk9⟩
      have hk8 := Hnb8.out.2.2.2.2.2.2
      have hs9 : Hid (w.heap.size ≤ p9 ∧ Above w.heap.size g9) := ⟨Nat.le_trans hk8.size hp9, hg9.mono hk8.size⟩
      have hk9' := hk8.more hk9
      clear hk8 hk9 hp9 hg9 Hnb8
      have Hi9 := Lib.hid hi9
      have Hk9' := Lib.hid hk9'
      clear hi9 hk9'
      go_wp2_with fail
      go_loopw [8] (fun i wr => ∃ (k : Nat), k ≤ its.length ∧ i = .int .i64 k ∧ InAt wr p9 g9 (encs (its.drop k)) 0 ∧ Keeps nowhere w wr) (fun i _ => its.length - (intOf i).toNat)
      case atStart => exact ⟨0, Nat.zero_le _, rfl, by rw [List.drop_zero]; exact Hi9.out, Hk9'.out⟩
      case round =>
        obtain ⟨k, hk, rfl, hi, hkp⟩ := hrel
        by_cases hlt : k < its.length
        · obtain ⟨b, off, rfl, hbw, hc⟩ := HA.out (by omega)
          obtain ⟨t, ht⟩ : ∃ t, its[k]? = some t := ⟨its[k], List.getElem?_eq_getElem hlt⟩
          obtain ⟨⟨hn0, hv0⟩, vb, gb, c0, c1, c2, c3, hrb, hub⟩ := hc k t ht
          have d0 := (hkp.cell (p := ⟨b, off + k * 4, none⟩) hbw (fun h => h)).trans c0
          have d1 := (hkp.cell (p := ⟨b, off + k * 4 + 1, none⟩) hbw (fun h => h)).trans c1
          have d2 := (hkp.cell (p := ⟨b, off + k * 4 + 2, none⟩) hbw (fun h => h)).trans c2
          have d3 := (hkp.cell (p := ⟨b, off + k * 4 + 3, none⟩) hbw (fun h => h)).trans c3
          have hi0 : (0 : Int) ≤ (k : Int) := by omega
          have hi1 : (k : Int) < its.length := by omega
          obtain ⟨AB, cB, rfl, _⟩ := hrb.form
          rw [List.length_map] at hrb d3
          clear c0 c1 c2 c3 hc
          have h3 := Hall.out t (List.mem_of_getElem? ht)
          have hes := encs_drop its k t ht
          have hdl := encs_drop_len its k hn Hall.out
          rw [hes] at hi hdl
          have hia := hi.keep ((Keeps.refl nowhere wr).alloc (.cells #[.bool t.is_, .int .i64 t.n, .int .u64 t.v, .slice AB t.b.length cB] 48)) (fun h => h) (fun _ _ h => h)
          have hka := hkp.alloc (.cells #[.bool t.is_, .int .i64 t.n, .int .u64 t.v, .slice AB t.b.length cB] 48)
          have hblk := Blk.new wr 48 #[.bool t.is_, .int .i64 t.n, .int .u64 t.v, .slice AB t.b.length cB]
          have hra := (hrb.keep hkp (fun _ _ h => h)).keep ((Keeps.refl nowhere wr).alloc (.cells #[.bool t.is_, .int .i64 t.n, .int .u64 t.v, .slice AB t.b.length cB] 48)) (fun _ _ h => h)
          have Hsep : Hid (¬ only p9 wr.heap.size ∧ (∀ b, gb = some b → ¬ only p9 b)) := by
            have h0 := hkp.size
            have hp := hi.lt
            exact ⟨fun h => by unfold only at h; omega, fun b hb h => by have := hub b hb; have := hs9.out.1; unfold only at h; omega⟩
          clear hes hi hkp hrb hub
          have Hia := Lib.hid hia
          have Hblk := Lib.hid hblk
          have Hra := Lib.hid hra
          have Hka := Lib.hid hka
          have H3 := Lib.hid h3
          have Hdl := Lib.hid hdl
          clear hia hblk hra hka h3 hdl
          cases hts : t.is_ with
          | true =>
            rw [hts] at d0 Hia Hblk Hra Hka
            rw [enc, hts, if_pos rfl] at Hia Hdl
            go_wp2_with fail
            generalize wr.alloc (Obj.cells #[.bool true, .int .i64 t.n, .int .u64 t.v, .slice AB t.b.length cB] 48) = wa at *
            have cell3 : ∀ w', Keeps (only p9) wa.drew w' → w'.cell? ⟨wr.heap.size, 3, none⟩ = some (.slice AB t.b.length cB) := fun w' hk => by
              have := (Hblk.out.keep (w := wa.drew) hk Hsep.out.1).cell 3
              simpa using this
            have cv : ∀ w', Keeps (only p9) wa.drew w' → (convert 28 9 (.slice AB t.b.length cB)).run Try.prog w' = .ok (.string (strOf t.b)) w' := fun w' hk =>
              conv_str _ _ _ _ (Hra.out.keep (w := wa.drew) hk Hsep.out.2)
            refine wp_region_script [0, 1, 2, 3, 6, 7, 8, 9] [2, 7, 8] [.ps [0, 1], .fs [2], .ps [3, 6], .fs [7, 8], .es [4] true, .es [5] true, .ps [9]] (Keeps (only p9) wa.drew) rfl (by kernel_rfl) ?_
            refine wpS_ps rfl fun K hK => ?_
            simp only [List.map_cons, List.map_nil, Option.getD_some, List.getElem?_toArray, List.getElem?_cons_zero, List.getElem?_cons_succ]
            iterate 2 (first | (apply quietO_cons _ rfl; (intro w' _; go_simp; rfl)) | apply quietO_skip rfl)
            refine hK _ ?_
            clear hK K
            simp only [Act.put, List.setIfInBounds_toArray, List.set_cons_zero, List.set_cons_succ]
            refine wpS_fs rfl (Keeps.refl _ _) fun K hK => ?_
            simp only [List.map_cons, List.map_nil, Option.getD_some, List.getElem?_toArray, List.getElem?_cons_zero, List.getElem?_cons_succ]
            iterate 1 (first | (apply quietO_cons _ rfl; (intro w' hs; have c_0 := cell3 w' hs; go_simp; rfl)) | apply quietO_skip rfl)
            refine hK _ ?_
            clear hK K
            simp only [Act.put, List.setIfInBounds_toArray, List.set_cons_zero, List.set_cons_succ]
            refine wpS_ps rfl fun K hK => ?_
            simp only [List.map_cons, List.map_nil, Option.getD_some, List.getElem?_toArray, List.getElem?_cons_zero, List.getElem?_cons_succ]
            iterate 2 (first | (apply quietO_cons _ rfl; (intro w' _; go_simp; rfl)) | apply quietO_skip rfl)
            refine hK _ ?_
            clear hK K
            simp only [Act.put, List.setIfInBounds_toArray, List.set_cons_zero, List.set_cons_succ]
            refine wpS_fs rfl (Keeps.refl _ _) fun K hK => ?_
            simp only [List.map_cons, List.map_nil, Option.getD_some, List.getElem?_toArray, List.getElem?_cons_zero, List.getElem?_cons_succ]
            iterate 2 (first | (apply quietO_cons _ rfl; (intro w' hs; have c_0 := cell3 w' hs; have c_1 := cv w' hs; go_simp; rfl)) | apply quietO_skip rfl)
            refine hK _ ?_
            clear hK K
            simp only [Act.put, List.setIfInBounds_toArray, List.set_cons_zero, List.set_cons_succ]
            clear cell3 cv
            refine wpS_es rfl fun K hK => ?_
            have HK := Lib.hid hK
            clear hK
            simp only [List.map_cons, List.map_nil, Option.getD_some, List.getElem?_toArray, List.getElem?_cons_zero, List.getElem?_cons_succ]
            go_wp2_with fail
            refine (raw_any _ _ _ _ _ wa.drew (by exact Hia.out) (by have := Hdl.out; omega)).mono ?_
            rintro e w6 ⟨v6, g6, rfl, hr6, hg6, hi6, hk6⟩
            rw [rawVal_app] at hr6
            rw [rawLeft_app, rawErr_app] at hi6
            have hk6' := Hka.out.drew.fresh hk6 hs9.out.1
            have hc6 := conv_str _ _ _ _ hr6
            clear hr6 hg6
            have Hi6 := Lib.hid hi6
            have Hk6 := Lib.hid hk6
            have Hk6' := Lib.hid hk6'
            have Hc6 := Lib.hid hc6
            clear hi6 hk6 hk6' hc6
            go_wp2_with fail
            refine HK.out _ _ (fun _ => Hk6.out) ?_
            clear HK K
            refine wpS_es rfl fun K hK => ?_
            have HK := Lib.hid hK
            clear hK
            simp only [List.map_cons, List.map_nil, Option.getD_some, List.getElem?_toArray, List.getElem?_cons_zero, List.getElem?_cons_succ]
            have hc6 := Hc6.out
            go_wp2_with fail
            refine HK.out _ _ (fun _ => Hk6.out) ?_
            clear HK K
            clear hc6
            refine wpS_ps rfl fun K hK => ?_
            simp only [List.map_cons, List.map_nil, Option.getD_some, List.getElem?_toArray, List.getElem?_cons_zero, List.getElem?_cons_succ]
            iterate 1 (first | (apply quietO_cons _ rfl; (intro w' _; go_simp; rfl)) | apply quietO_skip rfl)
            refine hK _ ?_
            clear hK K
            simp only [Act.put, List.setIfInBounds_toArray, List.set_cons_zero, List.set_cons_succ]
            refine wpS_nil ?_
            go_wp2_with fail
            go_roundw
            case rel => exact ⟨k + 1, by omega, by go_num, Hi6.out, Hk6'.out⟩
            case measure => simp [intOf]; omega
          | false =>
            rw [hts] at d0 Hia Hblk Hra Hka
            rw [enc, hts, if_neg (by simp)] at Hia Hdl
            by_cases hN : 1 ≤ t.n ∧ t.n ≤ 8
            · obtain ⟨m, hm⟩ := Int.eq_ofNat_of_zero_le (show 0 ≤ t.n by omega)
              rw [hm] at hN d1 Hia Hblk Hka Hdl
              clear hn0
              have hN1 : (1 : Int) ≤ m := hN.1
              have hN8 : (m : Int) ≤ 8 := hN.2
              rw [pb_in m t.v (by omega) (by omega)] at Hia Hdl
              by_cases h8 : m < 8
              · have h8' : (m : Int) < 8 := by omega
                go_wp2_with fail
                refine (take_any _ _ _ _ _ _ Hia.out).mono ?_
                rintro e w6 ⟨he, hi6, hk6⟩
                rw [takeVal_nb _ _ _ (by omega) (by omega)] at he
                rw [takeLeft_nb _ _ _ (by omega) (by omega), takeErr_nb _ _ _ (by omega) (by omega)] at hi6
                rw [mask_low _ _ h8 hv0]
                generalize t.v % 256 ^ m = r at he ⊢
                subst he
                have hk6' := Hka.out.fresh hk6 hs9.out.1
                clear hk6
                have Hi6 := Lib.hid hi6
                have Hk6' := Lib.hid hk6'
                clear hi6 hk6'
                go_wp2_with fail
                go_roundw
                case rel => exact ⟨k + 1, by omega, by go_num, Hi6.out, Hk6'.out⟩
                case measure => simp [intOf]; omega
              · obtain rfl : m = 8 := by omega
                go_wp2_with fail
                refine (take_any _ _ _ _ ((8 : Nat) : Int) _ Hia.out).mono ?_
                rintro e w6 ⟨he, hi6, hk6⟩
                rw [takeVal_nb _ _ _ (by omega) (by omega)] at he
                rw [takeLeft_nb _ _ _ (by omega) (by omega), takeErr_nb _ _ _ (by omega) (by omega)] at hi6
                rw [Nat.mod_eq_of_lt (show t.v < 256 ^ 8 by omega)] at he
                subst he
                have hk6' := Hka.out.fresh hk6 hs9.out.1
                clear hk6
                have Hi6 := Lib.hid hi6
                have Hk6' := Lib.hid hk6'
                clear hi6 hk6'
                go_wp2_with fail
                go_roundw
                case rel => exact ⟨k + 1, by omega, by go_num, Hi6.out, Hk6'.out⟩
                case measure => simp [intOf]; omega
            · rw [pb_out _ _ hN, List.nil_append] at Hia
              by_cases hN1 : 1 ≤ t.n
              · have hN8 : ¬ t.n ≤ 8 := fun h => hN ⟨hN1, h⟩
                go_wp2_with fail
                go_roundw
                case rel => exact ⟨k + 1, by omega, by go_num, Hia.out, Hka.out⟩
                case measure => simp [intOf]; omega
              · go_wp2_with fail
                go_roundw
                case rel => exact ⟨k + 1, by omega, by go_num, Hia.out, Hka.out⟩
                case measure => simp [intOf]; omega
        · have hke : k = its.length := by omega
          subst hke
          rw [List.drop_length] at hi
          have Hi := Lib.hid hi
          have Hkp := Lib.hid hkp
          clear hi hkp
          go_wp2_with fail
          refine (in_left _ _ _ _ _ Hi.out).mono ?_
          rintro e w10 ⟨he, rfl⟩
          obtain rfl : e = .returned (.int .i64 0) := he
          go_wp2_with fail
          refine (in_err _ _ _ _ _ Hi.out).mono ?_
          rintro e w10 ⟨rfl, rfl⟩
          go_wp2_with fail
          go_ret
          exact ⟨rfl, Hkp.out⟩
end Go.Proofs.Ytbckbnmpeedodaa
