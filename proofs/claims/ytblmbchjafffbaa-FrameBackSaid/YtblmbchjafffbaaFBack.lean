/-
  frame: the statement FrameBack, walked.
-/
import Derived.Test.YtblmbchjafffbaaFBytes
namespace Go.Proofs.Ytblmbchjafffbaa
open Go.RowKit

section
variable {ops : Array Oper} {rest : List Oper} {o : Oper} {a : Act} {Q : Exit → Act → World → Prop} {w : World}
theorem wpList_append_sl (hgd : o.guard = none) (s x : Operand) (ho : o.op = .call { callee := .builtin .append, args := #[s, x], argTypes := #[22, 22] })
    (v : Value) (vs : List Value) (hs : a.eval s = v) (hown : OwnSl w v vs) (vx : Value) (gx : Option Nat) (us : List Value) (hx : a.eval x = vx) (hr : Rd w vx gx us)
    (h1 : ∀ u ∈ us, u.oneCell' = true) (hb : vs.length + us.length ≤ 1099511627776)
    (h : ∀ v' w', OwnSl w' v' (vs ++ us) → Keeps (fun b => v.ownBlock = some b) w w' → From v.ownBlock w.heap.size v'.ownBlock → wpList Try.prog ops Q rest (a.put o.dst v') w') : wpList Try.prog ops Q (o :: rest) a w := by
  obtain ⟨i0, hi, hz0, hz1, hz2⟩ := info_parts infoSl
  refine wpList_append_rd w hgd s x _ ho 0 24 i0 _ 24 Try.underlying22 hi hz0 hz1 hz2 rfl v vs.length vs hs hown vx gx us hx hr h1 (by simp [maxLen]; omega) (by omega) (Nat.zero_le _) fun v' w' k1 k2 k3 => ?_
  exact h v' w' (by unfold OwnSl; simpa using k1) (keeps_append k2) k3
end

def frms (Ws : List (List UInt8)) : List UInt8 := (Ws.map frm).flatten
theorem frms_snoc (Ws : List (List UInt8)) (B : List UInt8) : frms (Ws ++ [B]) = frms Ws ++ frm B := by simp [frms]
theorem frms_len : ∀ (Ws : List (List UInt8)), (∀ B ∈ Ws, 3 ≤ B.length ∧ B.length ≤ 8188) → (frms Ws).length ≤ 8192 * Ws.length
  | [], _ => by simp [frms]
  | B :: Ws, h => by
    have h1 := frms_len Ws fun X hX => h X (by simp [hX])
    have h2 := (h B (by simp)).2
    have h3 : (frm B).length = B.length + 4 := by simp [frm, nb_len]; omega
    have h4 : frms (B :: Ws) = frm B ++ frms Ws := rfl
    rw [h4, List.length_append, List.length_cons]
    omega

/-- What the first loop has gathered: the bytes, and the bodies that went in. -/
structure Mid (w wr : World) (b want : Value) (Ws : List (List UInt8)) : Prop where
  own : OwnB wr b (frms Ws)
  row : ∃ us, OwnSl wr want us ∧ Parts wr (fun x => x < w.heap.size) us Ws
  ab : Above w.heap.size b.ownBlock
  aw : Above w.heap.size want.ownBlock
  ne : ∀ x, b.ownBlock = some x → want.ownBlock ≠ some x
  ok : ∀ B ∈ Ws, 3 ≤ B.length ∧ B.length ≤ 8188
  keeps : Keeps nowhere w wr

theorem Mid.more {w wr w' : World} {b want : Value} {Ws : List (List UInt8)} (h : Mid w wr b want Ws) (hk : Keeps nowhere wr w') : Mid w w' b want Ws := by
  obtain ⟨us, h1, h2⟩ := h.row
  exact ⟨h.own.keep hk (fun _ _ h => h), ⟨us, h1.keep hk (fun _ _ h => h), h2.keep0 hk⟩, h.ab, h.aw, h.ne, h.ok, h.keeps.more hk⟩

theorem Mid.snoc {w wr w1 w2 w3 : World} {b b' want want' v : Value} {us : List Value} {g : Option Nat} {Ws : List (List UInt8)} {B : List UInt8} (h : Mid w wr b want Ws) (hus : Parts wr (fun x => x < w.heap.size) us Ws) (hrow : OwnSl wr want us)
    (hown : OwnB w1 b' (frms Ws ++ frm B)) (hk1 : Keeps (fun x => b.ownBlock = some x) wr w1) (hf1 : From b.ownBlock wr.heap.size b'.ownBlock)
    (hk2 : Keeps nowhere w1 w2) (hv : Rd w v g (B.map bv)) (hrow3 : OwnSl w3 want' (us ++ [v])) (hk3 : Keeps (fun x => want.ownBlock = some x) w2 w3) (hf3 : From want.ownBlock w2.heap.size want'.ownBlock)
    (h3 : 3 ≤ B.length) (h8 : B.length ≤ 8188) : Mid w w3 b' want' (Ws ++ [B]) := by
  have hs0 := h.keeps.size
  have hs1 := hk1.size
  have hs2 := hk2.size
  have hwlt : ∀ x, want.ownBlock = some x → x < wr.heap.size := fun x hx => hrow.lt x hx
  have hkw1 : Keeps nowhere w w1 := h.keeps.trans hk1 fun x hx e => by have := h.ab x e; omega
  have hkw2 := hkw1.more hk2
  have hkw3 : Keeps nowhere w w3 := hkw2.trans hk3 fun x hx e => by have := h.aw x e; omega
  have hb'lt : ∀ x, b'.ownBlock = some x → x < w1.heap.size := fun x hx => hown.lt x hx
  have hne1 : ∀ x, b'.ownBlock = some x → want.ownBlock ≠ some x := fun x hx e => (hf1 x hx).elim (fun e' => h.ne x e' e) (fun h' => by have := hwlt x e; omega)
  refine ⟨?_, ⟨us ++ [v], hrow3, ?_⟩, ?_, ?_, ?_, ?_, hkw3⟩
  · rw [frms_snoc]
    exact (hown.keep hk2 (fun _ _ h => h)).keep hk3 (fun x hx e => hne1 x hx e)
  · have p1 : Parts w3 (fun x => x < w.heap.size) us Ws := ((hus.keep hk1 fun x hx e => by have := h.ab x e; omega).keep0 hk2).keep hk3 fun x hx e => by have := h.aw x e; omega
    exact p1.snoc (hv.keep hkw3 (fun _ _ h => h)) (fun x hx => hv.lt x hx)
  · exact h.ab.of_from hf1 hs0
  · exact h.aw.of_from hf3 (by omega)
  · exact fun x hx e => (hf3 x e).elim (fun e' => hne1 x hx e') (fun h' => by have := hb'lt x hx; omega)
  · intro X hX
    rcases List.mem_append.1 hX with hX | hX
    · exact h.ok X hX
    · rw [List.mem_singleton.1 hX]
      exact ⟨h3, h8⟩

set_option maxHeartbeats 400000 in
set_option maxRecDepth 20000 in
theorem back_long (A0 : Option Addr) (n0 c0 : Nat) (s : Int) (w : World) (h : 20 < n0) : Calls Try.prog 3 #[.slice A0 n0 c0, .int .u8 s] w (Yes w) := by
  have h1' : (20 : Int) < n0 := by omega
  go_enter Try.func3, Try.ntmps3
  go_wp2_with fail
  refine (known6 w).mono ?_
  rintro e w1 ⟨rfl, hk1⟩
  have Hk1 := Lib.hid hk1
  clear hk1
  go_wp2_with fail
  go_ret
  exact ⟨rfl, Hk1.out⟩

set_option maxHeartbeats 6400000 in
set_option maxRecDepth 20000 in
theorem fback_walk (v0 : Value) (g0 : Option Nat) (vs0 : List Value) (Ls0 : List (List UInt8)) (sz : Nat) (w : World) (hr0 : Rd w v0 g0 vs0) (hp0 : Parts w (fun _ => True) vs0 Ls0) (hsz : sz < 256) (hn20 : vs0.length ≤ 20) :
    Calls Try.prog 3 #[v0, .int .u8 sz] w (Yes w) := by
  obtain ⟨A0, c0, rfl, hlc0, hmc0⟩ := hr0.form
  have hpl : ∀ k (hk : k < vs0.length), ∃ (b o : Nat) (v : Value) (L : List UInt8) (g : Option Nat), A0 = some ⟨b, o, none⟩ ∧ b < w.heap.size ∧ w.cell? ⟨b, o + k, none⟩ = some v ∧ Rd w v g (L.map bv) := fun k hk => by
    obtain ⟨b, o, c, he, hg, hlt, -, -, hc⟩ := hr0.plain (by omega)
    injection he with e1 e2 e3
    obtain ⟨v, L, g, h1, h2, h3, -⟩ := hp0.at_ hk
    exact ⟨b, o, v, L, g, e1, hlt, hc k v h1, h3⟩
  obtain ⟨n, hn⟩ : ∃ n, n = vs0.length := ⟨_, rfl⟩
  rw [← hn] at hn20 hpl hr0 hlc0 ⊢
  have h1' : ¬ (20 : Int) < n := by omega
  have Hr0 := Lib.hid hr0
  have Hp0 := Lib.hid hp0
  have Hpl := Lib.hid hpl
  have Hn := Lib.hid hn
  clear hr0 hp0 hpl hn
  go_enter Try.func3, Try.ntmps3
  go_wp2_with fail
  refine (known6 w).mono ?_
  rintro e w1 ⟨rfl, hk1⟩
  have Hk1 := Lib.hid hk1
  clear hk1
  go_wp2_with fail
  go_loopw [5, 6, 7] (fun b want i wr => ∃ (k : Nat) (Ws : List (List UInt8)), k ≤ n ∧ i = .int .i64 k ∧ Mid w wr b want Ws ∧ Ws.length ≤ k) (fun _ _ i _ => n - (intOf i).toNat)
  case atStart => exact ⟨0, [], Nat.zero_le _, rfl, ⟨OwnB.nil _, ⟨[], OwnSl.nil _, Parts.nil _ _⟩, Above.none _, Above.none _, fun x h => (by cases h), fun B hB => (by simp at hB), Hk1.out⟩, Nat.zero_le _⟩
  case round =>
    obtain ⟨k, Ws, hk, rfl, hmid, hwl⟩ := hrel
    by_cases hlt : k < n
    · obtain ⟨b, o, v, L, g, rfl, hblt, hcellw, hrv⟩ := Hpl.out k hlt
      have hcell := (hmid.keeps.cell (p := ⟨b, o + k, none⟩) hblt (fun h => h)).trans hcellw
      obtain ⟨Av, cv, rfl, hlcv, hmcv⟩ := hrv.form
      rw [List.length_map] at hcell hlcv hrv
      obtain ⟨l, hl⟩ : ∃ l, l = L.length := ⟨_, rfl⟩
      rw [← hl] at hcell hlcv hrv
      have hk0 : (0 : Int) ≤ k ∧ (k : Int) < n := by omega
      clear hcellw
      have Hmid := Lib.hid hmid
      have Hrv := Lib.hid hrv
      have Hl := Lib.hid hl
      clear hmid hrv hl
      go_upto_region 10 with fail
      go_cut [49] from 28 to 49 (fun cw wx => ∃ c : Bool, cw = .bool c ∧ (c = true ↔ (300 < l ∧ l < 8180 ∨ 8200 < l)) ∧ wx = wr)
      case first =>
        by_cases ha : 300 < l
        · have ha' : (300 : Int) < l := by omega
          by_cases hb : l < 8180
          · have hb' : (l : Int) < 8180 := by omega
            go_wp2_with fail
            go_meet
            case rel => exact ⟨true, rfl, by simp; omega, rfl⟩
          · have hb' : ¬ (l : Int) < 8180 := by omega
            by_cases hc : 8200 < l
            · have hc' : (8200 : Int) < l := by omega
              go_wp2_with fail
              go_meet
              case rel => exact ⟨true, rfl, by simp; omega, rfl⟩
            · have hc' : ¬ (8200 : Int) < l := by omega
              go_wp2_with fail
              go_meet
              case rel => exact ⟨false, rfl, by simp; omega, rfl⟩
        · have ha' : ¬ (300 : Int) < l := by omega
          have hc' : ¬ (8200 : Int) < l := by omega
          go_wp2_with fail
          go_meet
          case rel => exact ⟨false, rfl, by simp; omega, rfl⟩
      case rest =>
        obtain ⟨c, rfl, hc, hwc⟩ := hcut
        subst wc
        cases c
        · have hlb : l ≤ 8200 := by
            have : ¬ (300 < l ∧ l < 8180 ∨ 8200 < l) := fun h => absurd (hc.2 h) (by simp)
            omega
          clear hc
          have hrvr := Hrv.out.keep Hmid.out.keeps (fun _ _ h => h)
          have Hrvr := Lib.hid hrvr
          clear hrvr
          go_wp2_with fail
          refine (f_wrap _ g L _ Hrvr.out).mono ?_
          rintro e w5 ⟨vx, gx, rfl, hrx, hax, hk5⟩
          have hcell5 := (hk5.cell (p := ⟨b, o + k, none⟩) (Nat.lt_of_lt_of_le hblt Hmid.out.keeps.size) (fun h => h)).trans hcell
          obtain ⟨E, hE⟩ : ∃ E, E = wrapE L := ⟨_, rfl⟩
          obtain ⟨XB, hXB⟩ : ∃ XB, XB = wrapB L := ⟨_, rfl⟩
          rw [← hE]
          rw [← hXB] at hrx
          obtain ⟨Ax, cx, rfl, -⟩ := hrx.form
          obtain ⟨nx, hnx⟩ : ∃ nx, nx = (XB.map bv).length := ⟨_, rfl⟩
          rw [← hnx] at hrx ⊢
          have hrv5 := Hrvr.out.keep hk5 (fun _ _ h => h)
          clear hcell
          have Hrx := Lib.hid hrx
          have Hax := Lib.hid hax
          have Hk5 := Lib.hid hk5
          have HE := Lib.hid hE
          have HXB := Lib.hid hXB
          have Hrv5 := Lib.hid hrv5
          have Hnx := Lib.hid hnx
          clear hrx hax hk5 hE hXB hrv5 hnx
          go_wp2_with fail
          refine (ref_wrap _ g L _ Hrv5.out (by rw [← Hl.out]; omega)).mono ?_
          rintro e w6 ⟨vy, gy, rfl, hry, hay, hk6⟩
          have hcell6 := (hk6.cell (p := ⟨b, o + k, none⟩) (Nat.lt_of_lt_of_le hblt (Hmid.out.keeps.more Hk5.out).size) (fun h => h)).trans hcell5
          rw [← HE.out]
          rw [← HXB.out] at hry
          obtain ⟨Ay, cy, rfl, -⟩ := hry.form
          rw [← Hnx.out] at hry ⊢
          have hrx6 := Hrx.out.keep hk6 (fun _ _ h => h)
          have hcx := conv_str _ _ _ _ hrx6
          have hcy := conv_str _ _ _ _ hry
          have hq := strOf_beq (rfl : XB = XB)
          have hEE : (E != E) = false := by simp
          have hmid6 := (Hmid.out.more Hk5.out).more hk6
          clear hcell5
          by_cases hgood : E = 0 ∧ 3 ≤ l
          · have hE0 : (E == 0) = true := by simp [hgood.1]
            have hl3 : (l : Int) ≥ 3 := by omega
            have hL8 : L.length ≤ 8188 := by
              have h := HE.out
              rw [hgood.1, wrapE] at h
              split at h
              · cases h
              · omega
            have hXf : XB = frm L := by rw [HXB.out, wrapB, if_neg (by omega)]
            have hfl := frms_len Ws Hmid.out.ok
            have hfl2 : (frm L).length = L.length + 4 := by simp [frm, nb_len]; omega
            obtain ⟨us, hus1, hus2⟩ := hmid6.row
            have hown6 := hmid6.own
            have hbl1 : (frms Ws).length + XB.length ≤ 1099511627776 := by rw [hXf, hfl2]; omega
            have hbl2 : us.length + 1 ≤ 1099511627776 := by have := hus2.1; omega
            have Hgood := Lib.hid hgood
            have Hry := Lib.hid hry
            have Hay := Lib.hid hay
            have Hk6 := Lib.hid hk6
            have Hrx6 := Lib.hid hrx6
            have Hmid6 := Lib.hid hmid6
            have HXf := Lib.hid hXf
            have Hfl := Lib.hid hfl
            have Hfl2 := Lib.hid hfl2
            have Hus1 := Lib.hid hus1
            have Hus2 := Lib.hid hus2
            have Hown6 := Lib.hid hown6
            have HL8 := Lib.hid hL8
            have Hbl1 := Lib.hid hbl1
            have Hbl2 := Lib.hid hbl2
            clear hgood hry hay hk6 hrx6 hmid6 hXf hfl hfl2 hus1 hus2 hown6 hL8 hbl1 hbl2
            go_wp2_with (at_builtin; go_must (refine wpList_append_bytes rfl (.tmp 86) (.tmp 87) rfl _ _ rfl Hown6.out _ gx XB rfl Hrx6.out Hbl1.out ?_))
            intro b7 w7 hown7 hk7 hf7
            have hkw7 : Keeps nowhere w w7 := Hmid6.out.keeps.trans hk7 fun x hx e => by have := Hmid6.out.ab x e; omega
            have hcell7 := (hk7.cell (p := ⟨b, o + k, none⟩) (Nat.lt_of_lt_of_le hblt Hmid6.out.keeps.size) (fun e => by have := Hmid6.out.ab _ e; simp at this; omega)).trans hcell6
            have hus7 := Hus1.out.keep hk7 (fun x hx e => Hmid6.out.ne x e hx)
            have hk8 := (Keeps.refl nowhere w7).alloc (.cells #[.slice Av l cv] 24)
            have hus8 := hus7.keep hk8 (fun _ _ h => h)
            have hr8 := Rd.full (heap_alloc_new w7 (.cells #[.slice Av l cv] 24)) (by simp [maxLen])
            clear hcell6 hcx hcy
            have Hown7 := Lib.hid hown7
            have Hk7 := Lib.hid hk7
            have Hf7 := Lib.hid hf7
            have Hkw7 := Lib.hid hkw7
            have Hus7 := Lib.hid hus7
            have Hk8 := Lib.hid hk8
            have Hus8 := Lib.hid hus8
            have Hr8 := Lib.hid hr8
            clear hown7 hk7 hf7 hkw7 hus7 hk8 hus8 hr8
            go_wp2_with (at_builtin; go_must (refine wpList_append_sl rfl (.tmp 89) (.tmp 94) rfl _ us rfl Hus8.out _ _ [.slice Av l cv] rfl Hr8.out (by intro u hu; rw [List.mem_singleton.1 hu]; rfl) Hbl2.out ?_))
            intro want9 w9 hown9 hk9 hf9
            have hmid9 := Hmid6.out.snoc (v := .slice Av l cv) (B := L) (g := g) Hus2.out Hus1.out (by rw [← HXf.out]; exact Hown7.out) Hk7.out Hf7.out Hk8.out Hrv.out hown9 hk9 (by simpa using hf9) (by rw [← Hl.out]; exact Hgood.out.2) HL8.out
            clear hown9 hk9 hf9
            have Hmid9 := Lib.hid hmid9
            clear hmid9
            go_wp2_with fail
            go_roundw
            case rel => exact ⟨k + 1, Ws ++ [L], by omega, by go_num, Hmid9.out, by simp; omega⟩
            case measure => simp [intOf]; omega
          · by_cases hE0 : E = 0
            · have hE0' : (E == 0) = true := by simp [hE0]
              have hl3 : ¬ (l : Int) ≥ 3 := by omega
              have Hgood := Lib.hid hgood
              have HE0 := Lib.hid hE0
              have Hry := Lib.hid hry
              have Hay := Lib.hid hay
              have Hk6 := Lib.hid hk6
              have Hrx6 := Lib.hid hrx6
              have Hmid6 := Lib.hid hmid6
              clear hgood hE0 hry hay hk6 hrx6 hmid6
              go_wp2_with fail
              go_roundw
              case rel => exact ⟨k + 1, Ws, by omega, by go_num, Hmid6.out, by omega⟩
              case measure => simp [intOf]; omega
            · have hE0' : (E == 0) = false := by simp [hE0]
              have Hgood := Lib.hid hgood
              have HE0 := Lib.hid hE0
              have Hry := Lib.hid hry
              have Hay := Lib.hid hay
              have Hk6 := Lib.hid hk6
              have Hrx6 := Lib.hid hrx6
              have Hmid6 := Lib.hid hmid6
              clear hgood hE0 hry hay hk6 hrx6 hmid6
              go_wp2_with fail
              go_roundw
              case rel => exact ⟨k + 1, Ws, by omega, by go_num, Hmid6.out, by omega⟩
              case measure => simp [intOf]; omega
        · clear hc
          go_wp2_with fail
          go_ret
          exact ⟨rfl, Hmid.out.keeps⟩
    · obtain rfl : k = n := by omega
      obtain ⟨wm, hwm⟩ : ∃ wm, wm = wr := ⟨_, rfl⟩
      subst hwm
      have hfl := frms_len Ws hmid.ok
      have hff := feed_frms Ws hmid.ok
      obtain ⟨F, hF⟩ : ∃ F, F = frms Ws := ⟨_, rfl⟩
      rw [show (List.map frm Ws).flatten = F from hF.symm] at hff
      have hown := hmid.own
      rw [← hF] at hfl hown
      obtain ⟨Ab, cb, rfl, hlcb, hmcb⟩ := hown.form'
      have hpb : ∀ j, j < F.length → ∃ b o, Ab = some ⟨b, o, none⟩ := fun j hj => by
        obtain ⟨b, o, c, he, -⟩ := hown.rd.plain (by rw [List.length_map]; omega)
        injection he with e1 e2 e3
        exact ⟨b, o, e1⟩
      obtain ⟨nF, hnF⟩ : ∃ nF, nF = F.length := ⟨_, rfl⟩
      have hbrd := hown.rd
      rw [← hnF] at hfl hbrd hlcb hpb ⊢
      have hblt := hown.lt
      rw [← hnF] at hown hblt
      have hbab := hmid.ab
      obtain ⟨us, hus1, hus2⟩ := hmid.row
      have hkw := hmid.keeps
      have haw := hmid.aw
      obtain ⟨Kn, hKn⟩ : ∃ Kn, Kn = 1 + 8 * sz := ⟨_, rfl⟩
      have hw8 : IntKind.i64.wrap (8 * (sz : Int)) = 8 * sz := IntWalk.i64_in _ (by omega)
      have hwK : IntKind.i64.wrap (1 + 8 * (sz : Int)) = (Kn : Int) := by rw [IntWalk.i64_in _ (by omega)]; omega
      have hK1 : 1 ≤ Kn ∧ Kn ≤ 2041 := by omega
      have hnF2 : nF ≤ 163840 := by omega
      clear hn20 hmid hfl
      have Hff := Lib.hid hff
      have HF := Lib.hid hF
      have Hown := Lib.hid hown
      have Hpb := Lib.hid hpb
      have Hbrd := Lib.hid hbrd
      have Hblt := Lib.hid hblt
      have Hbab := Lib.hid hbab
      have Hus1 := Lib.hid hus1
      have Hus2 := Lib.hid hus2
      have Hkw := Lib.hid hkw
      have Haw := Lib.hid haw
      have HKn := Lib.hid hKn
      have HnF := Lib.hid hnF
      clear hff hF hown hpb hbrd hblt hbab hus1 hus2 hkw haw hKn hnF
      go_wp2_with fail
      refine (f_new _).mono ?_
      rintro e w8 ⟨rfl, hs8, hk8⟩
      have hsz8 := hk8.size
      have hq8 := hs8.lt.1
      have Hs8 := Lib.hid hs8
      have Hk8 := Lib.hid hk8
      clear hs8 hk8
      go_wp2_with fail
      go_loopw [13, 15] (fun got a wx => ∃ (at_ : Nat) (Ls : List (List UInt8)) (R : List UInt8) (d : Bool), a = .int .i64 at_ ∧ at_ ≤ nF + Kn ∧ feedS 8192 [] false (F.take at_) = (Ls, R, d) ∧ Gath 84 wx w8.heap.size wm.heap.size got Ls R d ∧ Keeps (only wm.heap.size) w8 wx) (fun _ a _ => nF - (intOf a).toNat)
      case atStart => exact ⟨0, [], [], false, rfl, Nat.zero_le _, feedS_nil 8192, ⟨Heap.nil _ _, ⟨none, Hs8.out, fun b hb => by cases hb⟩, hq8⟩, Keeps.refl _ _⟩
      case round =>
        obtain ⟨at_, Ls, R, d, rfl, hat, hfe, hga, hkr⟩ := hrel
        have hle := feedS_le 8192 [] false (F.take at_)
        rw [hfe] at hle
        simp only [List.length_nil, List.length_take, ← HnF.out] at hle
        have hszr := hkr.size
        have hbq : ∀ x, (Value.slice Ab nF cb).ownBlock = some x → ¬ only wm.heap.size x := fun x hx e => by have := Hblt.out x hx; unfold only at e; omega
        have hbr := (Hbrd.out.keep Hk8.out (fun _ _ h => h)).keep hkr (fun x hx => hbq x hx)
        by_cases hlt : at_ < nF
        · obtain ⟨b, off, rfl⟩ := Hpb.out at_ hlt
          obtain ⟨gt, hst, hgt⟩ := hga.st
          obtain ⟨e', he'⟩ : ∃ e', e' = if nF < at_ + Kn then nF - at_ else Kn := ⟨_, rfl⟩
          have he1 : at_ + e' ≤ nF := by rw [he']; split <;> omega
          have hpc := hbr.mid at_ e' (by rw [List.length_map, ← HnF.out]; exact he1)
          rw [if_neg (by omega), ← List.map_drop, ← List.map_take] at hpc
          simp only [Option.map_some, Addr.add_lit, Nat.mul_one] at hpc
          have htk : F.take (at_ + Kn) = F.take at_ ++ (F.drop at_).take e' := by
            rw [List.take_add]
            congr 1
            rw [he']
            split
            · rw [List.take_of_length_le (by rw [List.length_drop, ← HnF.out]; omega), List.take_of_length_le (by rw [List.length_drop, ← HnF.out]; omega)]
            · rfl
          obtain ⟨M, R', d', hM⟩ : ∃ M R' d', feedS 8192 R d ((F.drop at_).take e') = (M, R', d') := ⟨_, _, _, rfl⟩
          have hstep : feedS 8192 [] false (F.take (at_ + Kn)) = (Ls ++ M, R', d') := by
            rw [htk, feedS_app, hfe]
            simp only []
            rw [hM]
          have hle2 := feedS_le 8192 [] false (F.take (at_ + Kn))
          rw [hstep] at hle2
          simp only [List.length_nil, List.length_take, ← HnF.out, List.length_append] at hle2
          have hb6 : Ls.length + M.length ≤ 1099511627776 := by omega
          have hlen : R.length + ((F.drop at_).take e').length ≤ 1099511627776 := by rw [List.length_take]; omega
          have hwe : IntKind.i64.wrap ((at_ : Int) + Kn) = (at_ : Int) + Kn := IntWalk.i64_in _ (by omega)
          have hlt' : (at_ : Int) < nF := by omega
          have hat2 : at_ + Kn ≤ nF + Kn := by omega
          clear hle hle2 htk
          by_cases hov : nF < at_ + Kn
          · have hov' : (nF : Int) < (at_ : Int) + Kn := by omega
            rw [if_pos hov] at he'
            have hs1 : (0 : Int) ≤ at_ ∧ (at_ : Int) ≤ nF ∧ (nF : Int) ≤ cb := by omega
            have hs2 : nF - at_ = e' := he'.symm
            have Hfe := Lib.hid hfe
            have Hga := Lib.hid hga
            have Hkr := Lib.hid hkr
            have Hbq := Lib.hid hbq
            have Hbr := Lib.hid hbr
            have Hst := Lib.hid hst
            have Hgt := Lib.hid hgt
            have He' := Lib.hid he'
            have Hpc := Lib.hid hpc
            have HM := Lib.hid hM
            have Hstep := Lib.hid hstep
            have Hb6 := Lib.hid hb6
            have Hlen := Lib.hid hlen
            clear hfe hga hkr hbq hbr hst hgt he' hpc hM hstep hb6 hlen
            go_wp2_with fail
            refine (feed_any _ gt _ R _ d 8192 _ _ Hst.out Hpc.out (by omega) Hlen.out).mono ?_
            rw [HM.out]
            rintro e w5 hret
            obtain ⟨vy, us5, g', rfl, hvy, hus, hh5, hs5, hg5, hk5⟩ := Hga.out.feed hszr Hst.out Hgt.out hret
            have hsz5 := hk5.size
            clear hret
            have Hvy := Lib.hid hvy
            have Hus := Lib.hid hus
            have Hh5 := Lib.hid hh5
            have Hs5 := Lib.hid hs5
            have Hg5 := Lib.hid hg5
            have Hk5 := Lib.hid hk5
            clear hvy hus hh5 hs5 hg5 hk5
            go_wp2_with (at_builtin; go_must (refine wpList_append_parts rfl (.tmp 117) (.tmp 123) rfl w8.heap.size u13 Ls rfl Hh5.out ?hN _ _ us5 M rfl Hvy.out Hus.out Hb6.out ?_))
            case hN => omega
            intro v' w6 hh6 hk6 hf6
            have hga6 := Hga.out.append Hh5.out Hs5.out Hg5.out hh6 hk6 hf6
            have hkr6 := Gath.keeps (S := only wm.heap.size) Hh5.out (Nat.le_refl _) Hkr.out Hk5.out hk6 rfl
            clear hh6 hk6 hf6
            have Hga6 := Lib.hid hga6
            have Hkr6 := Lib.hid hkr6
            clear hga6 hkr6
            go_wp2_with fail
            go_roundw
            case rel => exact ⟨at_ + Kn, Ls ++ M, R', d', by go_num, hat2, Hstep.out, Hga6.out, Hkr6.out⟩
            case measure => simp [intOf]; omega
          · have hov' : ¬ (nF : Int) < (at_ : Int) + Kn := by omega
            rw [if_neg hov] at he'
            have hs1 : (0 : Int) ≤ at_ ∧ (at_ : Int) ≤ (at_ : Int) + Kn ∧ (at_ : Int) + Kn ≤ cb := by omega
            have hs2 : ((at_ : Int) + Kn).toNat - at_ = e' := by omega
            have Hfe := Lib.hid hfe
            have Hga := Lib.hid hga
            have Hkr := Lib.hid hkr
            have Hbq := Lib.hid hbq
            have Hbr := Lib.hid hbr
            have Hst := Lib.hid hst
            have Hgt := Lib.hid hgt
            have He' := Lib.hid he'
            have Hpc := Lib.hid hpc
            have HM := Lib.hid hM
            have Hstep := Lib.hid hstep
            have Hb6 := Lib.hid hb6
            have Hlen := Lib.hid hlen
            clear hfe hga hkr hbq hbr hst hgt he' hpc hM hstep hb6 hlen
            go_wp2_with fail
            refine (feed_any _ gt _ R _ d 8192 _ _ Hst.out Hpc.out (by omega) Hlen.out).mono ?_
            rw [HM.out]
            rintro e w5 hret
            obtain ⟨vy, us5, g', rfl, hvy, hus, hh5, hs5, hg5, hk5⟩ := Hga.out.feed hszr Hst.out Hgt.out hret
            have hsz5 := hk5.size
            clear hret
            have Hvy := Lib.hid hvy
            have Hus := Lib.hid hus
            have Hh5 := Lib.hid hh5
            have Hs5 := Lib.hid hs5
            have Hg5 := Lib.hid hg5
            have Hk5 := Lib.hid hk5
            clear hvy hus hh5 hs5 hg5 hk5
            go_wp2_with (at_builtin; go_must (refine wpList_append_parts rfl (.tmp 117) (.tmp 123) rfl w8.heap.size u13 Ls rfl Hh5.out ?hN _ _ us5 M rfl Hvy.out Hus.out Hb6.out ?_))
            case hN => omega
            intro v' w6 hh6 hk6 hf6
            have hga6 := Hga.out.append Hh5.out Hs5.out Hg5.out hh6 hk6 hf6
            have hkr6 := Gath.keeps (S := only wm.heap.size) Hh5.out (Nat.le_refl _) Hkr.out Hk5.out hk6 rfl
            clear hh6 hk6 hf6
            have Hga6 := Lib.hid hga6
            have Hkr6 := Lib.hid hkr6
            clear hga6 hkr6
            go_wp2_with fail
            go_roundw
            case rel => exact ⟨at_ + Kn, Ls ++ M, R', d', by go_num, hat2, Hstep.out, Hga6.out, Hkr6.out⟩
            case measure => simp [intOf]; omega
        · have hlt' : ¬ (at_ : Int) < nF := by omega
          rw [show F.take at_ = F from List.take_of_length_le (by rw [← HnF.out]; omega), show feedS 8192 [] false F = feed 8192 F from rfl, Hff.out] at hfe
          injection hfe with e1 e2
          injection e2 with e2 e3
          subst e1 e2 e3
          obtain ⟨gt, hst, hgt⟩ := hga.st
          obtain ⟨vs, hvs1, hvs2⟩ := hga.heap.rd
          have hu1 := (Hus1.out.keep Hk8.out (fun _ _ h => h)).keep hkr (fun x hx e => by have := Hus1.out.lt x hx; unfold only at e; omega)
          have hwm := Hkw.out.size
          have hu2 := (Hus2.out.keep0 Hk8.out).keep hkr (fun x hx e => by unfold only at e; omega)
          have hkw5 : Keeps nowhere w wr := (Hkw.out.more Hk8.out).fresh hkr hwm
          have htx := texts_any _ _ _ _ vs us Ws Ws _ _ wr hvs1 hvs2 hu1.rd hu2
          rw [show decide (Ws = Ws) = true from by simp] at htx
          have Hga := Lib.hid hga
          have Hkr := Lib.hid hkr
          have Hbr := Lib.hid hbr
          have Hst := Lib.hid hst
          have Hgt := Lib.hid hgt
          have Hvs1 := Lib.hid hvs1
          have Hvs2 := Lib.hid hvs2
          have Hu1 := Lib.hid hu1
          have Hu2 := Lib.hid hu2
          have Hkw5 := Lib.hid hkw5
          have Htx := Lib.hid htx
          have Hbq := Lib.hid hbq
          clear hga hkr hbr hst hgt hvs1 hvs2 hu1 hu2 hkw5 htx hbq
          go_wp2_with fail
          refine Htx.out.mono ?_
          rintro e w6 ⟨rfl, hk6⟩
          have hl6 := f_held _ _ _ _ _ (Hst.out.keep0 hk6)
          have hd6 := f_dead _ _ _ _ _ (Hst.out.keep0 hk6)
          have hkw6 := Hkw5.out.more hk6
          have Hk6 := Lib.hid hk6
          have Hl6 := Lib.hid hl6
          have Hd6 := Lib.hid hd6
          have Hkw6 := Lib.hid hkw6
          clear hk6 hl6 hd6 hkw6
          go_wp2_with fail
          refine Hl6.out.mono ?_
          rintro e w7 ⟨rfl, rfl⟩
          rw [show ([] : List UInt8).length = 0 from rfl]
          go_wp2_with fail
          refine Hd6.out.mono ?_
          rintro e w7 ⟨rfl, rfl⟩
          go_wp2_with fail
          go_ret
          exact ⟨rfl, Hkw6.out⟩
end Go.Proofs.Ytblmbchjafffbaa
