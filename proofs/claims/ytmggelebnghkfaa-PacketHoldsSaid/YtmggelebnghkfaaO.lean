/- The contract of the reference's Join: it answers what the plain function joinF answers. -/
import Derived.Test.YtmggelebnghkfaaJ
import Derived.Test.YtmggelebnghkfaaL
namespace Go.Proofs.Ytmggelebnghkfaa
open Go.RowKit

theorem ref_new {w1 : World} {base g : Nat} {m limit : Int} (hb1 : Bk w1 g 56 (ref0 m limit)) (hg : base ≤ g) (hl : 0 ≤ limit) :
    RdrP w1 base g 56 m limit { rest := [], body := [], next := 0, first := 0, within := false } 0 (.slice none 0 0) (.slice none 0 0) :=
  ⟨hb1, hg, SlO.nil _ _ _, World.ownsRow_nil _ _ _ _, fun k _ e => by simp [Value.ownBlock] at e, fun z hz => by simp at hz, Int.le_refl _, by decide, by simpa using hl⟩

theorem ref_start {w1 : World} {base g : Nat} {m limit nx : Int} (hb1 : Bk w1 g 56 (ref0 m limit)) (hg : base ≤ g) (hl : 0 ≤ limit) (h0 : 0 ≤ nx) (h1 : nx ≤ 255) :
    RdrP (w1.setCell ⟨g, 2, none⟩ (.int .u8 nx)) base g 56 m limit { rest := [], body := [], next := nx, first := 0, within := false } 0 (.slice none 0 0) (.slice none 0 0) :=
  ⟨hb1.set 2 _, hg, SlO.nil _ _ _, World.ownsRow_nil _ _ _ _, fun k _ e => by simp [Value.ownBlock] at e, fun z hz => by simp at hz, h0, h1, by simpa using hl⟩

set_option maxHeartbeats 1600000 in
set_option maxRecDepth 100000 in
theorem refJoin_any (m : Nat) (limit : Int) (A : Option Addr) (n c B : Nat) (bs : List Int) (w : World) (hl : bs.length = n) (hr : Rd w B A (bts bs)) (hB : B ≤ w.heap.size) (hbs : ∀ z ∈ bs, 0 ≤ z ∧ z ≤ 255) (hn : n ≤ 1048576)
    (hm1 : 1 ≤ m) (hm2 : m ≤ 16777215) (hl0 : 0 ≤ limit) (hl1 : limit ≤ 1073741824) :
    Calls Try.prog 12 #[.slice A n c, .int .i64 m, .int .i64 limit] w (JoinPost (joinF m limit bs) w) := by
  have hsum := join_le m hm1 limit bs hbs
  rw [hl] at hsum
  have HJ := Lib.hid (show joinF m limit bs = joinF m limit bs from rfl)
  unfold joinF
  have HE : ∃ ps er, (feedF m limit (join0 bs) []).2.1 = ps ∧ (feedF m limit (join0 bs) []).2.2 = er := ⟨_, _, rfl, rfl⟩
  obtain ⟨ps, er, hps, her⟩ := HE
  rw [hps] at hsum
  rw [hps, her, hl]
  generalize hE2 : (if er = 0 ∧ sumN m ps < n then (4 : Int) else er) = E2 at *
  have HE2 := Lib.hid hE2
  have HC : ∀ (w1 : World) (nx : Int), (join0 bs).next = nx → RdrP w1 w.heap.size w.heap.size 56 m limit { rest := [], body := [], next := nx, first := 0, within := false } 0 (.slice none 0 0) (.slice none 0 0) → Below w.heap.size w w1 →
      Calls Try.prog 21 #[.pointer (some ⟨w.heap.size, 0, none⟩), .slice A n c] w1 (JPost ps er w) := by
    intro w1 nx hnx h1 hb1
    subst hnx
    refine (RefR.feed_any w.heap.size w.heap.size m limit _ _ _ A n c B bs w1 h1 hl (hr.below (hb1.mono hB)) hB hbs (by simp; omega) (by omega) (by omega) hl0 hl1).mono ?_
    rintro e w2 ⟨vo, S, he, hT, hb2, _⟩
    have e0 : feedF m limit { ({ rest := [], body := [], next := (join0 bs).next, first := 0, within := false } : St) with rest := ({ rest := [], body := [], next := (join0 bs).next, first := 0, within := false } : St).rest ++ bs } [] = feedF m limit (join0 bs) [] := rfl
    rw [e0] at he hT
    rw [hps] at hT
    rw [her] at he
    obtain ⟨Ao, co, cs, rfl, h3, h4, h5⟩ := told_read hT
    exact ⟨Ao, co, cs, he, h3, h4, hb1.trans hb2, h5⟩
  have HCC := Lib.hid HC
  have hz := getD_byte hbs 3
  have hnx : (join0 bs).next = if 4 ≤ n then bs.getD 3 0 else 0 := by rw [← hl]; rfl
  have HNX := Lib.hid hnx
  have HZ := Lib.hid hz
  have HHR := Lib.hid hr
  have HHL := Lib.hid hl
  clear HC hz hnx hps her hbs hr hl HJ hE2
  have HLE := Lib.hid hsum
  rcases Nat.lt_or_ge n 4 with h4 | h4
  focus
    have hnx2 : (join0 bs).next = 0 := by rw [HNX.out, if_neg (by omega)]
    have HN2 := Lib.hid hnx2
    clear hnx2 HNX HZ HHR
    go_enter Try.func12, Try.ntmps12
    go_wp2_with (first
      | (go_at_call 20; refine (refNew_ok m limit w (by omega) (by omega) hl0 hl1).mono ?_; rintro e w1 ⟨rfl, hw1⟩; have hb1 : Bk w1 w.heap.size 56 (ref0 m limit) := (by rw [← hw1]; exact heap_alloc_new w _); have hbb : Below w.heap.size w w1 := (by rw [← hw1]; exact (Below.refl _ _).alloc (Nat.le_refl _) _); have HB1 := Lib.hid hb1; have HBB := Lib.hid hbb; clear hw1 hb1 hbb)
      | (go_at_call 21; refine (HCC.out _ 0 HN2.out (ref_new HB1.out (Nat.le_refl _) hl0) HBB.out).mono ?_; rintro e w3 ⟨Ao, co, cs, rfl, hrd3, hpk3, hb3, hco⟩; have HR3 := Lib.hid hrd3; have HP3 := Lib.hid hpk3; have HB3 := Lib.hid hb3; clear hrd3 hpk3 hb3))
  rotate_left
  focus
    obtain ⟨ga, oa, hA, hga, hc3⟩ := HHR.out 3 _ (bts_get bs 3 (by rw [HHL.out]; omega))
    subst hA
    have hnx2 : (join0 bs).next = bs.getD 3 0 := by rw [HNX.out, if_pos h4]
    have HN2 := Lib.hid hnx2
    have hz0 := HZ.out.1
    have hz1 := HZ.out.2
    generalize bs.getD 3 0 = b3 at *
    clear hnx2 HNX
    go_enter Try.func12, Try.ntmps12
    go_wp2_with (first
      | (go_at_call 20; refine (refNew_ok m limit w (by omega) (by omega) hl0 hl1).mono ?_; rintro e w1 ⟨rfl, hw1⟩; have hb1 : Bk w1 w.heap.size 56 (ref0 m limit) := (by rw [← hw1]; exact heap_alloc_new w _); have hbb : Below w.heap.size w w1 := (by rw [← hw1]; exact (Below.refl _ _).alloc (Nat.le_refl _) _); have k2 := hb1.cell 2; have l2 := hb1.frozen 2; have k3 := (hbb.cell (p := ⟨ga, oa + 3, none⟩) (Nat.lt_of_lt_of_le hga hB)).trans hc3; simp [ref0] at k2; have HB1 := Lib.hid hb1; have HBB := Lib.hid hbb; clear hw1 hb1 hbb)
      | (go_at_call 21; refine (HCC.out _ b3 HN2.out (ref_start HB1.out (Nat.le_refl _) hl0 hz0 hz1) (HBB.out.setCell (p := ⟨w.heap.size, 2, none⟩) (Nat.le_refl _) _)).mono ?_; rintro e w3 ⟨Ao, co, cs, rfl, hrd3, hpk3, hb3, hco⟩; have HR3 := Lib.hid hrd3; have HP3 := Lib.hid hpk3; have HB3 := Lib.hid hb3; clear hrd3 hpk3 hb3))
  all_goals
    have HCO := Lib.hid hco
    clear hco HCC
    generalize hpl : ps.length = pl at *
    have HPL := Lib.hid hpl
    clear hpl
    have hpb : pl ≤ 1048576 := by
      have h1 := HLE.out
      have h2 := len_le_sum m ps
      rw [HPL.out] at h2
      omega
    have HFin := Lib.hid (And.intro HR3.out (And.intro HP3.out HB3.out))
    go_loop [13, 14, 15] (fun lv av iv => ∃ k : Nat, k ≤ pl ∧ iv = .int .i64 k ∧ av = .int .i64 (sumN m (ps.take k)) ∧ lv = .int .i64 (sumN m (ps.take k))) (fun _ _ iv => pl - (intOf iv).toNat)
    case atStart => exact ⟨0, Nat.zero_le _, rfl, rfl, rfl⟩
    case round =>
      obtain ⟨k, hk, rfl, rfl, rfl⟩ := hrel
      by_cases hlt : k < pl
      · have hltp : k < ps.length := by rw [HPL.out]; exact hlt
        obtain ⟨g, o, x, y, Ab, cb, hAo, hg, r1, r2, r3⟩ := pk_cells HR3.out HP3.out (Below.refl _ _) hltp
        subst hAo
        have hs1 := sumN_take m ps k hltp
        have hs2 := sumN_take_le m ps (k + 1)
        have hwt : wt m ps[k] = ps[k].body.length + 4 * (ps[k].body.length / m + 1) := rfl
        generalize ps[k].body.length = L at *
        generalize wt m ps[k] = Wk at *
        have hdiv : L / m ≤ L := Nat.div_le_self _ _
        have hL : L ≤ 1048576 := by have := HLE.out; omega
        have HST := Lib.hid (show sumN m (ps.take k) + (L + 4 * (L / m + 1)) = sumN m (ps.take (k + 1)) from by rw [hs1, hwt])
        have hb2 : sumN m (ps.take (k + 1)) ≤ 1048576 := by have := HLE.out; omega
        generalize hS1 : sumN m (ps.take (k + 1)) = S1 at *
        have HS1 := Lib.hid hS1
        clear hS1
        generalize sumN m (ps.take k) = S0 at *
        clear hs1 hs2 hwt hltp
        go_wp2_with fail
        go_loop [14, 16] (fun av mv => ∃ a r : Nat, av = .int .i64 a ∧ mv = .int .i64 r ∧ a + (r + 4 * (r / m + 1)) = S1 ∧ r ≤ L) (fun _ mv => (intOf mv).toNat)
        case atStart => exact ⟨S0, L, rfl, rfl, HST.out, Nat.le_refl _⟩
        case round =>
          obtain ⟨a, r, rfl, rfl, heq, hrL⟩ := hrel
          rcases Nat.lt_or_ge r m with hrm | hrm
          · have h0 : r / m = 0 := Nat.div_eq_of_lt hrm
            rw [h0] at heq
            have ha : a ≤ 1048576 := by omega
            have HEQ := Lib.hid (show (a : Int) + 4 + r = (S1 : Int) from by omega)
            clear heq h0 HST
            go_wp2
            refine ⟨⟨k + 1, by omega, by go_num, ?_, ?_⟩, by simp [intOf]; omega⟩
            · rw [HS1.out]; have h := HEQ.out; rw [← h]
            · rw [HS1.out]; have h := HEQ.out; rw [← h]
          · have h0 : r / m = (r - m) / m + 1 := Nat.div_eq_sub_div (by omega) hrm
            have hge : 0 ≤ (r - m) / m := Nat.zero_le _
            have heq2 : (a + 4 + m) + ((r - m) + 4 * ((r - m) / m + 1)) = S1 := by rw [h0] at heq; omega
            have ha : a + 4 + m ≤ 1048576 := by omega
            have HEQ := Lib.hid heq2
            clear heq heq2 h0 hge HST
            go_wp2
            exact ⟨⟨a + 4 + m, r - m, by go_num, by congr 1; omega, HEQ.out, by omega⟩, by simp [intOf]; omega⟩
      · obtain rfl : k = pl := by omega
        have htk : ps.take k = ps := List.take_of_length_le (by rw [HPL.out]; exact Nat.le_refl _)
        rw [htk]
        generalize sumN m ps = Sm at *
        by_cases her0 : er = 0
        · subst her0
          by_cases hsl : Sm < n
          · have hE : E2 = 4 := by rw [← HE2.out, if_pos ⟨rfl, hsl⟩]
            subst hE
            go_wp2
            go_ret3
            exact ⟨Ao, co, cs, by rw [HPL.out]; rfl, HFin.out.1, HFin.out.2.1, HFin.out.2.2⟩
          · have hE : E2 = 0 := by rw [← HE2.out, if_neg (fun h => hsl h.2)]
            subst hE
            go_wp2
            go_ret3
            exact ⟨Ao, co, cs, by rw [HPL.out]; rfl, HFin.out.1, HFin.out.2.1, HFin.out.2.2⟩
        · have hE : E2 = er := by rw [← HE2.out, if_neg (fun h => her0 h.1)]
          have hb : (er == 0) = false := by simp [her0]
          clear her0
          subst hE
          go_wp2
          go_ret3
          exact ⟨Ao, co, cs, by rw [HPL.out]; rfl, HFin.out.1, HFin.out.2.1, HFin.out.2.2⟩

set_option maxHeartbeats 400000 in
theorem refJoin_bad (most limit : Int) (v : Value) (w : World) (h : ¬ (1 ≤ most ∧ most ≤ 16777215 ∧ 0 ≤ limit ∧ limit ≤ 1073741824)) :
    Calls Try.prog 12 #[v, .int .i64 most, .int .i64 limit] w fun e w' => e = .returned (.tuple #[.slice none 0 0, .int .i64 0, .int .i64 2]) ∧ w = w' := by
  have HC := Lib.hid (refNew_bad most limit w h)
  clear h
  go_enter Try.func12, Try.ntmps12
  go_wp2_with (go_at_call 20; refine HC.out.mono ?_; rintro e w1 ⟨rfl, rfl⟩)
  go_ret3
  exact ⟨rfl, rfl⟩

end Go.Proofs.Ytmggelebnghkfaa
