/- The law PacketHolds, walked: whatever the numbers and the slices, the reader holds no more than it may and stops where it should. -/
import Derived.Test.YtmggelebnghkfaaS
import Derived.Test.YtmggelebnghkfaaQ
import Derived.IntWalk
namespace Go.Proofs.Ytmggelebnghkfaa
open Go.RowKit

/-- A reader that holds no more than it may, in memory of the call's own. -/
def HSt (w : World) (base g : Nat) (most limit stop : Int) (w' : World) : Prop :=
  ∃ s vr vb, RdrP w' base g 51 most limit s stop vr vb ∧ (stop = 0 → (s.rest.length : Int) + s.body.length ≤ limit + 4 ∧ s.rest.length ≤ 16777220) ∧ Below base w w'

theorem HSt.drewN {w w' : World} {base g : Nat} {most limit stop : Int} (h : HSt w base g most limit stop w') (m : Nat) : HSt w base g most limit stop (w'.drewN m) := by
  obtain ⟨s, vr, vb, h1, h2, h3⟩ := h
  exact ⟨s, vr, vb, h1.drewN m, h2, below_drewN h3 m⟩

/-- What is told of a call of Feed: no payload is longer than the limit, and the reader stopped at the error told, or had stopped before. -/
def FPost (w : World) (base g : Nat) (most limit : Int) (e : Ending) (w' : World) : Prop :=
  ∃ Ao np co er stop, e = .returned (.tuple #[.slice Ao np co, .int .i64 er]) ∧ np ≤ 268435456 ∧
    (∀ k, k < np → ∃ g' o' A l c, Ao = some ⟨g', o', none⟩ ∧ w'.cell? ⟨g', o' + k * 3 + 2, none⟩ = some (.slice A l c) ∧ (l : Int) ≤ limit) ∧
    HSt w base g most limit stop w' ∧ (er = 0 ∨ er = stop ∨ er = 9)

theorem feed_holds {w wr : World} {base g : Nat} {most limit stop : Int} (A : Option Addr) (n c : Nat) (bs : List Int) (h : HSt w base g most limit stop wr) (hl : bs.length = n) (hr : Rd w base A (bts bs)) (hbs : ∀ z ∈ bs, 0 ≤ z ∧ z ≤ 255) (hn : n ≤ 3000)
    (hm1 : 1 ≤ most) (hm2 : most ≤ 16777215) (hl0 : 0 ≤ limit) (hl1 : limit ≤ 1073741824) :
    Calls Try.prog 15 #[.pointer (some ⟨g, 0, none⟩), .slice A n c] wr (FPost w base g most limit) := by
  obtain ⟨s, vr, vb, hP, hS, hB⟩ := h
  by_cases h0 : stop = 0
  · subst h0
    have hs := hS rfl
    refine (feed_any g base most limit s vr vb A n c base bs wr hP hl (hr.below hB) (Nat.le_refl _) hbs (by omega) hm1 hm2 hl0 hl1).mono ?_
    have hheld := feedL_held most limit (s.rest.length + bs.length + 1) { s with rest := s.rest ++ bs } [] (by simp) (by
      intro z hz
      rcases List.mem_append.1 hz with hz | hz
      · exact hP.bytes z hz
      · exact hbs z hz) hP.lim (by intro p hp; simp at hp)
    have hf : feedF most limit { s with rest := s.rest ++ bs } [] = feedL most limit (s.rest.length + bs.length + 1) { s with rest := s.rest ++ bs } [] := by simp [feedF]
    rw [← hf] at hheld
    obtain ⟨q1, q2, _, _, q5⟩ := hheld
    generalize feedF most limit { s with rest := s.rest ++ bs } [] = R at *
    rintro e w' ⟨vo, S, vr', vb', rfl, hT, hP', hB', _⟩
    obtain ⟨Ao, co, cs, rfl, h3, h4, _⟩ := told_read hT
    refine ⟨Ao, _, co, R.2.2, R.2.2, rfl, ?_, fun k hk => ?_, ⟨_, _, _, hP', q2, hB.trans (hB'.mono (Nat.le_refl _))⟩, .inr (.inl rfl)⟩
    · simp at q5; omega
    · obtain ⟨g', o', x, y, A', c', e1, _, _, _, e4⟩ := pk_cells h3 h4 (Below.refl _ _) hk
      exact ⟨g', o', A', _, c', e1, e4, q1 _ (List.getElem_mem hk)⟩
  · refine (feed_over _ hP hm1 h0).mono ?_
    rintro e w' ⟨rfl, rfl⟩
    exact ⟨none, 0, 0, 9, stop, rfl, by omega, fun k hk => by omega, ⟨s, vr, vb, hP, hS, hB⟩, .inr (.inr rfl)⟩

def GPost (limit : Int) (w : World) (e : Ending) (w' : World) : Prop := ∃ h : Int, e = .returned (.int .i64 h) ∧ 0 ≤ h ∧ h ≤ limit + 4 ∧ ∃ m, w' = w.drewN m

theorem held_holds {w wr : World} {base g : Nat} {most limit stop : Int} (h : HSt w base g most limit stop wr) (hm1 : 1 ≤ most) (hl0 : 0 ≤ limit) (hl1 : limit ≤ 1073741824) :
    Calls Try.prog 16 #[.pointer (some ⟨g, 0, none⟩)] wr (GPost limit wr) := by
  obtain ⟨s, vr, vb, hP, hS, hB⟩ := h
  by_cases h0 : stop = 0
  · subst h0
    have hs := hS rfl
    have hlim := hP.lim
    refine (held_any hP hm1 (by omega) (by omega)).mono ?_
    rintro e w' ⟨rfl, m, rfl⟩
    exact ⟨_, rfl, by omega, hs.1, m, rfl⟩
  · refine (held_over hP hm1 h0).mono ?_
    rintro e w' ⟨rfl, m, rfl⟩
    exact ⟨0, rfl, by omega, by omega, m, rfl⟩

theorem stopped_holds {w wr : World} {base g : Nat} {most limit stop : Int} (h : HSt w base g most limit stop wr) (hm1 : 1 ≤ most) :
    Calls Try.prog 17 #[.pointer (some ⟨g, 0, none⟩)] wr fun e w' => e = .returned (.int .i64 stop) ∧ w' = wr := by
  obtain ⟨s, vr, vb, hP, hS, hB⟩ := h
  refine (stopped_any hP hm1).mono ?_
  rintro e w' ⟨rfl, rfl⟩
  exact ⟨rfl, rfl⟩

/-- What the law is handed: slices of bytes that read. -/
def Rows3 (w : World) (A : Option Addr) (len : Nat) : Prop :=
  ∀ k, k < len → ∃ g o Ar lr cr bs, A = some ⟨g, o, none⟩ ∧ g < w.heap.size ∧ w.cell? ⟨g, o + k, none⟩ = some (.slice Ar lr cr) ∧ bs.length = lr ∧ Rd w w.heap.size Ar (bts bs) ∧ ∀ z ∈ bs, 0 ≤ z ∧ z ≤ 255

set_option maxHeartbeats 1600000 in
set_option maxRecDepth 100000 in
theorem holds_any (n limit : Int) (A : Option Addr) (len c : Nat) (w : World) (hrows : Rows3 w A len) :
    Calls Try.prog 4 #[.int .i64 n, .int .i64 limit, .slice A len c] w fun e w' => e = .returned (.bool true) ∧ Below w.heap.size w w' := by
  have HRW := Lib.hid hrows
  clear hrows
  by_cases hok : 1 ≤ n ∧ n ≤ 16777215 ∧ 0 ≤ limit ∧ limit ≤ 1073741824
  · obtain ⟨hm1, hm2, hl0, hl1⟩ := hok
    go_enter Try.func4, Try.ntmps4
    go_wp2_with (first
      | (go_at_call 5; refine (lives_any w).mono ?_; rintro e w0 ⟨rfl, hb0⟩; have HB0 := Lib.hid hb0; clear hb0)
      | (go_at_call 14; refine (new_ok n limit w0 hm1 hm2 hl0 hl1).mono ?_; rintro e w1 ⟨rfl, hw1⟩; have HH1 := Lib.hid (show HSt w w.heap.size w0.heap.size n limit 0 w1 from by rw [← hw1]; exact ⟨_, _, _, rdr_new (heap_alloc_new w0 _) HB0.out.size hl0, fun _ => ⟨by simp; omega, by simp⟩, HB0.out.alloc HB0.out.size _⟩); clear hw1))
    generalize w0.heap.size = g at *
    go_loopw [9] (fun iv wr => ∃ (k : Nat) (stop : Int), k ≤ len ∧ k ≤ 60 ∧ iv = .int .i64 k ∧ HSt w w.heap.size g n limit stop wr) (fun iv _ => 60 - (intOf iv).toNat)
    case atStart => exact ⟨0, 0, Nat.zero_le _, Nat.zero_le _, rfl, HH1.out⟩
    case round =>
      obtain ⟨k, stop, hk, hk60, rfl, hst⟩ := hrel
      have HST := Lib.hid hst
      have HBW := Lib.hid (show Below w.heap.size w wr from by obtain ⟨_, _, _, _, _, h⟩ := hst; exact h)
      clear hst
      by_cases hlt : k < len ∧ k < 60
      · obtain ⟨hlt, hlt60⟩ := hlt
        obtain ⟨ga, oa, Ar, lr, cr, bs, rfl, hga, hcell, hbl, hrd, hby⟩ := HRW.out k hlt
        have hc := (HBW.out.cell (p := ⟨ga, oa + k, none⟩) hga).trans hcell
        have HF := Lib.hid (fun (hn : lr ≤ 3000) => feed_holds Ar lr cr bs HST.out hbl hrd hby hn hm1 hm2 hl0 hl1)
        have hgw : ga < wr.heap.size := Nat.lt_of_lt_of_le hga HBW.out.size
        clear hcell hbl hrd hby
        by_cases hlr : lr ≤ 3000
        · go_wp2_with (first
            | (go_at_call 15; refine (HF.out hlr).mono ?_; rintro e w2 ⟨Ao, np, co, er, stop2, rfl, hnp, hpk, hst2, her⟩; have HP := Lib.hid hpk; have HST2 := Lib.hid hst2; have HER := Lib.hid her; clear hpk hst2 her))
          go_loop [12] (fun v => ∃ j : Nat, j ≤ np ∧ v = .int .i64 j) (fun v => np - (intOf v).toNat)
          case atStart => exact ⟨0, Nat.zero_le _, rfl⟩
          case round =>
            obtain ⟨j, hj, rfl⟩ := hrel
            by_cases hjl : j < np
            · obtain ⟨gp, op, Ab, lb, cb, rfl, hcp, hlb⟩ := HP.out j hjl
              go_wp2
              go_round
              case rel => exact ⟨j + 1, by omega, by go_num⟩
              case measure => simp [intOf]; omega
            · obtain rfl : j = np := by omega
              have hHER := HER.out
              have hw4 : IntKind.i64.wrap (limit + 4) = limit + 4 := IntWalk.i64_in _ (by omega)
              have t1 : (stop2 != stop2) = false := by simp
              clear hnp hj
              have hf1 : 0 ≤ limit + 4 := by omega
              by_cases he0 : er = 0
              · subst he0
                go_wp2_with (first
                  | (go_at_call 16; (first | refine (held_holds HST2.out hm1 hl0 hl1).mono ?_ | refine (held_holds (HST2.out.drewN _) hm1 hl0 hl1).mono ?_); rintro e w3 ⟨h, rfl, hh0, hh1, m, rfl⟩))
                exact ⟨⟨k + 1, _, by omega, by omega, by go_num, HST2.out.drewN _⟩, by simp [intOf]; omega⟩
              · have t2 : (er != 0) = true := by simp [he0]
                by_cases he9 : er = 9
                · subst he9
                  go_wp2_with (first
                    | (go_at_call 16; (first | refine (held_holds HST2.out hm1 hl0 hl1).mono ?_ | refine (held_holds (HST2.out.drewN _) hm1 hl0 hl1).mono ?_); rintro e w3 ⟨h, rfl, hh0, hh1, m, rfl⟩)
                    | (go_at_call 17; refine (stopped_holds (HST2.out.drewN _) hm1).mono ?_; rintro e w3 ⟨rfl, rfl⟩))
                  all_goals exact ⟨⟨k + 1, _, by omega, by omega, by go_num, HST2.out.drewN _⟩, by simp [intOf]; omega⟩
                · have he : er = stop2 := by rcases hHER with h | h | h <;> first | exact h | exact absurd h he0 | exact absurd h he9
                  subst he
                  clear hHER he0 he9
                  go_wp2_with (first
                    | (go_at_call 16; (first | refine (held_holds HST2.out hm1 hl0 hl1).mono ?_ | refine (held_holds (HST2.out.drewN _) hm1 hl0 hl1).mono ?_); rintro e w3 ⟨h, rfl, hh0, hh1, m, rfl⟩)
                    | (go_at_call 17; refine (stopped_holds (HST2.out.drewN _) hm1).mono ?_; rintro e w3 ⟨rfl, rfl⟩))
                  all_goals exact ⟨⟨k + 1, _, by omega, by omega, by go_num, HST2.out.drewN _⟩, by simp [intOf]; omega⟩
        · go_wp2
          go_ret
          exact ⟨rfl, HBW.out⟩
      · rcases Nat.lt_or_ge k len with h1 | h1
        · obtain rfl : k = 60 := by omega
          go_wp2
          go_ret
          exact ⟨rfl, HBW.out⟩
        · obtain rfl : k = len := by omega
          go_wp2
          go_ret
          exact ⟨rfl, HBW.out⟩
  · go_enter Try.func4, Try.ntmps4
    go_wp2_with (first
      | (go_at_call 5; refine (lives_any w).mono ?_; rintro e w0 ⟨rfl, hb0⟩; have HB0 := Lib.hid hb0; clear hb0)
      | (go_at_call 14; refine (new_bad n limit w0 hok).mono ?_; rintro e w1 ⟨rfl, rfl⟩))
    go_ret
    exact ⟨rfl, HB0.out⟩

end Go.Proofs.Ytmggelebnghkfaa
