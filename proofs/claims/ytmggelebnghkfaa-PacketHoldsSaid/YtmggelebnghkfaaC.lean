/- Contracts of the statements' helpers SameBytes, Own, Kept, and of the two makers of readers. -/
import Derived.Test.YtmggelebnghkfaaA
namespace Go.Proofs.Ytmggelebnghkfaa
open Go.RowKit

theorem run_conv_rd {w : World} {B : Nat} {A : Option Addr} {xs : List Int} (n : Nat) (hl : xs.length = n) (hr : Rd w B A (bts xs)) (c : Nat) :
    (convert 22 9 (.slice A n c)).run Try.prog w = .ok (.string (strOfNums xs)) w := by
  subst hl
  rcases Nat.eq_zero_or_pos xs.length with h0 | hp
  · have hx : xs = [] := List.eq_nil_of_length_eq_zero h0
    subst hx
    cases A with
    | none => exact run_convert_bytes_nil w 22 5 Try.underlying22 Try.underlying5 _ c 9 Try.underlying9
    | some a =>
      rw [run_convert_bytes_string w 22 9 5 _ _ c Try.underlying22 Try.underlying5 Try.underlying9, run_bytesToString w _ _ c [] (by simp [loadCells, loadCellsFrom])]
      rfl
  · obtain ⟨g, o, rfl, _, _⟩ := hr.at_ (j := 0) (by rw [bts_len]; exact hp)
    refine run_convert_bytes_arg w 22 5 Try.underlying22 Try.underlying5 g o _ c xs rfl (fun i hi => ?_) 9 Try.underlying9
    obtain ⟨g', o', he, _, hc⟩ := hr i _ (bts_get xs i hi)
    simp only [Option.some.injEq, Addr.mk.injEq, and_true] at he
    obtain ⟨rfl, rfl⟩ := he
    exact hc

set_option maxHeartbeats 400000 in
theorem same_any (A A' : Option Addr) (c c' n B B' : Nat) (xs : List Int) (w : World) (hl : xs.length = n) (hr : Rd w B A (bts xs)) (hr' : Rd w B' A' (bts xs)) :
    Calls Try.prog 9 #[.slice A n c, .slice A' n c'] w fun e w' => e = .returned (.bool true) ∧ w = w' := by
  have h1 := run_conv_rd n hl hr
  have h2 := run_conv_rd n hl hr'
  clear hr hr' hl
  go_enter Try.func9, Try.ntmps9
  go_wp2
  go_ret
  exact ⟨by simp, rfl⟩

set_option maxHeartbeats 400000 in
theorem none_no (g : Nat) (most : Int) (w : World) (h0 : w.cell? ⟨g, 0, none⟩ = some (.int .i64 most)) (hm : 1 ≤ most) :
    Calls Try.prog 22 #[.pointer (some ⟨g, 0, none⟩)] w fun e w' => e = .returned (.bool false) ∧ w = w' := by
  have hb : (most == 0) = false := by simp; omega
  go_enter Try.func22, Try.ntmps22
  go_wp2
  go_ret
  exact ⟨rfl, rfl⟩

/-- What a new reader of the program is in memory. -/
def rdr0 (most limit : Int) : Array Value := #[.int .i64 most, .int .i64 limit, .int .u8 0, .slice none 0 0, .slice none 0 0, .int .u8 0, .bool false, .int .i64 0]

set_option maxHeartbeats 400000 in
theorem new_ok (most limit : Int) (w : World) (h1 : 1 ≤ most) (h2 : most ≤ 16777215) (h3 : 0 ≤ limit) (h4 : limit ≤ 1073741824) :
    Calls Try.prog 14 #[.int .i64 most, .int .i64 limit] w fun e w' => e = .returned (.tuple #[.pointer (some ⟨w.heap.size, 0, none⟩), .int .i64 0]) ∧ w.alloc (.cells (rdr0 most limit) 51) = w' := by
  have hb : decide (1 ≤ most ∧ most ≤ 16777215) = true := decide_eq_true ⟨h1, h2⟩
  go_enter Try.func14, Try.ntmps14
  go_wp2_with (go_at_call 18; refine (bounds_any _ _).mono ?_; rintro e w1 ⟨rfl, rfl⟩)
  go_ret2
  exact ⟨rfl, rfl⟩

set_option maxHeartbeats 400000 in
theorem new_bad (most limit : Int) (w : World) (h : ¬ (1 ≤ most ∧ most ≤ 16777215 ∧ 0 ≤ limit ∧ limit ≤ 1073741824)) :
    Calls Try.prog 14 #[.int .i64 most, .int .i64 limit] w fun e w' => e = .returned (.tuple #[.pointer none, .int .i64 2]) ∧ w = w' := by
  by_cases hb : 1 ≤ most ∧ most ≤ 16777215
  · have hb' : decide (1 ≤ most ∧ most ≤ 16777215) = true := decide_eq_true hb
    by_cases h3 : limit < 0
    · clear hb
      go_enter Try.func14, Try.ntmps14
      go_wp2_with (go_at_call 18; refine (bounds_any _ _).mono ?_; rintro e w1 ⟨rfl, rfl⟩)
      go_ret2
      exact ⟨rfl, rfl⟩
    · have h4 : 1073741824 < limit := by omega
      clear hb
      go_enter Try.func14, Try.ntmps14
      go_wp2_with (go_at_call 18; refine (bounds_any _ _).mono ?_; rintro e w1 ⟨rfl, rfl⟩)
      go_ret2
      exact ⟨rfl, rfl⟩
  · have hb' : decide (1 ≤ most ∧ most ≤ 16777215) = false := decide_eq_false hb
    go_enter Try.func14, Try.ntmps14
    go_wp2_with (go_at_call 18; refine (bounds_any _ _).mono ?_; rintro e w1 ⟨rfl, rfl⟩)
    go_ret2
    exact ⟨rfl, rfl⟩

/-- What a new reader of the reference is in memory. -/
def ref0 (most limit : Int) : Array Value := #[.int .i64 most, .int .i64 limit, .int .u8 0, .slice none 0 0, .slice none 0 0, .int .u8 0, .bool false, .int .i64 0]

set_option maxHeartbeats 400000 in
theorem refNew_ok (most limit : Int) (w : World) (h1 : 1 ≤ most) (h2 : most ≤ 16777215) (h3 : 0 ≤ limit) (h4 : limit ≤ 1073741824) :
    Calls Try.prog 20 #[.int .i64 most, .int .i64 limit] w fun e w' => e = .returned (.tuple #[.pointer (some ⟨w.heap.size, 0, none⟩), .int .i64 0]) ∧ w.alloc (.cells (ref0 most limit) 56) = w' := by
  go_enter Try.func20, Try.ntmps20
  go_wp2
  go_ret2
  exact ⟨rfl, rfl⟩

set_option maxHeartbeats 400000 in
theorem refNew_bad (most limit : Int) (w : World) (h : ¬ (1 ≤ most ∧ most ≤ 16777215 ∧ 0 ≤ limit ∧ limit ≤ 1073741824)) :
    Calls Try.prog 20 #[.int .i64 most, .int .i64 limit] w fun e w' => e = .returned (.tuple #[.pointer none, .int .i64 2]) ∧ w = w' := by
  by_cases h1 : most < 1
  · go_enter Try.func20, Try.ntmps20
    go_wp2
    go_ret2
    exact ⟨rfl, rfl⟩
  · by_cases h2 : 16777215 < most
    · go_enter Try.func20, Try.ntmps20
      go_wp2
      go_ret2
      exact ⟨rfl, rfl⟩
    · by_cases h3 : limit < 0
      · go_enter Try.func20, Try.ntmps20
        go_wp2
        go_ret2
        exact ⟨rfl, rfl⟩
      · have h4 : 1073741824 < limit := by omega
        go_enter Try.func20, Try.ntmps20
        go_wp2
        go_ret2
        exact ⟨rfl, rfl⟩

set_option maxHeartbeats 800000 in
set_option maxRecDepth 100000 in
theorem own_any (A : Option Addr) (n c B : Nat) (xs : List Int) (w : World) (hl : xs.length = n) (hr : Rd w B A (bts xs)) (hB : B ≤ w.heap.size) (hn : n ≤ 1048576) :
    Calls Try.prog 6 #[.slice A n c] w fun e w' => ∃ g cap, e = .returned (.slice (some ⟨g, 0, none⟩) n cap) ∧ w'.ownsRow w.heap.size 5 1 (.slice (some ⟨g, 0, none⟩) (n + 8) cap) (n + 8) (bts (xs ++ List.replicate 8 165)) ∧ Below w.heap.size w w' ∧ n + 8 ≤ cap ∧ cap ≤ 9223372036854775807 := by
  obtain ⟨i0, hi0, hz0, hz1, hz2⟩ := info_parts inf5
  have HR := Lib.hid hr
  have HL := Lib.hid hl
  clear hr hl
  go_enter Try.func6, Try.ntmps6
  go_wp2_with (first
    | (at_make; refine wpList_make_own w rfl (.const (.int .i64 0)) (.tmp 5) 22 rfl w.heap.size 5 i0 (.int .u8 0) 1 Try.underlying22 hi0 hz0 hz1 .i64 .i64 ((n : Int) + 8) (n + 8) rfl rfl (by omega) (by rw [hz2]; omega) (by simp only [maxLen]; omega) (Nat.le_refl _) ?_; intro w1 hown1 hg1; have HO1 := Lib.hid hown1; have HB1 := Lib.hid ((Below.refl w.heap.size w).grown hg1 (Nat.le_refl _) (by simp)); clear hown1 hg1)
    | (at_builtin; refine wpList_append_rd _ rfl (.tmp 6) (.tmp 7) 22 rfl w.heap.size 5 i0 (.int .u8 0) 1 1 Try.underlying22 hi0 hz0 hz1 hz2 rfl (by omega) (.slice (some ⟨w.heap.size, 0, none⟩) 0 (n + 8)) 0 [] rfl HO1.out B A n c (bts xs) rfl (by rw [bts_len, HL.out]; omega) (HR.out.below (HB1.out.mono hB)) (bts_one _) (by omega) (by omega) HB1.out.size ?_; intro v2 w2 hown2 hg2 hat2; have HO2 := Lib.hid hown2; have HB2 := Lib.hid (Below.of_own HB1.out hg2 rfl HO1.out (Nat.le_refl _) HB1.out.size); clear hown2 hg2 hat2)
    | (at_builtin; refine wpList_append_rd _ rfl (.tmp 8) (.tmp 9) 22 rfl w.heap.size 5 i0 (.int .u8 0) 1 1 Try.underlying22 hi0 hz0 hz1 hz2 rfl (by omega) v2 (0 + n) ([] ++ bts xs) rfl (HO2.out.alloc _) (w2.heap.size + 1) (some ⟨w2.heap.size, 0, none⟩) 8 8 (bts (List.replicate 8 165)) rfl rfl (Rd.newL w2 (List.replicate 8 165) 5) (bts_one _) (by omega) (by omega) (by have := HB2.out.size; simp; omega) ?_; intro v3 w3 hown3 hg3 hat3; have HO3 := Lib.hid hown3; have HB3 := Lib.hid (Below.of_own (HB2.out.alloc HB2.out.size _) hg3 rfl (HO2.out.alloc _) (Nat.le_refl _) (by have := HB2.out.size; simp; omega)); clear hown3 hg3 hat3; obtain ⟨g, cap, hv3, _, _⟩ := HO3.out.form (by omega); have hcap := own_cap (by have h := HO3.out; rw [hv3] at h; exact h); rw [hv3]))
  go_ret
  refine ⟨g, cap, rfl, ?_, HB3.out, by omega, by omega⟩
  have h := HO3.out
  rw [hv3] at h
  simpa [bts_app] using h

set_option maxHeartbeats 800000 in
set_option maxRecDepth 100000 in
theorem kept_any (A : Option Addr) (g n c cap B B' : Nat) (xs : List Int) (w : World) (hl : xs.length = n) (hr : Rd w B A (bts xs)) (hr' : Rd w B' (some ⟨g, 0, none⟩) (bts (xs ++ List.replicate 8 165))) (hcap : n + 8 ≤ cap) (_hcm : cap ≤ 9223372036854775807) (hn : n ≤ 1048576) :
    Calls Try.prog 10 #[.slice (some ⟨g, 0, none⟩) n cap, .slice A n c] w fun e w' => e = .returned (.bool true) ∧ w = w' := by
  have HC := Lib.hid (same_any (some ⟨g, 0, none⟩) A cap c n B' B xs w hl (by have h := hr'.take n; rw [bts_app] at h; rwa [List.take_left' (by rw [bts_len]; exact hl)] at h) hr)
  have hcell : ∀ k, k < 8 → w.cell? ⟨g, n + k, none⟩ = some (.int .u8 165) := by
    intro k hk
    obtain ⟨g', o', he, _, hc⟩ := hr' (n + k) (.int .u8 165) (by
      rw [bts_get _ _ (by simp; omega)]
      simp only [List.getD]
      rw [List.getElem?_append_right (by omega), List.getElem?_replicate, if_pos (by omega)]
      rfl)
    simp only [Option.some.injEq, Addr.mk.injEq, and_true] at he
    obtain ⟨rfl, rfl⟩ := he
    rw [Nat.zero_add] at hc
    exact hc
  clear hr hr' hl
  go_enter Try.func10, Try.ntmps10
  go_wp2_with (first | (go_at_call 9; refine HC.out.mono ?_; rintro e w1 ⟨rfl, rfl⟩))
  go_loop [6] (fun i => ∃ k : Nat, k ≤ 8 ∧ i = .int .i64 k) (fun i => 8 - (intOf i).toNat)
  case atStart => exact ⟨0, by omega, rfl⟩
  case round =>
    obtain ⟨k, hk, rfl⟩ := hrel
    by_cases hlt : k < 8
    · have hc := hcell k hlt
      clear hcell
      go_wp2
      go_round
      case rel => exact ⟨k + 1, by omega, by go_num⟩
      case measure => simp [intOf]; omega
    · clear hcell
      go_wp2
      go_ret
      exact ⟨rfl, rfl⟩

end Go.Proofs.Ytmggelebnghkfaa
