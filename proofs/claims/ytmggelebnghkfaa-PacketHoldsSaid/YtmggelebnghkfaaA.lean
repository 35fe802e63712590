/- Contracts of the small functions that the packet laws call: bounds, bytes.Clone, lenenc.AppendFixed, lenenc.ReadFixed. -/
import Derived.Test.YtmggelebnghkfaaM
import Derived.Test.YtmggelebnghkfaaN
import Derived.Test.YtmggelebnghkfaaRows
namespace Go.Proofs.Ytmggelebnghkfaa
open Go.RowKit

theorem inf5 : (Try.prog.info? 5).map (fun i => (i.zero, i.size, i.bytes)) = some (some (.int .u8 0), 1, 1) := by kernel_rfl

set_option maxHeartbeats 400000 in
theorem bounds_any (m : Int) (w : World) :
    Calls Try.prog 18 #[.int .i64 m] w fun e w' => e = .returned (.bool (decide (1 ≤ m ∧ m ≤ 16777215))) ∧ w = w' := by
  by_cases h1 : 1 ≤ m
  · by_cases h2 : m ≤ 16777215
    · go_enter Try.func18, Try.ntmps18
      go_wp2
      go_ret
      exact ⟨by simp [*], rfl⟩
    · go_enter Try.func18, Try.ntmps18
      go_wp2
      go_ret
      exact ⟨by simp [*], rfl⟩
  · go_enter Try.func18, Try.ntmps18
    go_wp2
    go_ret
    exact ⟨by simp [*]; omega, rfl⟩

set_option maxHeartbeats 400000 in
theorem clone_any (A : Option Addr) (n c B : Nat) (xs : List Int) (w : World) (hl : xs.length = n) (hr : Rd w B A (bts xs)) (hB : B ≤ w.heap.size) (hn : n ≤ 4294967296) :
    Calls Try.prog 24 #[.slice A n c] w fun e w' => ∃ v, e = .returned v ∧ w'.ownsRow w.heap.size 5 1 v n (bts xs) ∧ Below w.heap.size w w' := by
  obtain ⟨i0, hi0, hz0, hz1, hz2⟩ := info_parts inf5
  have heq := fun (w : World) (a : Option Addr) (n c n' c' : Nat) => Lib.run_eql_slice_nil (P := Try.prog) w 22 5 a n c n' c' Try.underlying22
  have hbl := bts_len xs
  have hbo := bts_one xs
  generalize hb : bts xs = bs at *
  have HL := Lib.hid hbl
  have HL2 := Lib.hid hl
  clear hbl hl hb
  cases A with
  | none =>
    have h0 : n = 0 := by
      rcases Nat.eq_zero_or_pos n with h | h
      · exact h
      · obtain ⟨g, o, he, _⟩ := hr.at_ (j := 0) (by rw [HL.out, HL2.out]; omega)
        cases he
    subst h0
    go_enter Try.func24, Try.ntmps24
    go_wp2
    go_ret
    have hnil : bs = [] := List.eq_nil_of_length_eq_zero (by rw [HL.out, HL2.out])
    subst hnil
    exact ⟨_, rfl, World.ownsRow_nil _ _ _ _, Below.refl _ _⟩
  | some a =>
    go_enter Try.func24, Try.ntmps24
    go_wp2_with (at_builtin; refine wpList_append_rd _ rfl (.tmp 5) (.tmp 6) 22 rfl w.heap.size 5 i0 (.int .u8 0) 1 1 Try.underlying22 hi0 hz0 hz1 hz2 rfl (by omega) (.slice (some ⟨w.heap.size, 0, none⟩) 0 0) 0 [] rfl (World.ownsRow_made w #[] 0 (Nat.le_refl _) (by simp [maxLen]) (by simp)) B (some a) n c bs rfl (by rw [HL.out, HL2.out]; omega) (hr.alloc hB _) hbo (by omega) (by omega) (by simp) ?_)
    intro v' w1 hown hg hat
    go_wp2
    go_ret
    refine ⟨_, rfl, by simpa using hown, ((Below.refl _ _).alloc (Nat.le_refl _) _).grown hg (by simp) (by simp [Value.ownBlock])⟩

set_option maxHeartbeats 800000 in
set_option maxRecDepth 100000 in
theorem appendFixed_any (A : Option Addr) (n c B : Nat) (xs : List Int) (x : Int) (w : World) (hl : xs.length = n) (hr : Rd w B A (bts xs)) (hB : B ≤ w.heap.size) (hn : n ≤ 1073741824) (hx0 : 0 ≤ x) (hx1 : x ≤ 16777215) :
    Calls Try.prog 19 #[.slice A n c, .int .u64 x, .int .i64 3] w fun e w' => ∃ v, e = .returned (.tuple #[v, .int .i64 0]) ∧ w'.ownsRow w.heap.size 5 1 v (n + 3) (bts (xs ++ lowB x 3)) ∧ Below w.heap.size w w' := by
  obtain ⟨i0, hi0, hz0, hz1, hz2⟩ := info_parts inf5
  have HC := Lib.hid (clone_any A n c B xs w hl hr hB (by omega))
  clear hr hl
  go_enter Try.func19, Try.ntmps19
  go_wp2_with (go_at_call 24; refine HC.out.mono ?_; rintro e w1 ⟨v1, rfl, hown, hbel⟩)
  go_loopw [8, 30] (fun v i wr => ∃ k : Nat, k ≤ 3 ∧ i = .int .i64 k ∧ wr.ownsRow w.heap.size 5 1 v (n + k) (bts (xs ++ lowB x k)) ∧ Below w.heap.size w wr) (fun _ i _ => 3 - (intOf i).toNat)
  case atStart => exact ⟨0, by omega, rfl, by simpa [lowB] using hown, hbel⟩
  case round =>
    obtain ⟨k, hk, rfl, hown, hbel⟩ := hrel
    by_cases hlt : k < 3
    · have HOWN := Lib.hid hown
      clear hown
      go_wp2_with (at_builtin; refine wpList_append_rd _ rfl (.tmp 33) (.tmp 39) 22 rfl w.heap.size 5 i0 (.int .u8 0) 1 1 Try.underlying22 hi0 hz0 hz1 hz2 rfl (by omega) u8 (n + k) _ rfl (HOWN.out.alloc _) (wr.heap.size + 1) (some ⟨wr.heap.size, 0, none⟩) 1 1 (bts [x / 2 ^ (8 * k) % 256]) rfl rfl (Rd.new1 wr _ 5) (bts_one _) (by omega) (by omega) (by have := hbel.size; simp; omega) ?_)
      intro v' w2 hown2 hg hat
      have HOWN2 := Lib.hid hown2
      clear hown2 hat
      have HB := Lib.hid ((hbel.alloc hbel.size _).grown hg (by have := hbel.size; simp; omega) (fun g hg' => (HOWN.out.lt g hg').1))
      clear hg
      go_wp2
      go_roundw
      case rel => exact ⟨k + 1, by omega, by go_num, by have := HOWN2.out; rw [← bts_app, List.append_assoc] at this; exact this, HB.out⟩
      case measure => simp [intOf]; omega
    · obtain rfl : k = 3 := by omega
      have HOWN := Lib.hid hown
      clear hown
      go_wp2
      go_ret2
      exact ⟨_, rfl, HOWN.out, hbel⟩

set_option maxHeartbeats 800000 in
set_option maxRecDepth 100000 in
theorem readFixed_any (A : Option Addr) (n c B : Nat) (xs : List Int) (w : World) (hl : xs.length = n) (h3 : 3 ≤ n) (hn : n ≤ 1073741824) (hr : Rd w B A (bts xs)) (hx : ∀ z ∈ xs, 0 ≤ z ∧ z ≤ 255) :
    Calls Try.prog 26 #[.slice A n c, .int .i64 3] w fun e w' => e = .returned (.tuple #[.int .u64 (numB xs 3), .int .i64 0]) ∧ w = w' := by
  obtain ⟨g, o, rfl, _, _⟩ := hr.at_ (j := 0) (by rw [bts_len]; omega)
  have hcell : ∀ k, k < 3 → w.cell? ⟨g, o + k, none⟩ = some (.int .u8 (xs.getD k 0)) := by
    intro k hk
    obtain ⟨g', o', he, _, hc⟩ := hr k _ (bts_get xs k (by omega))
    simp only [Option.some.injEq, Addr.mk.injEq, and_true] at he
    obtain ⟨rfl, rfl⟩ := he
    exact hc
  clear hr
  go_enter Try.func26, Try.ntmps26
  go_wp2_with fail
  go_loop [6, 19] (fun v i => ∃ k : Nat, k ≤ 3 ∧ i = .int .i64 k ∧ v = .int .u64 (numB xs k)) (fun _ i => 3 - (intOf i).toNat)
  case atStart => exact ⟨0, by omega, rfl, rfl⟩
  case round =>
    obtain ⟨k, hk, rfl, rfl⟩ := hrel
    by_cases hlt : k < 3
    · have hc := hcell k hlt
      go_wp2
      case roundEnd => exact ⟨⟨k + 1, by omega, by go_num, by rw [or_byte_u64 hx k hlt]⟩, by simp [intOf]; omega⟩
    · obtain rfl : k = 3 := by omega
      go_wp2
      go_ret2
      exact ⟨rfl, rfl⟩

end Go.Proofs.Ytmggelebnghkfaa
