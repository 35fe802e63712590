/- The contracts of the two looks at a frame's head: (*packet.Reader).checked and the reference's wrong. -/
import Derived.Test.YtmggelebnghkfaaE
import Derived.Test.YtmggelebnghkfaaF
import Derived.Test.YtmggelebnghkfaaA
namespace Go.Proofs.Ytmggelebnghkfaa
open Go.RowKit

set_option maxHeartbeats 800000 in
set_option maxRecDepth 100000 in
theorem checked_ok (g : Nat) (most limit next : Int) (Ar : Option Addr) (rl cr : Nat) (Ab : Option Addr) (bl cb B : Nat) (rest : List Int) (w : World)
    (h0 : w.cell? ⟨g, 0, none⟩ = some (.int .i64 most)) (h1 : w.cell? ⟨g, 1, none⟩ = some (.int .i64 limit)) (h2 : w.cell? ⟨g, 2, none⟩ = some (.int .u8 next)) (h3 : w.cell? ⟨g, 3, none⟩ = some (.slice Ar rl cr)) (h4 : w.cell? ⟨g, 4, none⟩ = some (.slice Ab bl cb))
    (hl : rest.length = rl) (h4r : 4 ≤ rl) (hrl : rl ≤ 1073741824) (hbl : bl ≤ 1073741824) (hr : Rd w B Ar (bts rest)) (hx : ∀ z ∈ rest, 0 ≤ z ∧ z ≤ 255)
    (hw : wrongN most limit rest bl next = 0) :
    Calls Try.prog 23 #[.pointer (some ⟨g, 0, none⟩)] w fun e w' => e = .returned (.tuple #[.int .i64 (numB rest 3), .int .i64 0]) ∧ ∃ m, w.drewN m = w' := by
  have HC := Lib.hid (readFixed_any Ar rl cr B rest w hl (by omega) hrl hr hx)
  have hN := numB_bd hx 3
  obtain ⟨a, o, rfl, _, hc3⟩ := hr 3 _ (bts_get rest 3 (by omega))
  generalize hz : rest.getD 3 0 = z at *
  unfold wrongN at hw
  rw [hz] at hw
  generalize numB rest 3 = N at *
  have c1 : ¬ most < N := fun h => by rw [if_pos h] at hw; cases hw
  rw [if_neg c1] at hw
  have c2 : z = next := by
    by_cases h : z = next
    · exact h
    · rw [if_pos h] at hw; cases hw
  rw [if_neg (fun h => h c2)] at hw
  have c3 : ¬ limit < bl + N := fun h => by rw [if_pos h] at hw; cases hw
  subst c2
  have hN1 : N < 16777216 := by have := hN.2; omega
  have hN0 := hN.1
  have hb : (z != z) = false := by simp
  clear hr hx hl hz hw hN
  go_enter Try.func23, Try.ntmps23
  go_wp2_with (go_at_call 26; refine HC.out.mono ?_; rintro e w1 ⟨rfl, rfl⟩)
  go_quiet (fail)
  go_wp2
  go_quiet (fail)
  go_wp2
  go_ret2
  exact ⟨rfl, _, (World.drewN_drewN _ _ _).symm⟩

set_option maxHeartbeats 1600000 in
set_option maxRecDepth 100000 in
theorem checked_bad (g : Nat) (most limit next : Int) (Ar : Option Addr) (rl cr : Nat) (Ab : Option Addr) (bl cb B : Nat) (rest : List Int) (w : World)
    (h0 : w.cell? ⟨g, 0, none⟩ = some (.int .i64 most)) (h1 : w.cell? ⟨g, 1, none⟩ = some (.int .i64 limit)) (h2 : w.cell? ⟨g, 2, none⟩ = some (.int .u8 next)) (h3 : w.cell? ⟨g, 3, none⟩ = some (.slice Ar rl cr)) (h4 : w.cell? ⟨g, 4, none⟩ = some (.slice Ab bl cb))
    (hl : rest.length = rl) (h4r : 4 ≤ rl) (hrl : rl ≤ 1073741824) (hbl : bl ≤ 1073741824) (hr : Rd w B Ar (bts rest)) (hx : ∀ z ∈ rest, 0 ≤ z ∧ z ≤ 255)
    (hw : wrongN most limit rest bl next ≠ 0) :
    Calls Try.prog 23 #[.pointer (some ⟨g, 0, none⟩)] w fun e w' => e = .returned (.tuple #[.int .i64 0, .int .i64 (wrongN most limit rest bl next)]) ∧ ∃ m, w.drewN m = w' := by
  have HC := Lib.hid (readFixed_any Ar rl cr B rest w hl (by omega) hrl hr hx)
  have hN := numB_bd hx 3
  obtain ⟨a, o, rfl, _, hc3⟩ := hr 3 _ (bts_get rest 3 (by omega))
  generalize hz : rest.getD 3 0 = z at *
  have hwe : wrongN most limit rest bl next = if most < numB rest 3 then 5 else if z ≠ next then 6 else if limit < bl + numB rest 3 then 3 else 0 := by unfold wrongN; rw [hz]
  generalize wrongN most limit rest bl next = W at *
  generalize numB rest 3 = N at *
  have hN1 : N < 16777216 := by have := hN.2; omega
  have hN0 := hN.1
  clear hr hx hl hz hN
  by_cases c1 : most < N
  · rw [if_pos c1] at hwe
    subst hwe
    clear hw
    go_enter Try.func23, Try.ntmps23
    go_wp2_with (go_at_call 26; refine HC.out.mono ?_; rintro e w1 ⟨rfl, rfl⟩)
    go_ret2
    exact ⟨rfl, 0, rfl⟩
  · rw [if_neg c1] at hwe
    by_cases c2 : z = next
    · rw [if_neg (fun h => h c2)] at hwe
      subst c2
      have hb : (z != z) = false := by simp
      have c3 : limit < bl + N := by
        by_cases h : limit < bl + N
        · exact h
        · rw [if_neg h] at hwe; exact absurd hwe hw
      rw [if_pos c3] at hwe
      subst hwe
      clear hw
      go_enter Try.func23, Try.ntmps23
      go_wp2_with (go_at_call 26; refine HC.out.mono ?_; rintro e w1 ⟨rfl, rfl⟩)
      go_quiet (fail)
      go_wp2
      go_quiet (fail)
      go_wp2
      go_ret2
      exact ⟨rfl, _, (World.drewN_drewN _ _ _).symm⟩
    · rw [if_pos c2] at hwe
      subst hwe
      clear hw
      have hb : (z != next) = true := by simp [c2]
      clear c2
      go_enter Try.func23, Try.ntmps23
      go_wp2_with (go_at_call 26; refine HC.out.mono ?_; rintro e w1 ⟨rfl, rfl⟩)
      go_quiet (fail)
      go_wp2
      go_ret2
      exact ⟨rfl, _, rfl⟩

set_option maxHeartbeats 1600000 in
set_option maxRecDepth 100000 in
theorem wrong_any (g : Nat) (most limit next : Int) (Ar : Option Addr) (rl cr : Nat) (Ab : Option Addr) (bl cb B : Nat) (rest : List Int) (w : World)
    (h0 : w.cell? ⟨g, 0, none⟩ = some (.int .i64 most)) (h1 : w.cell? ⟨g, 1, none⟩ = some (.int .i64 limit)) (h2 : w.cell? ⟨g, 2, none⟩ = some (.int .u8 next)) (h3 : w.cell? ⟨g, 3, none⟩ = some (.slice Ar rl cr)) (h4 : w.cell? ⟨g, 4, none⟩ = some (.slice Ab bl cb))
    (hl : rest.length = rl) (h4r : 4 ≤ rl) (hrl : rl ≤ 1073741824) (hbl : bl ≤ 1073741824) (hr : Rd w B Ar (bts rest)) (hx : ∀ z ∈ rest, 0 ≤ z ∧ z ≤ 255) :
    Calls Try.prog 25 #[.pointer (some ⟨g, 0, none⟩)] w fun e w' => e = .returned (.int .i64 (wrongN most limit rest bl next)) ∧ ∃ m, w.drewN m = w' := by
  have hN := numB_bd hx 3
  obtain ⟨a, o, rfl, _, hc0⟩ := hr 0 _ (bts_get rest 0 (by omega))
  obtain ⟨_, _, e, _, hc1⟩ := hr 1 _ (bts_get rest 1 (by omega))
  cases e
  obtain ⟨_, _, e, _, hc2⟩ := hr 2 _ (bts_get rest 2 (by omega))
  cases e
  obtain ⟨_, _, e, _, hc3⟩ := hr 3 _ (bts_get rest 3 (by omega))
  cases e
  have z0 := getD_byte hx 0
  have z1 := getD_byte hx 1
  have z2 := getD_byte hx 2
  have hwe : wrongN most limit rest bl next = if most < numB rest 3 then 5 else if rest.getD 3 0 ≠ next then 6 else if limit < bl + numB rest 3 then 3 else 0 := rfl
  generalize wrongN most limit rest bl next = W at *
  have hNe : numB rest 3 = rest.getD 0 0 + rest.getD 1 0 * 256 + rest.getD 2 0 * 65536 := by simp [numB]
  generalize numB rest 3 = N at *
  generalize rest.getD 0 0 = b0 at *
  generalize rest.getD 1 0 = b1 at *
  generalize rest.getD 2 0 = b2 at *
  generalize rest.getD 3 0 = z at *
  have hN1 : N < 16777216 := by have := hN.2; omega
  rw [Nat.add_zero] at hc0
  have i0 : 0 < rl := by omega
  have i1 : 1 < rl := by omega
  have i2 : 2 < rl := by omega
  have hN0 := hN.1
  have z00 := z0.1
  have z01 := z0.2
  have z10 := z1.1
  have z11 := z1.2
  have z20 := z2.1
  have z21 := z2.2
  have hor : bits .or .i64 (bits .or .i64 b0 (b1 * 256)) (b2 * 65536) = N := by rw [hNe]; exact or3_i64 z00 z01 z10 z11 z20 z21
  clear hr hx hl hN hNe z0 z1 z2
  by_cases c1 : most < N
  · rw [if_pos c1] at hwe
    subst hwe
    go_enter Try.func25, Try.ntmps25
    go_wp2
    go_quiet (fail)
    go_wp2
    go_ret
    exact ⟨rfl, _, rfl⟩
  · rw [if_neg c1] at hwe
    by_cases c2 : z = next
    · rw [if_neg (fun h => h c2)] at hwe
      subst c2
      have hb : (z != z) = false := by simp
      by_cases c3 : limit < bl + N
      all_goals
        first | rw [if_pos c3] at hwe | rw [if_neg c3] at hwe
        subst hwe
        go_enter Try.func25, Try.ntmps25
        go_wp2
        go_quiet (fail)
        go_wp2
        go_quiet (fail)
        go_wp2
        go_quiet (fail)
        go_wp2
        go_ret
        exact ⟨rfl, _, by rw [World.drewN_drewN, World.drewN_drewN]⟩
    · rw [if_pos c2] at hwe
      subst hwe
      have hb : (z != next) = true := by simp [c2]
      clear c2
      go_enter Try.func25, Try.ntmps25
      go_wp2
      go_quiet (fail)
      go_wp2
      go_quiet (fail)
      go_wp2
      go_ret
      exact ⟨rfl, _, (World.drewN_drewN _ _ _).symm⟩

end Go.Proofs.Ytmggelebnghkfaa
