/- The contract of SamePackets: two lists that read as the same packets are told the same. -/
import Derived.Test.YtmggelebnghkfaaC
namespace Go.Proofs.Ytmggelebnghkfaa
open Go.RowKit

set_option maxHeartbeats 1600000 in
set_option maxRecDepth 100000 in
theorem samePk_any (A A' : Option Addr) (n c c' B B' : Nat) (cs cs' : List Value) (ps : List Pk) (w : World) (hn : ps.length = n) (hn2 : n ≤ 1048576) (hr : Rd w B A cs) (hr' : Rd w B' A' cs') (hp : PkL w B cs ps) (hp' : PkL w B' cs' ps) :
    Calls Try.prog 13 #[.slice A n c, .slice A' n c'] w fun e w' => e = .returned (.bool true) ∧ ∃ m, w.drewN m = w' := by
  have HF : ∀ k, k < n → ∃ g o g' o' x y l Ab cb Ab' cb', A = some ⟨g, o, none⟩ ∧ A' = some ⟨g', o', none⟩ ∧
      w.cell? ⟨g, o + k * 3, none⟩ = some (.int .u8 x) ∧ w.cell? ⟨g, o + k * 3 + 1, none⟩ = some (.int .u8 y) ∧ w.cell? ⟨g, o + k * 3 + 2, none⟩ = some (.slice Ab l cb) ∧
      w.cell? ⟨g', o' + k * 3, none⟩ = some (.int .u8 x) ∧ w.cell? ⟨g', o' + k * 3 + 1, none⟩ = some (.int .u8 y) ∧ w.cell? ⟨g', o' + k * 3 + 2, none⟩ = some (.slice Ab' l cb') ∧
      ∀ m, Calls Try.prog 9 #[.slice Ab l cb, .slice Ab' l cb'] (w.drewN m) fun e w' => e = .returned (.bool true) ∧ w.drewN m = w' := by
    intro k hk
    obtain ⟨Ab, cb, h1, h2, h3, _, h5⟩ := hp.get k (by omega)
    obtain ⟨Ab', cb', h1', h2', h3', _, h5'⟩ := hp'.get k (by omega)
    obtain ⟨g, o, rfl, _, q1⟩ := hr _ _ h1
    obtain ⟨g', o', rfl, _, q1'⟩ := hr' _ _ h1'
    obtain ⟨_, _, e, _, q2⟩ := hr _ _ h2
    cases e
    obtain ⟨_, _, e, _, q3⟩ := hr _ _ h3
    cases e
    obtain ⟨_, _, e, _, q2'⟩ := hr' _ _ h2'
    cases e
    obtain ⟨_, _, e, _, q3'⟩ := hr' _ _ h3'
    cases e
    exact ⟨g, o, g', o', _, _, _, Ab, cb, Ab', cb', rfl, rfl, q1, q2, q3, q1', q2', q3', fun m => same_any Ab Ab' cb cb' _ B B' _ _ rfl h5 h5'⟩
  have HFF := Lib.hid HF
  clear hr hr' hp hp' HF hn
  go_enter Try.func13, Try.ntmps13
  go_wp2_with fail
  go_loopw [5] (fun i wr => ∃ k : Nat, k ≤ n ∧ i = .int .i64 k ∧ ∃ m, w.drewN m = wr) (fun i _ => n - (intOf i).toNat)
  case atStart => exact ⟨0, by omega, rfl, 0, rfl⟩
  case round =>
    obtain ⟨k, hk, rfl, m, hm⟩ := hrel
    by_cases hlt : k < n
    · obtain ⟨g, o, g', o', x, y, l, Ab, cb, Ab', cb', rfl, rfl, q1, q2, q3, q1', q2', q3', HC⟩ := HFF.out k hlt
      have HCC := Lib.hid (show ∀ j, Calls Try.prog 9 #[.slice Ab l cb, .slice Ab' l cb'] (wr.drewN j) fun e w' => e = .returned (.bool true) ∧ w' = wr.drewN j from fun j => by
        rw [← hm, World.drewN_drewN]; exact (HC _).mono fun _ _ ⟨a, b⟩ => ⟨a, b.symm⟩)
      have r1 : wr.cell? ⟨g, o + k * 3, none⟩ = some (.int .u8 x) := by rw [← hm]; exact q1
      have r2 : wr.cell? ⟨g, o + k * 3 + 1, none⟩ = some (.int .u8 y) := by rw [← hm]; exact q2
      have r3 : wr.cell? ⟨g, o + k * 3 + 2, none⟩ = some (.slice Ab l cb) := by rw [← hm]; exact q3
      have r1' : wr.cell? ⟨g', o' + k * 3, none⟩ = some (.int .u8 x) := by rw [← hm]; exact q1'
      have r2' : wr.cell? ⟨g', o' + k * 3 + 1, none⟩ = some (.int .u8 y) := by rw [← hm]; exact q2'
      have r3' : wr.cell? ⟨g', o' + k * 3 + 2, none⟩ = some (.slice Ab' l cb') := by rw [← hm]; exact q3'
      have HM := Lib.hid hm
      clear HC q1 q2 q3 q1' q2' q3' hm
      go_wp2_with fail
      have b1 : (x != x) = false := by simp
      have b2 : (y != y) = false := by simp
      have b3 : 0 ≤ (k : Int) := by omega
      have b4 : (k : Int) < n := by omega
      go_quiet ((go_at_call 9; exact Calls.quiet_of_same (HCC.out _)))
      go_wp2
      go_roundw
      case rel => exact ⟨k + 1, by omega, by go_num, m + nq, by rw [← World.drewN_drewN, HM.out]⟩
      case measure => simp [intOf]; omega
    · go_wp2
      go_ret
      exact ⟨rfl, m, hm⟩

end Go.Proofs.Ytmggelebnghkfaa
