/- What a reader holds: the plain bounds on feedF, and the contracts of Held, Stopped and of Feed at a reader that has stopped. -/
import Derived.Test.YtmggelebnghkfaaH
namespace Go.Proofs.Ytmggelebnghkfaa
open Go.RowKit

/-- No payload that is told is longer than the limit; what is left behind a call without an error is less than a frame. -/
theorem feedL_held (most limit : Int) : ∀ k s out, s.rest.length < k → (∀ z ∈ s.rest, 0 ≤ z ∧ z ≤ 255) → (s.body.length : Int) ≤ limit → (∀ p ∈ out, (p.body.length : Int) ≤ limit) →
    (∀ p ∈ (feedL most limit k s out).2.1, (p.body.length : Int) ≤ limit) ∧
    ((feedL most limit k s out).2.2 = 0 → ((feedL most limit k s out).1.rest.length : Int) + (feedL most limit k s out).1.body.length ≤ limit + 4 ∧ (feedL most limit k s out).1.rest.length ≤ 16777220) ∧
    0 ≤ (feedL most limit k s out).2.2 ∧ (feedL most limit k s out).2.2 ≠ 9 ∧ (feedL most limit k s out).2.1.length ≤ out.length + s.rest.length
  | 0, _, _, h, _, _, _ => by omega
  | k + 1, s, out, hk, hb, hl, ho => by
    simp only [feedL]
    split
    · exact ⟨ho, fun _ => ⟨by simp only []; omega, by simp only []; omega⟩, Int.le_refl 0, (by simp), (by simp)⟩
    · rename_i h4
      have hN := numB_bd hb 3
      have hF : (frameN s : Int) = numB s.rest 3 := by unfold frameN; omega
      split
      · rename_i hw
        refine ⟨ho, fun h => absurd h hw, ?_, ?_, ?_⟩ <;> simp only [] <;> first | omega | (unfold wrongN; (repeat' split) <;> decide)
      · rename_i hw
        have hw0 : wrongN most limit s.rest s.body.length s.next = 0 := by
          rcases Int.decEq (wrongN most limit s.rest s.body.length s.next) 0 with h | h
          · exact absurd h hw
          · exact h
        have hlim2 : (s.body.length : Int) + frameN s ≤ limit := by
          rw [hF]
          unfold wrongN at hw0
          split at hw0
          · cases hw0
          · split at hw0
            · cases hw0
            · split at hw0
              · cases hw0
              · omega
        split
        · exact ⟨ho, fun _ => ⟨by simp only []; omega, by simp only []; omega⟩, Int.le_refl 0, (by simp), (by simp)⟩
        · have hbl : (bodyN s).length = s.body.length + frameN s := by
            unfold bodyN
            rw [List.length_append, List.length_take, List.length_drop]
            omega
          have hrec := feedL_held most limit k (stepS most s) (out ++ toldS most s) (by rw [stepS_rest, List.length_drop]; omega) (by rw [stepS_rest]; exact fun z hz => hb z (List.mem_of_mem_drop hz)) ?h1 ?h2
          · refine ⟨hrec.1, hrec.2.1, hrec.2.2.1, hrec.2.2.2.1, Nat.le_trans hrec.2.2.2.2 ?_⟩
            rw [stepS_rest, List.length_drop, List.length_append]
            have : (toldS most s).length ≤ 1 := by unfold toldS; split <;> simp
            omega
          · unfold stepS
            split
            · simp only [List.length_nil]; omega
            · show ((bodyN s).length : Int) ≤ limit; rw [hbl]; omega
          · intro p hp
            rcases List.mem_append.1 hp with hp | hp
            · exact ho p hp
            · unfold toldS at hp
              split at hp
              · simp at hp
                subst hp
                show ((bodyN s).length : Int) ≤ limit; rw [hbl]; omega
              · simp at hp

set_option maxHeartbeats 800000 in
theorem stopped_any {w : World} {base g : Nat} {most limit stop : Int} {s : St} {vr vb : Value} (h : RdrP w base g 51 most limit s stop vr vb) (hm : 1 ≤ most) :
    Calls Try.prog 17 #[.pointer (some ⟨g, 0, none⟩)] w fun e w' => e = .returned (.int .i64 stop) ∧ w = w' := by
  have c0 := h.blk.cell 0
  have c7 := h.blk.cell 7
  simp at c0 c7
  clear h
  go_enter Try.func17, Try.ntmps17
  go_wp2_with (first
    | (go_at_call 22; refine (none_no g most w c0 hm).mono ?_; rintro e w1 ⟨rfl, rfl⟩))
  go_ret
  exact ⟨rfl, rfl⟩

set_option maxHeartbeats 800000 in
theorem feed_over {w : World} {base g : Nat} {most limit stop : Int} {s : St} {vr vb : Value} (v : Value) (h : RdrP w base g 51 most limit s stop vr vb) (hm : 1 ≤ most) (hs : stop ≠ 0) :
    Calls Try.prog 15 #[.pointer (some ⟨g, 0, none⟩), v] w fun e w' => e = .returned (.tuple #[.slice none 0 0, .int .i64 9]) ∧ w = w' := by
  have c0 := h.blk.cell 0
  have c7 := h.blk.cell 7
  have hb : (stop != 0) = true := by simp [hs]
  simp at c0 c7
  clear h hs
  go_enter Try.func15, Try.ntmps15
  go_wp2_with (first
    | (go_at_call 22; refine (none_no g most w c0 hm).mono ?_; rintro e w1 ⟨rfl, rfl⟩))
  go_ret2
  exact ⟨rfl, rfl⟩

set_option maxHeartbeats 800000 in
theorem held_over {w : World} {base g : Nat} {most limit stop : Int} {s : St} {vr vb : Value} (h : RdrP w base g 51 most limit s stop vr vb) (hm : 1 ≤ most) (hs : stop ≠ 0) :
    Calls Try.prog 16 #[.pointer (some ⟨g, 0, none⟩)] w fun e w' => e = .returned (.int .i64 0) ∧ ∃ m, w.drewN m = w' := by
  have c0 := h.blk.cell 0
  have c7 := h.blk.cell 7
  have hb : (stop != 0) = true := by simp [hs]
  simp at c0 c7
  clear h hs
  go_enter Try.func16, Try.ntmps16
  go_wp2_with (first
    | (go_at_call 22; refine (none_no g most w c0 hm).mono ?_; rintro e w1 ⟨rfl, rfl⟩))
  go_ret
  exact ⟨rfl, 0, rfl⟩

set_option maxHeartbeats 800000 in
theorem held_any {w : World} {base g : Nat} {most limit : Int} {s : St} {vr vb : Value} (h : RdrP w base g 51 most limit s 0 vr vb) (hm : 1 ≤ most) (hrl : s.rest.length ≤ 1073741824) (hbl : s.body.length ≤ 1073741824) :
    Calls Try.prog 16 #[.pointer (some ⟨g, 0, none⟩)] w fun e w' => e = .returned (.int .i64 ((s.rest.length : Int) + s.body.length)) ∧ ∃ m, w.drewN m = w' := by
  obtain ⟨Ar, cr, hvr, _, _, _⟩ := h.rest.form
  rw [bts_len] at hvr
  obtain ⟨Ab, cb, hvb, _⟩ := own_form h.body
  subst hvr
  subst hvb
  have c0 := h.blk.cell 0
  have c3 := h.blk.cell 3
  have c4 := h.blk.cell 4
  have c7 := h.blk.cell 7
  simp at c0 c3 c4 c7
  clear h
  generalize s.rest.length = rl at *
  generalize s.body.length = bl at *
  go_enter Try.func16, Try.ntmps16
  go_wp2_with (first
    | (go_at_call 22; refine (none_no g most w c0 hm).mono ?_; rintro e w1 ⟨rfl, rfl⟩))
  go_quiet (fail)
  go_wp2
  go_ret
  have e1 : IntKind.i64.wrap ((rl : Int) + bl) = (rl : Int) + bl := by rw [IntKind.wrap_i64]; omega
  first
    | exact ⟨rfl, _, rfl⟩
    | exact ⟨by simp [e1, wrap64]; omega, _, rfl⟩

end Go.Proofs.Ytmggelebnghkfaa
