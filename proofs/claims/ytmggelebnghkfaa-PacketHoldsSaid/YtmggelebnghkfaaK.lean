/- What Join answers, as a plain function: the payloads, how many bytes they took, the error; and that they took no more than there are. -/
import Derived.Test.YtmggelebnghkfaaF
namespace Go.Proofs.Ytmggelebnghkfaa
open Go.RowKit

/-- How many bytes the frames of a payload take. -/
def wt (m : Nat) (p : Pk) : Nat := p.body.length + 4 * (p.body.length / m + 1)
def sumN (m : Nat) : List Pk → Nat
  | [] => 0
  | p :: ps => wt m p + sumN m ps

theorem sumN_app (m : Nat) (a b : List Pk) : sumN m (a ++ b) = sumN m a + sumN m b := by
  induction a with
  | nil => simp [sumN]
  | cons p ps ih => simp only [List.cons_append, sumN, ih]; omega

theorem sumN_take (m : Nat) (ps : List Pk) (k : Nat) (hk : k < ps.length) : sumN m (ps.take (k + 1)) = sumN m (ps.take k) + wt m ps[k] := by
  rw [List.take_succ_eq_append_getElem hk, sumN_app]
  simp [sumN]

theorem sumN_take_le (m : Nat) (ps : List Pk) (k : Nat) : sumN m (ps.take k) ≤ sumN m ps := by
  have := sumN_app m (ps.take k) (ps.drop k)
  rw [List.take_append_drop] at this
  omega

theorem feedL_sum (m : Nat) (hm : 1 ≤ m) (limit : Int) : ∀ k s out, m ∣ s.body.length → (∀ z ∈ s.rest, 0 ≤ z ∧ z ≤ 255) →
    sumN m (feedL m limit k s out).2.1 ≤ sumN m out + (s.body.length + 4 * (s.body.length / m)) + s.rest.length
  | 0, s, out, _, _ => by simp only [feedL]; omega
  | k + 1, s, out, hd, hb => by
    simp only [feedL]
    split
    · simp only []; omega
    · split
      · simp only []; omega
      · rename_i h4 hw
        split
        · simp only []; omega
        · rename_i hp
          have hw0 : wrongN m limit s.rest s.body.length s.next = 0 := by
            rcases Int.decEq (wrongN m limit s.rest s.body.length s.next) 0 with h | h
            · exact absurd h hw
            · exact h
          have hN := numB_bd hb 3
          have hF : (frameN s : Int) = numB s.rest 3 := by unfold frameN; omega
          have hle : frameN s ≤ m := by
            unfold wrongN at hw0
            split at hw0
            · cases hw0
            · omega
          have ih := feedL_sum m hm limit k (stepS m s) (out ++ toldS m s)
          obtain ⟨q, hq⟩ := hd
          have hqm : m * q / m = q := Nat.mul_div_cancel_left q (by omega)
          have hbl : (bodyN s).length = s.body.length + frameN s := by
            unfold bodyN
            rw [List.length_append, List.length_take, List.length_drop]
            omega
          have hrl : (s.rest.drop (4 + frameN s)).length = s.rest.length - (4 + frameN s) := List.length_drop
          by_cases hlt : (frameN s : Int) < m
          · have e1 : stepS m s = { rest := s.rest.drop (4 + frameN s), body := [], next := (s.next + 1) % 256, first := firstN s, within := false } := by unfold stepS; rw [if_pos hlt]
            have e2 : toldS m s = [⟨firstN s, (s.next + 1) % 256, bodyN s⟩] := by unfold toldS; rw [if_pos hlt]
            rw [e1, e2] at ih ⊢
            have h1 := ih ⟨0, rfl⟩ (fun z hz => hb z (List.mem_of_mem_drop hz))
            have hdiv : (bodyN s).length / m = q := by
              rw [hbl, hq, Nat.mul_add_div (by omega), Nat.div_eq_of_lt (by omega)]; omega
            rw [sumN_app] at h1
            simp only [sumN, wt, hdiv, List.length_nil, hrl, Nat.zero_div] at h1
            rw [hq, hqm]
            rw [hbl, hq] at h1
            omega
          · have hm2 : frameN s = m := by omega
            have e1 : stepS m s = { rest := s.rest.drop (4 + frameN s), body := bodyN s, next := (s.next + 1) % 256, first := firstN s, within := true } := by unfold stepS; rw [if_neg hlt]
            have e2 : toldS m s = [] := by unfold toldS; rw [if_neg hlt]
            rw [e1, e2] at ih ⊢
            have hbm : (bodyN s).length = m * (q + 1) := by rw [hbl, hq, hm2, Nat.mul_add]; omega
            have h1 := ih ⟨q + 1, hbm⟩ (fun z hz => hb z (List.mem_of_mem_drop hz))
            have hqm2 : m * (q + 1) / m = q + 1 := Nat.mul_div_cancel_left _ (by omega)
            simp only [List.append_nil, hbm, hrl, hqm2] at h1
            rw [hq, hqm]
            have : m * (q + 1) = m * q + m := by rw [Nat.mul_add]; omega
            rw [List.append_nil]
            omega

/-- The state in which Join feeds all bytes. -/
def join0 (bs : List Int) : St := { rest := bs, body := [], next := if 4 ≤ bs.length then bs.getD 3 0 else 0, first := 0, within := false }

/-- What Join answers. -/
def joinF (m : Nat) (limit : Int) (bs : List Int) : List Pk × Nat × Int :=
  ((feedF m limit (join0 bs) []).2.1, sumN m (feedF m limit (join0 bs) []).2.1,
    if (feedF m limit (join0 bs) []).2.2 = 0 ∧ sumN m (feedF m limit (join0 bs) []).2.1 < bs.length then 4 else (feedF m limit (join0 bs) []).2.2)

theorem join_le (m : Nat) (hm : 1 ≤ m) (limit : Int) (bs : List Int) (hb : ∀ z ∈ bs, 0 ≤ z ∧ z ≤ 255) : sumN m (feedF m limit (join0 bs) []).2.1 ≤ bs.length := by
  have := feedL_sum m hm limit ((join0 bs).rest.length + 1) (join0 bs) [] ⟨0, rfl⟩ hb
  simpa [feedF, join0, sumN] using this

theorem len_le_sum (m : Nat) : ∀ l : List Pk, l.length ≤ sumN m l
  | [] => Nat.le_refl _
  | p :: l => by
    have ih := len_le_sum m l
    have h1 : 1 ≤ wt m p := by unfold wt; exact Nat.le_trans (Nat.le_trans (by decide) (Nat.mul_le_mul_left 4 (Nat.le_add_left 1 _))) (Nat.le_add_left _ _)
    simp only [List.length_cons, sumN]
    omega

end Go.Proofs.Ytmggelebnghkfaa
