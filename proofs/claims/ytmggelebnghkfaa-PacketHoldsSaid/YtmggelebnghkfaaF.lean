/- What a reader of frames does, as plain functions on lists: one frame, all frames that are there, and facts on them. -/
import Derived.Test.YtmggelebnghkfaaM
import Derived.Test.YtmggelebnghkfaaN
namespace Go.Proofs.Ytmggelebnghkfaa
open Go.RowKit

/-- A reader's state. -/
structure St where
  rest : List Int
  body : List Int
  next : Int
  first : Int
  within : Bool

/-- Why a whole head may not be (0: it may). -/
def wrongN (most limit : Int) (rest : List Int) (bl : Nat) (next : Int) : Int :=
  if most < numB rest 3 then 5 else if rest.getD 3 0 ≠ next then 6 else if limit < bl + numB rest 3 then 3 else 0

def frameN (s : St) : Nat := (numB s.rest 3).toNat
def firstN (s : St) : Int := if s.within then s.first else s.next
def bodyN (s : St) : List Int := s.body ++ (s.rest.drop 4).take (frameN s)

/-- A frame is taken. -/
def stepS (most : Int) (s : St) : St :=
  if (frameN s : Int) < most then { rest := s.rest.drop (4 + frameN s), body := [], next := (s.next + 1) % 256, first := firstN s, within := false }
  else { rest := s.rest.drop (4 + frameN s), body := bodyN s, next := (s.next + 1) % 256, first := firstN s, within := true }

/-- What is told of it. -/
def toldS (most : Int) (s : St) : List Pk := if (frameN s : Int) < most then [⟨firstN s, (s.next + 1) % 256, bodyN s⟩] else []

/-- All frames that are there: the state behind them, what was told, the error. -/
def feedL (most limit : Int) : Nat → St → List Pk → St × List Pk × Int
  | 0, s, out => (s, out, 0)
  | k + 1, s, out =>
    if s.rest.length < 4 then (s, out, 0)
    else if wrongN most limit s.rest s.body.length s.next ≠ 0 then (s, out, wrongN most limit s.rest s.body.length s.next)
    else if s.rest.length < 4 + frameN s then (s, out, 0)
    else feedL most limit k (stepS most s) (out ++ toldS most s)

def feedF (most limit : Int) (s : St) (out : List Pk) : St × List Pk × Int := feedL most limit (s.rest.length + 1) s out

theorem stepS_rest (most : Int) (s : St) : (stepS most s).rest = s.rest.drop (4 + frameN s) := by
  unfold stepS; split <;> rfl

theorem feedL_fuel (most limit : Int) : ∀ k j s out, s.rest.length < k → s.rest.length < j → feedL most limit k s out = feedL most limit j s out
  | 0, _, _, _, h, _ => by omega
  | _, 0, _, _, _, h => by omega
  | k + 1, j + 1, s, out, hk, hj => by
    simp only [feedL]
    split
    · rfl
    · split
      · rfl
      · split
        · rfl
        · rw [feedL_fuel most limit k j _ _ (by rw [stepS_rest, List.length_drop]; omega) (by rw [stepS_rest, List.length_drop]; omega)]

theorem feedF_short (most limit : Int) (s : St) (out : List Pk) (h : s.rest.length < 4) : feedF most limit s out = (s, out, 0) := by
  simp [feedF, feedL, h]

theorem feedF_wrong (most limit : Int) (s : St) (out : List Pk) (h : 4 ≤ s.rest.length) (hw : wrongN most limit s.rest s.body.length s.next ≠ 0) :
    feedF most limit s out = (s, out, wrongN most limit s.rest s.body.length s.next) := by
  simp [feedF, feedL, show ¬ s.rest.length < 4 from by omega, hw]

theorem feedF_part (most limit : Int) (s : St) (out : List Pk) (h : 4 ≤ s.rest.length) (hw : wrongN most limit s.rest s.body.length s.next = 0) (hp : s.rest.length < 4 + frameN s) :
    feedF most limit s out = (s, out, 0) := by
  simp [feedF, feedL, show ¬ s.rest.length < 4 from by omega, hw, hp]

theorem feedF_step (most limit : Int) (s : St) (out : List Pk) (h : 4 ≤ s.rest.length) (hw : wrongN most limit s.rest s.body.length s.next = 0) (hp : 4 + frameN s ≤ s.rest.length) :
    feedF most limit s out = feedF most limit (stepS most s) (out ++ toldS most s) := by
  have e : feedF most limit (stepS most s) (out ++ toldS most s) = feedL most limit s.rest.length (stepS most s) (out ++ toldS most s) :=
    feedL_fuel most limit _ _ _ _ (by omega) (by rw [stepS_rest, List.length_drop]; omega)
  rw [e]
  simp [feedF, feedL, show ¬ s.rest.length < 4 from by omega, hw, show ¬ s.rest.length < 4 + frameN s from by omega]

end Go.Proofs.Ytmggelebnghkfaa
