/- Plain facts on numbers for the packet laws: three bytes put together by or; what is cut out of a number. -/
import Derived.Laws.BitsAllLaws
import Derived.WalkKit
namespace Go.Proofs.Ytmggelebnghkfaa
open Go.RowKit

/-- The number in the k first bytes. -/
def numB (b : List Int) : Nat → Int
  | 0 => 0
  | k + 1 => numB b k + b.getD k 0 * 2 ^ (8 * k)

theorem getD_byte {b : List Int} (hb : ∀ z ∈ b, 0 ≤ z ∧ z ≤ 255) (k : Nat) : 0 ≤ b.getD k 0 ∧ b.getD k 0 ≤ 255 := by
  rcases Nat.lt_or_ge k b.length with h | h
  · have : b.getD k 0 = b[k] := by simp [List.getD, List.getElem?_eq_getElem h]
    rw [this]; exact hb _ (List.getElem_mem h)
  · have : b.getD k 0 = 0 := by simp [List.getD, List.getElem?_eq_none h]
    rw [this]; omega

theorem numB_bd {b : List Int} (hb : ∀ z ∈ b, 0 ≤ z ∧ z ≤ 255) : ∀ k, 0 ≤ numB b k ∧ numB b k < 2 ^ (8 * k)
  | 0 => ⟨Int.le_refl _, by simp [numB]⟩
  | k + 1 => by
    have ih := numB_bd hb k
    have hz := getD_byte hb k
    have e : (2 : Int) ^ (8 * (k + 1)) = 256 * 2 ^ (8 * k) := by rw [show 8 * (k + 1) = 8 * k + 8 from by omega, Int.pow_add]; omega
    rw [e]
    simp only [numB]
    have hp : (0 : Int) < 2 ^ (8 * k) := by have := Int.pow_pos (n := 2) (m := 8 * k) (by decide); exact this
    constructor
    · have := Int.mul_nonneg hz.1 (Int.le_of_lt hp); omega
    · have := Int.mul_le_mul_of_nonneg_right hz.2 (Int.le_of_lt hp); omega

theorem or_add (a z : Nat) (i : Nat) (ha : a < 2 ^ i) : a ||| z * 2 ^ i = a + z * 2 ^ i := by
  have h := Nat.two_pow_add_eq_or_of_lt ha z
  rw [Nat.mul_comm z, Nat.or_comm, ← h, Nat.add_comm]

/-- One byte more, put in by or. -/
theorem or_byte_u64 {b : List Int} (hb : ∀ z ∈ b, 0 ≤ z ∧ z ≤ 255) (k : Nat) (hk : k < 3) :
    bits .or .u64 (numB b k) (IntKind.u64.wrap (IntKind.u64.wrap (b[k]?.getD 0) * 2 ^ (8 * k))) = numB b (k + 1) := by
  have hz : 0 ≤ b[k]?.getD 0 ∧ b[k]?.getD 0 ≤ 255 := getD_byte hb k
  have hn := numB_bd hb k
  simp only [numB]
  show _ = numB b k + (b[k]?.getD 0) * 2 ^ (8 * k)
  generalize numB b k = a at *
  generalize b[k]?.getD 0 = z at *
  obtain ⟨z, rfl⟩ := Int.eq_ofNat_of_zero_le hz.1
  obtain ⟨a, rfl⟩ := Int.eq_ofNat_of_zero_le hn.1
  have hz' : z ≤ 255 := by omega
  have ha' : a < 2 ^ (8 * k) := by have := hn.2; exact_mod_cast this
  have hp : 2 ^ (8 * k) ≤ 65536 := by
    have : k = 0 ∨ k = 1 ∨ k = 2 := by omega
    rcases this with rfl | rfl | rfl <;> decide
  have hm : z * 2 ^ (8 * k) ≤ 255 * 65536 := Nat.mul_le_mul hz' hp
  have e1 : IntKind.u64.wrap (z : Int) = z := by simp [IntKind.wrap, IntKind.signed, IntKind.bits]; omega
  have e2 : IntKind.u64.wrap ((z : Int) * 2 ^ (8 * k)) = ((z * 2 ^ (8 * k) : Nat) : Int) := by
    have : (z : Int) * 2 ^ (8 * k) = ((z * 2 ^ (8 * k) : Nat) : Int) := by push_cast; rfl
    rw [this]
    generalize z * 2 ^ (8 * k) = q at *
    simp [IntKind.wrap, IntKind.signed, IntKind.bits]; omega
  rw [e1, e2, u64_or_nat a _ (by omega) (by omega), or_add a z _ ha']
  push_cast
  rfl

/-- The k lowest bytes of a number. -/
def lowB (x : Int) : Nat → List Int
  | 0 => []
  | k + 1 => lowB x k ++ [x / 2 ^ (8 * k) % 256]

theorem lowB_len (x : Int) (k : Nat) : (lowB x k).length = k := by
  induction k with
  | zero => rfl
  | succ k ih => simp [lowB, ih]


/-- A payload's frames, from a number on: at most k of them. -/
def splitL (most : Nat) : Nat → List Int → Int → List Int × Int
  | 0, _, seq => ([], seq)
  | k + 1, body, seq =>
    if body.length < most then (lowB body.length 3 ++ [seq] ++ body, (seq + 1) % 256)
    else (lowB most 3 ++ [seq] ++ body.take most ++ (splitL most k (body.drop most) ((seq + 1) % 256)).1, (splitL most k (body.drop most) ((seq + 1) % 256)).2)

theorem splitL_fuel (most : Nat) (hm : 1 ≤ most) : ∀ k j body seq, body.length < k → body.length < j → splitL most k body seq = splitL most j body seq
  | 0, _, _, _, h, _ => by omega
  | _, 0, _, _, _, h => by omega
  | k + 1, j + 1, body, seq, hk, hj => by
    simp only [splitL]
    split
    · rfl
    · rw [splitL_fuel most hm k j _ _ (by simp; omega) (by simp; omega)]

/-- A payload's frames. -/
def splitF (most : Nat) (body : List Int) (seq : Int) : List Int × Int := splitL most (body.length + 1) body seq

theorem splitF_last (most : Nat) (body : List Int) (seq : Int) (h : body.length < most) : splitF most body seq = (lowB body.length 3 ++ [seq] ++ body, (seq + 1) % 256) := by
  simp [splitF, splitL, h]

theorem splitF_more (most : Nat) (hm : 1 ≤ most) (body : List Int) (seq : Int) (h : most ≤ body.length) :
    splitF most body seq = (lowB most 3 ++ [seq] ++ body.take most ++ (splitF most (body.drop most) ((seq + 1) % 256)).1, (splitF most (body.drop most) ((seq + 1) % 256)).2) := by
  have e : splitF most (body.drop most) ((seq + 1) % 256) = splitL most body.length (body.drop most) ((seq + 1) % 256) :=
    splitL_fuel most hm _ _ _ _ (by omega) (by simp; omega)
  rw [e]
  simp [splitF, splitL, show ¬ body.length < most from by omega]

theorem i64_or_nat (a b : Nat) (ha : a < 4611686018427387904) (hb : b < 4611686018427387904) : bits .or .i64 (a : Int) (b : Int) = ((a ||| b : Nat) : Int) := by
  have hx : a ||| b < 2 ^ 62 := Nat.or_lt_two_pow (by omega) (by omega)
  show IntKind.i64.wrap ((BitVec.ofInt 64 (a : Int) ||| BitVec.ofInt 64 (b : Int)).toNat : Int) = _
  rw [BitVec.toNat_or, ofInt_u64 a (by omega), ofInt_u64 b (by omega), IntKind.wrap_i64]
  omega

theorem or3_i64 {x y z : Int} (x0 : 0 ≤ x) (x1 : x ≤ 255) (y0 : 0 ≤ y) (y1 : y ≤ 255) (z0 : 0 ≤ z) (z1 : z ≤ 255) :
    bits .or .i64 (bits .or .i64 x (y * 256)) (z * 65536) = x + y * 256 + z * 65536 := by
  obtain ⟨x, rfl⟩ := Int.eq_ofNat_of_zero_le x0
  obtain ⟨y, rfl⟩ := Int.eq_ofNat_of_zero_le y0
  obtain ⟨z, rfl⟩ := Int.eq_ofNat_of_zero_le z0
  have e1 : ((y : Int) * 256) = ((y * 2 ^ 8 : Nat) : Int) := by omega
  have e2 : ((z : Int) * 65536) = ((z * 2 ^ 16 : Nat) : Int) := by omega
  rw [e1, e2, i64_or_nat x _ (by omega) (by omega), or_add x y 8 (by omega), i64_or_nat _ _ (by omega) (by omega), or_add (x + y * 2 ^ 8) z 16 (by omega)]
  omega

end Go.Proofs.Ytmggelebnghkfaa
