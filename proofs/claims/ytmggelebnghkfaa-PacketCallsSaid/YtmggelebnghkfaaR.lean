/- The law PacketCalls, walked: whatever the bytes, the number, the most and the limit, it returns true and leaves what was there. -/
import Derived.Test.YtmggelebnghkfaaQ
namespace Go.Proofs.Ytmggelebnghkfaa
open Go.RowKit

def splitA (most : Int) (xs : List Int) (seq : Int) : List Int × Int × Int :=
  if 1 ≤ most ∧ most ≤ 16777215 then ((splitF most.toNat xs seq).1, (splitF most.toNat xs seq).2, 0) else ([], 0, 2)

def joinA (most limit : Int) (xs : List Int) : List Pk × Int × Int :=
  if 1 ≤ most ∧ most ≤ 16777215 ∧ 0 ≤ limit ∧ limit ≤ 1073741824 then ((joinF most.toNat limit xs).1, (joinF most.toNat limit xs).2.1, (joinF most.toNat limit xs).2.2) else ([], 0, 2)

theorem joinA_len (most limit : Int) (xs : List Int) (hb : ∀ z ∈ xs, 0 ≤ z ∧ z ≤ 255) : (joinA most limit xs).1.length ≤ xs.length := by
  unfold joinA
  split
  · rename_i h
    exact Nat.le_trans (len_le_sum most.toNat _) (join_le most.toNat (by omega) limit xs hb)
  · simp

def SPost (R : List Int × Int × Int) (w : World) (e : Ending) (w' : World) : Prop :=
  ∃ Ao co, e = .returned (.tuple #[.slice Ao R.1.length co, .int .u8 R.2.1, .int .i64 R.2.2]) ∧ Rd w' w'.heap.size Ao (bts R.1) ∧ Below w.heap.size w w'

def PPost (R : List Pk × Int × Int) (w : World) (e : Ending) (w' : World) : Prop :=
  ∃ Ao co cs, e = .returned (.tuple #[.slice Ao R.1.length co, .int .i64 R.2.1, .int .i64 R.2.2]) ∧ Rd w' w'.heap.size Ao cs ∧ PkL w' w'.heap.size cs R.1 ∧ Below w.heap.size w w'

theorem own_head {w : World} {B n : Nat} {A : Option Addr} {xs ys : List Int} (hl : xs.length = n) (hr : Rd w B A (bts (xs ++ ys))) : Rd w B A (bts xs) := by
  have h := hr.take n
  rw [bts_app] at h
  rwa [List.take_left' (by rw [bts_len]; exact hl)] at h

theorem split_all (A : Option Addr) (n c B : Nat) (xs : List Int) (seq most : Int) (w : World) (hl : xs.length = n) (hr : Rd w B A (bts xs)) (hB : B ≤ w.heap.size) (hn : n ≤ 1048576) (hnc : n ≤ c) (hc : c ≤ 9223372036854775807) (hs0 : 0 ≤ seq) (hs1 : seq ≤ 255) : Calls Try.prog 7 #[.slice A n c, .int .u8 seq, .int .i64 most] w (SPost (splitA most xs seq) w) := by
  unfold splitA
  by_cases h : 1 ≤ most ∧ most ≤ 16777215
  · rw [if_pos h]
    obtain ⟨m, rfl⟩ := Int.eq_ofNat_of_zero_le (show 0 ≤ most by omega)
    rw [Int.toNat_natCast]
    refine (split_read (split_any A n c B xs seq m w hl hnc hc hr hB hn hs0 hs1 (by omega) (by omega))).mono ?_
    rintro e w' ⟨Ao, co, h1, h2, h3, _⟩
    exact ⟨Ao, co, h1, h2, h3⟩
  · rw [if_neg h]
    refine (split_bad _ seq most w h).mono ?_
    rintro e w' ⟨rfl, rfl⟩
    exact ⟨none, 0, rfl, Rd.nil, Below.refl _ _⟩

theorem refSplit_all (A : Option Addr) (n c B : Nat) (xs : List Int) (seq most : Int) (w : World) (hl : xs.length = n) (hr : Rd w B A (bts xs)) (hB : B ≤ w.heap.size) (hn : n ≤ 1048576) (hnc : n ≤ c) (hc : c ≤ 9223372036854775807) (hs0 : 0 ≤ seq) (hs1 : seq ≤ 255) : Calls Try.prog 8 #[.slice A n c, .int .u8 seq, .int .i64 most] w (SPost (splitA most xs seq) w) := by
  unfold splitA
  by_cases h : 1 ≤ most ∧ most ≤ 16777215
  · rw [if_pos h]
    obtain ⟨m, rfl⟩ := Int.eq_ofNat_of_zero_le (show 0 ≤ most by omega)
    rw [Int.toNat_natCast]
    refine (split_read (refSplit_any A n c B xs seq m w hl hnc hc hr hB hn hs0 hs1 (by omega) (by omega))).mono ?_
    rintro e w' ⟨Ao, co, h1, h2, h3, _⟩
    exact ⟨Ao, co, h1, h2, h3⟩
  · rw [if_neg h]
    refine (refSplit_bad _ seq most w h).mono ?_
    rintro e w' ⟨rfl, rfl⟩
    exact ⟨none, 0, rfl, Rd.nil, Below.refl _ _⟩

theorem join_all (A : Option Addr) (n c B : Nat) (xs : List Int) (most limit : Int) (w : World) (hl : xs.length = n) (hr : Rd w B A (bts xs)) (hB : B ≤ w.heap.size) (hn : n ≤ 1048576) (hb : ∀ z ∈ xs, 0 ≤ z ∧ z ≤ 255) : Calls Try.prog 11 #[.slice A n c, .int .i64 most, .int .i64 limit] w (PPost (joinA most limit xs) w) := by
  unfold joinA
  by_cases h : 1 ≤ most ∧ most ≤ 16777215 ∧ 0 ≤ limit ∧ limit ≤ 1073741824
  · rw [if_pos h]
    obtain ⟨m, rfl⟩ := Int.eq_ofNat_of_zero_le (show 0 ≤ most by omega)
    rw [Int.toNat_natCast]
    exact join_any m limit A n c B xs w hl hr hB hb hn (by omega) (by omega) h.2.2.1 h.2.2.2
  · rw [if_neg h]
    refine (join_bad most limit _ w h).mono ?_
    rintro e w' ⟨rfl, rfl⟩
    exact ⟨none, 0, [], rfl, Rd.nil, trivial, Below.refl _ _⟩

theorem refJoin_all (A : Option Addr) (n c B : Nat) (xs : List Int) (most limit : Int) (w : World) (hl : xs.length = n) (hr : Rd w B A (bts xs)) (hB : B ≤ w.heap.size) (hn : n ≤ 1048576) (hb : ∀ z ∈ xs, 0 ≤ z ∧ z ≤ 255) : Calls Try.prog 12 #[.slice A n c, .int .i64 most, .int .i64 limit] w (PPost (joinA most limit xs) w) := by
  unfold joinA
  by_cases h : 1 ≤ most ∧ most ≤ 16777215 ∧ 0 ≤ limit ∧ limit ≤ 1073741824
  · rw [if_pos h]
    obtain ⟨m, rfl⟩ := Int.eq_ofNat_of_zero_le (show 0 ≤ most by omega)
    rw [Int.toNat_natCast]
    exact refJoin_any m limit A n c B xs w hl hr hB hb hn (by omega) (by omega) h.2.2.1 h.2.2.2
  · rw [if_neg h]
    refine (refJoin_bad most limit _ w h).mono ?_
    rintro e w' ⟨rfl, rfl⟩
    exact ⟨none, 0, [], rfl, Rd.nil, trivial, Below.refl _ _⟩

set_option maxHeartbeats 1600000 in
set_option maxRecDepth 100000 in
theorem calls_any (A : Option Addr) (n c : Nat) (xs : List Int) (seq most limit : Int) (w : World) (hl : xs.length = n) (hnc : n ≤ c) (hc : c ≤ 9223372036854775807) (hr : Rd w w.heap.size A (bts xs)) (hb : ∀ z ∈ xs, 0 ≤ z ∧ z ≤ 255) (hs0 : 0 ≤ seq) (hs1 : seq ≤ 255) :
    Calls Try.prog 3 #[.slice A n c, .int .u8 seq, .int .i64 most, .int .i64 limit] w fun e w' => e = .returned (.bool true) ∧ Below w.heap.size w w' := by
  by_cases hbig : 3000 < n
  · go_enter Try.func3, Try.ntmps3
    go_wp2_with (first
      | (go_at_call 5; refine (lives_any w).mono ?_; rintro e w0 ⟨rfl, hb0⟩))
    go_ret
    exact ⟨rfl, hb0⟩
  · have HS : ∃ so sq se, splitA most xs seq = (so, sq, se) := ⟨_, _, _, rfl⟩
    obtain ⟨so, sq, se, hS⟩ := HS
    have HJ : ∃ jo jn je, joinA most limit xs = (jo, jn, je) := ⟨_, _, _, rfl⟩
    obtain ⟨jo, jn, je, hJ⟩ := HJ
    have hjl := joinA_len most limit xs hb
    rw [hJ] at hjl
    have hjl2 : jo.length ≤ 1048576 := by have h : jo.length ≤ xs.length := hjl; omega
    have K7 := Lib.hid (fun (A' : Option Addr) (c' B' : Nat) (w' : World) (hr' : Rd w' B' A' (bts xs)) (hB' : B' ≤ w'.heap.size) (h1 : n ≤ c') (h2 : c' ≤ 9223372036854775807) => hS ▸ split_all A' n c' B' xs seq most w' hl hr' hB' (by omega) h1 h2 hs0 hs1)
    have K8 := Lib.hid (fun (A' : Option Addr) (c' B' : Nat) (w' : World) (hr' : Rd w' B' A' (bts xs)) (hB' : B' ≤ w'.heap.size) (h1 : n ≤ c') (h2 : c' ≤ 9223372036854775807) => hS ▸ refSplit_all A' n c' B' xs seq most w' hl hr' hB' (by omega) h1 h2 hs0 hs1)
    have K11 := Lib.hid (fun (A' : Option Addr) (c' B' : Nat) (w' : World) (hr' : Rd w' B' A' (bts xs)) (hB' : B' ≤ w'.heap.size) => hJ ▸ join_all A' n c' B' xs most limit w' hl hr' hB' (by omega) hb)
    have K12 := Lib.hid (fun (A' : Option Addr) (c' B' : Nat) (w' : World) (hr' : Rd w' B' A' (bts xs)) (hB' : B' ≤ w'.heap.size) => hJ ▸ refJoin_all A' n c' B' xs most limit w' hl hr' hB' (by omega) hb)
    have HR := Lib.hid hr
    have HL := Lib.hid hl
    have t1 : (sq != sq) = false := by simp
    have t2 : (se != se) = false := by simp
    have t3 : (jn == jn) = true := by simp
    have t4 : (je == je) = true := by simp
    generalize hsl : so.length = sl at *
    have HSL := Lib.hid hsl
    generalize hjln : jo.length = jl at *
    have HJL := Lib.hid hjln
    clear hl hr hb hS hJ hjl hsl hjln
    go_enter Try.func3, Try.ntmps3
    go_wp2_with (first
      | (go_at_call 5; refine (lives_any w).mono ?_; rintro e w0 ⟨rfl, hb0⟩; have HB0 := Lib.hid hb0; clear hb0)
      | (go_at_call 6; refine (own_any A n c w.heap.size xs w0 HL.out (HR.out.below HB0.out) HB0.out.size (by omega)).mono ?_; rintro e w1 ⟨g, cap, rfl, ho, hb1, hcap, hcm⟩; have HO := Lib.hid (Rd.of_own ho); have HOX := Lib.hid (own_head HL.out (Rd.of_own ho)); have HB1 := Lib.hid (HB0.out.trans (hb1.mono HB0.out.size)); clear ho hb1)
      | (go_at_call 7; refine (K7.out (some ⟨g, 0, none⟩) cap w1.heap.size w1 HOX.out (Nat.le_refl _) (by omega) hcm).mono ?_; rintro e w2 ⟨A2, c2, he, hr2, hb2⟩; simp only [HSL.out] at he; subst he; have HR2 := Lib.hid hr2; have HB12 := Lib.hid hb2; have HB2 := Lib.hid (HB1.out.trans (hb2.mono HB1.out.size)); clear hr2 hb2)
      | (go_at_call 8; refine (K8.out A c w.heap.size w2 (HR.out.below HB2.out) HB2.out.size hnc hc).mono ?_; rintro e w3 ⟨A3, c3, he, hr3, hb3⟩; simp only [HSL.out] at he; subst he; have HR3 := Lib.hid hr3; have HB23 := Lib.hid hb3; have HB3 := Lib.hid (HB2.out.trans (hb3.mono HB2.out.size)); clear hr3 hb3)
      | (go_at_call 9; refine (same_any A2 A3 c2 c3 sl w2.heap.size w3.heap.size so w3 HSL.out (HR2.out.below HB23.out) HR3.out).mono ?_; rintro e w3' ⟨rfl, rfl⟩)
      | (go_at_call 10; refine (kept_any A g n c cap w.heap.size w1.heap.size xs w3 HL.out (HR.out.below HB3.out) (HO.out.below (HB12.out.trans (HB23.out.mono HB12.out.size))) hcap hcm (by omega)).mono ?_; rintro e w3' ⟨rfl, rfl⟩)
      | (go_at_call 11; refine (K11.out (some ⟨g, 0, none⟩) cap w1.heap.size w3 (HOX.out.below (HB12.out.trans (HB23.out.mono HB12.out.size))) (Nat.le_trans HB12.out.size HB23.out.size)).mono ?_; rintro e w4 ⟨A4, c4, cs4, he, hr4, hp4, hb4⟩; simp only [HJL.out] at he; subst he; have HR4 := Lib.hid hr4; have HP4 := Lib.hid hp4; have HB4 := Lib.hid (HB3.out.trans (hb4.mono HB3.out.size)); clear hr4 hp4 hb4)
      | (go_at_call 12; refine (K12.out A c w.heap.size w4 (HR.out.below HB4.out) HB4.out.size).mono ?_; rintro e w5 ⟨A5, c5, cs5, he, hr5, hp5, hb5⟩; simp only [HJL.out] at he; subst he; have HR5 := Lib.hid hr5; have HP5 := Lib.hid hp5; have HB45 := Lib.hid hb5; have HB5 := Lib.hid (HB4.out.trans (hb5.mono HB4.out.size)); clear hr5 hp5 hb5)
      | (go_at_call 13; refine (samePk_any A4 A5 jl c4 c5 w4.heap.size w5.heap.size cs4 cs5 jo w5 HJL.out hjl2 (HR4.out.below HB45.out) HR5.out (HP4.out.keep (fun A xs h => h.below HB45.out)) HP5.out).mono ?_; rintro e w6 ⟨rfl, m6, rfl⟩))
    go_ret
    exact ⟨rfl, below_drewN HB5.out m6⟩

/-- A row of numbers that came in, as the words of these texts have it. -/
theorem Rd.of_row {w : World} {x : Addr} {zs : List Int} {len cap : Nat} (hz : zs.length = cap) (hlc : len ≤ cap) (hcell : ∀ i, i < zs.length → w.cell? (x.add i) = some (.int .u8 (zs.getD i 0))) :
    Rd w w.heap.size (some x) (bts (zs.take len)) := by
  intro j u hu
  have hj : j < len := by
    have := (List.getElem?_eq_some_iff.1 hu).1
    rw [bts_len, List.length_take] at this
    omega
  have h0 := hcell 0 (by omega)
  have hx : x.add 0 = x := by simp [Addr.add]
  rw [hx] at h0
  have hs : x.spot = none := by
    unfold World.cell? at h0
    split at h0
    · rename_i c _ _ _
      cases hsp : x.spot with
      | none => rfl
      | some q => rw [hsp] at h0; simp at h0
    · cases h0
  obtain ⟨g, o, sp⟩ := x
  simp only at hs
  subst hs
  refine ⟨g, o, rfl, World.block_lt_of_cell? w _ h0, ?_⟩
  have h1 := hcell j (by omega)
  rw [Addr.add_lit] at h1
  rw [h1]
  have hl : j < (zs.take len).length := by rw [List.length_take]; omega
  rw [bts_get _ _ hl] at hu
  rw [← hu]
  simp [List.getD, hj]

end Go.Proofs.Ytmggelebnghkfaa
