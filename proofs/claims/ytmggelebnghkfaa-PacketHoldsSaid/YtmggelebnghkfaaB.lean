/- Contracts of packet.Split and of the reference's Split: both answer the same plain function. -/
import Derived.Test.YtmggelebnghkfaaA
namespace Go.Proofs.Ytmggelebnghkfaa
open Go.RowKit

set_option maxHeartbeats 800000 in
set_option maxRecDepth 100000 in
theorem split_any (A : Option Addr) (n c B : Nat) (xs : List Int) (seq : Int) (most : Nat) (w : World) (hl : xs.length = n) (hnc : n ≤ c) (hc : c ≤ 9223372036854775807) (hr : Rd w B A (bts xs)) (hB : B ≤ w.heap.size) (hn : n ≤ 1048576)
    (hs0 : 0 ≤ seq) (hs1 : seq ≤ 255) (hm1 : 1 ≤ most) (hm2 : most ≤ 16777215) :
    Calls Try.prog 7 #[.slice A n c, .int .u8 seq, .int .i64 most] w fun e w' => ∃ v, e = .returned (.tuple #[v, .int .u8 (splitF most xs seq).2, .int .i64 0]) ∧ w'.ownsRow w.heap.size 5 1 v (splitF most xs seq).1.length (bts (splitF most xs seq).1) ∧ Below w.heap.size w w' := by
  obtain ⟨i0, hi0, hz0, hz1, hz2⟩ := info_parts inf5
  have hbd : decide (1 ≤ (most : Int) ∧ (most : Int) ≤ 16777215) = true := by simp; omega
  have HS := Lib.hid (show (splitF most xs seq) = splitF most xs seq from rfl)
  generalize hS : splitF most xs seq = S at *
  have HR := Lib.hid hr
  have HL := Lib.hid hl
  have HSS := Lib.hid hS
  clear hr hl hS HS
  go_enter Try.func7, Try.ntmps7
  go_wp2_with (go_at_call 18; refine (bounds_any _ _).mono ?_; rintro e w1 ⟨rfl, rfl⟩)
  go_loopw [0, 1, 9] (fun vb vs vo wr => ∃ (A' : Option Addr) (n' c' : Nat) (xs' : List Int) (q : Int) (acc : List Int) (Ao : Option Addr) (co : Nat), vb = .slice A' n' c' ∧ xs'.length = n' ∧ n' ≤ c' ∧ c' ≤ 9223372036854775807 ∧ Rd wr B A' (bts xs') ∧ vs = .int .u8 q ∧ 0 ≤ q ∧ q ≤ 255 ∧ vo = .slice Ao acc.length co ∧
      wr.ownsRow w.heap.size 5 1 (.slice Ao acc.length co) acc.length (bts acc) ∧ Below w.heap.size w wr ∧ acc ++ (splitF most xs' q).1 = S.1 ∧ (splitF most xs' q).2 = S.2 ∧ acc.length + 5 * n' ≤ 5 * n) (fun vb _ _ _ => match vb with | .slice _ k _ => k | _ => 0)
  case atStart => exact ⟨A, n, c, xs, seq, [], none, 0, rfl, HL.out, hnc, hc, HR.out, rfl, hs0, hs1, rfl, World.ownsRow_nil _ _ _ _, Below.refl _ _, by rw [HSS.out]; rfl, by rw [HSS.out], by simp⟩
  case round =>
    obtain ⟨A', n', c', xs', q, acc, Ao, co, rfl, hl, hnc', hc', hr, rfl, hq0, hq1, rfl, hown, hbel, hacc, hsq, hbd2⟩ := hrel
    have hBs : B ≤ wr.heap.size := Nat.le_trans hB hbel.size
    rcases Nat.lt_or_ge n' most with hlt | hge
    · have HF := Lib.hid (splitF_last most xs' q (by omega))
      have HC := Lib.hid (appendFixed_any Ao acc.length co wr.heap.size acc n' wr rfl (Rd.of_own hown) (Nat.le_refl _) (by omega) (by omega) (by omega))
      have HR' := Lib.hid hr
      have HL' := Lib.hid hl
      have HA := Lib.hid hacc
      have HQ := Lib.hid hsq
      clear hr hl hacc hsq hown
      generalize hal : acc.length = al at *
      clear hal
      go_wp2_with (go_at_call 19; refine HC.out.mono ?_; rintro e w1 ⟨v1, rfl, hown1, hbel1⟩)
      have hown' := own_less hown1 (base := w.heap.size) hbel.size
      have hbel' := hbel.trans (hbel1.mono hbel.size)
      have hB1 : B ≤ w1.heap.size := Nat.le_trans hB hbel'.size
      go_region_law (first
        | (refine step_append_rd _ rfl (.tmp 28) (.tmp 30) 22 rfl w.heap.size 5 i0 (.int .u8 0) 1 1 Try.underlying22 hi0 hz0 hz1 hz2 rfl (by omega) v1 (al + 3) _ rfl (World.ownsRow.drew (hown'.alloc _)) (w1.heap.size + 1) (some ⟨w1.heap.size, 0, none⟩) 1 1 (bts [q]) rfl rfl (Rd.drew (Rd.new1 w1 _ 5)) (bts_one _) (by omega) (by omega) (by have := hbel'.size; simp; omega) ?_; intro v2 w2 hown2 hg2 hat2; have HB2 := Lib.hid (Below.of_own (((hbel'.alloc hbel'.size _).drew)) hg2 rfl (World.ownsRow.drew (hown'.alloc _)) (Nat.le_refl _) (by have := hbel'.size; simp; omega)); have HB3 := Lib.hid (Below.of_own ((((hbel1.mono hBs).alloc hB1 _).drew)) hg2 rfl (World.ownsRow.drew (hown'.alloc _)) hB (by simp; omega)))
        | (refine step_append_rd _ rfl (.tmp 31) (.tmp 34) 22 rfl w.heap.size 5 i0 (.int .u8 0) 1 1 Try.underlying22 hi0 hz0 hz1 hz2 rfl (by omega) v2 (al + 3 + 1) _ rfl hown2 B A' n' c' (bts xs') rfl (by rw [bts_len, HL'.out]; omega) (HR'.out.below HB3.out) (bts_one _) (by omega) (by omega) HB2.out.size ?_; intro v3 w3 hown3 hg3 hat3; have HB4 := Lib.hid (Below.of_own HB2.out hg3 rfl hown2 (Nat.le_refl _) HB2.out.size)))
      have HO3 := Lib.hid hown3
      clear hown3 hg3 hat3 hown2 hg2 hat2 hown' hown1
      have hfin1 : (q + 1) % 256 = S.2 := by rw [← HQ.out, HF.out]
      have hfin2 : bts (acc ++ lowB (n' : Int) 3) ++ bts [q] ++ bts xs' = bts S.1 := by
        rw [← HA.out, HF.out, HL'.out]; simp only [bts_app, List.append_assoc]
      have HF1 := Lib.hid hfin1
      have HF2 := Lib.hid hfin2
      clear hfin1 hfin2
      go_wp2
      all_goals
        go_ret3
        exact ⟨v3, by rw [← HF1.out]; rfl, own_eq HO3.out HF2.out, HB4.out⟩
    · rcases Nat.lt_or_eq_of_le hge with hgt | rfl
      all_goals
        have HF := Lib.hid (splitF_more most hm1 xs' q (by omega))
        have HC := Lib.hid (appendFixed_any Ao acc.length co wr.heap.size acc most wr rfl (Rd.of_own hown) (Nat.le_refl _) (by omega) (by omega) (by omega))
        have HR' := Lib.hid hr
        have HL' := Lib.hid hl
        have HA := Lib.hid hacc
        have HQ := Lib.hid hsq
        clear hr hl hacc hsq hown
        generalize hal : acc.length = al at *
        clear hal
        go_wp2_with (go_at_call 19; refine HC.out.mono ?_; rintro e w1 ⟨v1, rfl, hown1, hbel1⟩)
        have hown' := own_less hown1 (base := w.heap.size) hbel.size
        have hbel' := hbel.trans (hbel1.mono hbel.size)
        have hB1 : B ≤ w1.heap.size := Nat.le_trans hB hbel'.size
        have hmc : most ≤ c' := by omega
        go_region_law (first
          | (refine step_append_rd _ rfl (.tmp 28) (.tmp 30) 22 rfl w.heap.size 5 i0 (.int .u8 0) 1 1 Try.underlying22 hi0 hz0 hz1 hz2 rfl (by omega) v1 (al + 3) _ rfl (World.ownsRow.drew (hown'.alloc _)) (w1.heap.size + 1) (some ⟨w1.heap.size, 0, none⟩) 1 1 (bts [q]) rfl rfl (Rd.drew (Rd.new1 w1 _ 5)) (bts_one _) (by omega) (by omega) (by have := hbel'.size; simp; omega) ?_; intro v2 w2 hown2 hg2 hat2; have HB2 := Lib.hid (Below.of_own (((hbel'.alloc hbel'.size _).drew)) hg2 rfl (World.ownsRow.drew (hown'.alloc _)) (Nat.le_refl _) (by have := hbel'.size; simp; omega)); have HB3 := Lib.hid (Below.of_own ((((hbel1.mono hBs).alloc hB1 _).drew)) hg2 rfl (World.ownsRow.drew (hown'.alloc _)) hB (by simp; omega)))
          | (refine step_append_rd _ rfl (.tmp 31) (.tmp 34) 22 rfl w.heap.size 5 i0 (.int .u8 0) 1 1 Try.underlying22 hi0 hz0 hz1 hz2 rfl (by omega) v2 (al + 3 + 1) _ rfl hown2 B A' most c' (bts (xs'.take most)) rfl (by rw [bts_len, List.length_take, HL'.out]; omega) (by rw [bts_take]; exact (HR'.out.take _).below HB3.out) (bts_one _) (by omega) (by omega) HB2.out.size ?_; intro v3 w3 hown3 hg3 hat3; have HB4 := Lib.hid (Below.of_own HB2.out hg3 rfl hown2 (Nat.le_refl _) HB2.out.size); have HB5 := Lib.hid (Below.of_own HB3.out hg3 rfl hown2 hB (Nat.le_trans hB HB2.out.size))))
        have HO3 := Lib.hid hown3
        clear hown3 hg3 hat3 hown2 hg2 hat2 hown' hown1
        have hrn : Rd w3 B (if c' = most then A' else A'.map (·.add most)) (bts (xs'.drop most)) := by
          rw [bts_drop]; exact (HR'.out.cut (by rw [bts_len, HL'.out]; exact hnc')).below HB5.out
        have hacc' : (acc ++ (lowB most 3 ++ [q] ++ xs'.take most)) ++ (splitF most (xs'.drop most) ((q + 1) % 256)).1 = S.1 := by
          rw [← HA.out, HF.out]; simp only [List.append_assoc]
        have hsq' : (splitF most (xs'.drop most) ((q + 1) % 256)).2 = S.2 := by rw [← HQ.out, HF.out]
        have hlen : (acc ++ (lowB most 3 ++ [q] ++ xs'.take most)).length = al + 3 + 1 + most := by
          have := HO3.out.1; simp only [← bts_app, bts_len, List.append_assoc] at this ⊢; omega
        have hcells : bts (acc ++ lowB (most : Int) 3) ++ bts [q] ++ bts (xs'.take most) = bts (acc ++ (lowB most 3 ++ [q] ++ xs'.take most)) := by
          simp only [bts_app, List.append_assoc]
        have HX := Lib.hid (And.intro hrn (And.intro hacc' (And.intro hsq' (And.intro hlen hcells))))
        clear hrn hacc' hsq' hlen hcells
        go_wp2
        obtain ⟨A3, c3, hv3, _⟩ := own_form HO3.out
        obtain ⟨hrn, hacc', hsq', hlen, hcells⟩ := HX.out
        refine ⟨⟨_, _, _, xs'.drop most, _, acc ++ (lowB most 3 ++ [q] ++ xs'.take most), A3, c3, rfl, ?_, ?_, ?_, ?_, rfl, ?_, ?_, ?_, ?_, HB4.out, hacc', hsq', ?_⟩, ?_⟩
        · have := HL'.out; simp; omega
        · omega
        · omega
        · by_cases hcm : c' = most
          · rw [if_pos hcm] at hrn; first | exact hrn | (rw [if_pos hcm]; exact hrn) | (exfalso; omega)
          · rw [if_neg hcm] at hrn; first | exact hrn | (rw [if_neg hcm]; exact hrn) | (exfalso; omega)
        · omega
        · omega
        · rw [hlen]; exact hv3
        · have hoo := own_eq HO3.out hcells; rw [hv3] at hoo; rw [hlen] at hoo ⊢; exact hoo
        · rw [hlen]; omega
        · simp; omega

theorem lowB3 (x : Int) : lowB x 3 = [x % 256, x / 256 % 256, x / 65536 % 256] := by
  simp [lowB]

set_option maxHeartbeats 1600000 in
set_option maxRecDepth 100000 in
theorem refSplit_any (A : Option Addr) (n c B : Nat) (xs : List Int) (seq : Int) (most : Nat) (w : World) (hl : xs.length = n) (hnc : n ≤ c) (_hc : c ≤ 9223372036854775807) (hr : Rd w B A (bts xs)) (hB : B ≤ w.heap.size) (hn : n ≤ 1048576)
    (hs0 : 0 ≤ seq) (hs1 : seq ≤ 255) (hm1 : 1 ≤ most) (hm2 : most ≤ 16777215) :
    Calls Try.prog 8 #[.slice A n c, .int .u8 seq, .int .i64 most] w fun e w' => ∃ v, e = .returned (.tuple #[v, .int .u8 (splitF most xs seq).2, .int .i64 0]) ∧ w'.ownsRow w.heap.size 5 1 v (splitF most xs seq).1.length (bts (splitF most xs seq).1) ∧ Below w.heap.size w w' := by
  obtain ⟨i0, hi0, hz0, hz1, hz2⟩ := info_parts inf5
  generalize hS : splitF most xs seq = S at *
  have HR := Lib.hid hr
  have HL := Lib.hid hl
  have HSS := Lib.hid hS
  clear hr hl hS
  go_enter Try.func8, Try.ntmps8
  go_wp2_with fail
  go_loopw [1, 9, 10] (fun vs vo va wr => ∃ (at_ : Nat) (q : Int) (acc : List Int) (Ao : Option Addr) (co : Nat), at_ ≤ n ∧ va = .int .i64 at_ ∧ vs = .int .u8 q ∧ 0 ≤ q ∧ q ≤ 255 ∧ vo = .slice Ao acc.length co ∧
      wr.ownsRow w.heap.size 5 1 (.slice Ao acc.length co) acc.length (bts acc) ∧ Below w.heap.size w wr ∧ acc ++ (splitF most (xs.drop at_) q).1 = S.1 ∧ (splitF most (xs.drop at_) q).2 = S.2 ∧ acc.length ≤ 5 * at_) (fun _ _ va _ => n - (intOf va).toNat)
  case atStart => exact ⟨0, seq, [], none, 0, Nat.zero_le _, rfl, rfl, hs0, hs1, rfl, World.ownsRow_nil _ _ _ _, Below.refl _ _, by rw [List.drop_zero, HSS.out]; rfl, by rw [List.drop_zero, HSS.out], by simp⟩
  case round =>
    obtain ⟨at_, q, acc, Ao, co, hat, rfl, rfl, hq0, hq1, rfl, hown, hbel, hacc, hsq, hbd2⟩ := hrel
    have hBs : B ≤ wr.heap.size := Nat.le_trans hB hbel.size
    rcases Nat.lt_or_ge (n - at_) most with hlt | hge
    · have HF := Lib.hid (splitF_last most (xs.drop at_) q (by rw [List.length_drop, HL.out]; omega))
      have HA := Lib.hid hacc
      have HQ := Lib.hid hsq
      clear hacc hsq
      have HO := Lib.hid hown
      clear hown
      generalize hal : acc.length = al at *
      clear hal
      have HN := Lib.hid hbel.size
      have hlt' : (n : Int) - at_ < most := by omega
      go_wp2_with (first
        | (at_builtin; refine wpList_append_rd _ rfl (.tmp 27) (.tmp 37) 22 rfl w.heap.size 5 i0 (.int .u8 0) 1 1 Try.underlying22 hi0 hz0 hz1 hz2 rfl (by omega) (.slice Ao al co) al _ rfl (HO.out.alloc _) (wr.heap.size + 1) (some ⟨wr.heap.size, 0, none⟩) 4 4 (bts [(n - at_ : Int) % 256, (n - at_ : Int) / 256 % 256, (n - at_ : Int) / 65536, q]) rfl rfl (Rd.newL wr _ 5) (bts_one _) (by omega) (by omega) (by have := HN.out; simp; omega) ?_))
      intro v2 w2 hown2 hg2 hat2
      have HB2 := Lib.hid (Below.of_own (hbel.alloc hbel.size _) hg2 rfl (HO.out.alloc _) (Nat.le_refl _) (by have := hbel.size; simp; omega))
      have HO2 := Lib.hid hown2
      clear hown2 hg2 hat2
      have HRd := Lib.hid (((HR.out.below (HB2.out.mono hB)).cut (k := at_) (c := c) (by rw [bts_len, HL.out]; exact hnc)))
      have hfin1 : (q + 1) % 256 = S.2 := by rw [← HQ.out, HF.out]
      have hfin2 : bts acc ++ bts [(n - at_ : Int) % 256, (n - at_ : Int) / 256 % 256, (n - at_ : Int) / 65536, q] ++ (bts xs).drop at_ = bts S.1 := by
        have e : ((xs.drop at_).length : Int) = (n : Int) - at_ := by rw [List.length_drop, HL.out]; omega
        have e2 : ((n : Int) - at_) / 65536 % 256 = ((n : Int) - at_) / 65536 := by omega
        rw [← HA.out, HF.out, ← bts_drop, e, lowB3, e2]; simp [bts]
      have HF1 := Lib.hid hfin1
      have HF2 := Lib.hid hfin2
      clear hfin1 hfin2
      go_wp2_with (first
        | (at_builtin; refine wpList_append_rd _ rfl (.tmp 39) (.tmp 45) 22 rfl w.heap.size 5 i0 (.int .u8 0) 1 1 Try.underlying22 hi0 hz0 hz1 hz2 rfl (by omega) v2 (al + 4) _ rfl HO2.out B (if c = at_ then A else A.map (·.add at_)) (at_ + (n - at_) - at_) (c - at_) ((bts xs).drop at_) rfl (by rw [List.length_drop, bts_len, HL.out]; omega) HRd.out (fun u hu => bts_one xs u (List.mem_of_mem_drop hu)) (by omega) (by omega) HB2.out.size ?_; intro v3 w3 hown3 hg3 hat3; have HB3 := Lib.hid (Below.of_own HB2.out hg3 rfl HO2.out (Nat.le_refl _) HB2.out.size); have HO3 := Lib.hid hown3; clear hown3 hg3 hat3))
      all_goals
        go_ret3
        exact ⟨v3, by rw [← HF1.out]; rfl, own_eq HO3.out HF2.out, HB3.out⟩
    · have hsplit : most ≤ (xs.drop at_).length := by rw [List.length_drop, HL.out]; exact hge
      have HF := Lib.hid (splitF_more most hm1 (xs.drop at_) q hsplit)
      have HA := Lib.hid hacc
      have HQ := Lib.hid hsq
      clear hacc hsq hsplit
      have HO := Lib.hid hown
      clear hown
      have HAL := Lib.hid (show acc.length = acc.length from rfl)
      generalize hal : acc.length = al at *
      clear HAL
      have HAL := Lib.hid hal
      clear hal
      have HN := Lib.hid hbel.size
      have hge' : (most : Int) ≤ (n : Int) - at_ := by omega
      go_wp2_with (first
        | (at_builtin; refine wpList_append_rd _ rfl (.tmp 27) (.tmp 37) 22 rfl w.heap.size 5 i0 (.int .u8 0) 1 1 Try.underlying22 hi0 hz0 hz1 hz2 rfl (by omega) (.slice Ao al co) al _ rfl (HO.out.alloc _) (wr.heap.size + 1) (some ⟨wr.heap.size, 0, none⟩) 4 4 (bts [(most : Int) % 256, (most : Int) / 256 % 256, (most : Int) / 65536, q]) rfl rfl (Rd.newL wr _ 5) (bts_one _) (by omega) (by omega) (by have := HN.out; simp; omega) ?_))
      intro v2 w2 hown2 hg2 hat2
      have HB2 := Lib.hid (Below.of_own (hbel.alloc hbel.size _) hg2 rfl (HO.out.alloc _) (Nat.le_refl _) (by have := hbel.size; simp; omega))
      have HO2 := Lib.hid hown2
      clear hown2 hg2 hat2
      have HRd := Lib.hid ((((HR.out.below (HB2.out.mono hB)).cut (k := at_) (c := c) (by rw [bts_len, HL.out]; exact hnc))).take most)
      have hacc' : (acc ++ (lowB most 3 ++ [q] ++ (xs.drop at_).take most)) ++ (splitF most (xs.drop (at_ + most)) ((q + 1) % 256)).1 = S.1 := by
        rw [← HA.out, HF.out]; simp only [List.append_assoc, List.drop_drop]
      have hsq' : (splitF most (xs.drop (at_ + most)) ((q + 1) % 256)).2 = S.2 := by rw [← HQ.out, HF.out, List.drop_drop]
      have hlen : (acc ++ (lowB most 3 ++ [q] ++ (xs.drop at_).take most)).length = al + 4 + most := by
        have := HAL.out; have := HL.out; simp [lowB_len]; omega
      have hcells : bts acc ++ bts [(most : Int) % 256, (most : Int) / 256 % 256, (most : Int) / 65536, q] ++ ((bts xs).drop at_).take most = bts (acc ++ (lowB most 3 ++ [q] ++ (xs.drop at_).take most)) := by
        have e2 : (most : Int) / 65536 % 256 = (most : Int) / 65536 := by omega
        rw [lowB3, e2, ← bts_drop, ← bts_take]; simp [bts]
      have HX := Lib.hid (And.intro hacc' (And.intro hsq' (And.intro hlen hcells)))
      clear hacc' hsq' hlen hcells
      go_wp2_with (first
        | (at_builtin; refine wpList_append_rd _ rfl (.tmp 39) (.tmp 45) 22 rfl w.heap.size 5 i0 (.int .u8 0) 1 1 Try.underlying22 hi0 hz0 hz1 hz2 rfl (by omega) v2 (al + 4) _ rfl HO2.out B (if c = at_ then A else A.map (·.add at_)) (at_ + most - at_) (c - at_) (((bts xs).drop at_).take most) rfl (by rw [List.length_take, List.length_drop, bts_len, HL.out]; omega) HRd.out (fun u hu => bts_one xs u (List.mem_of_mem_drop (List.mem_of_mem_take hu))) (by omega) (by omega) HB2.out.size ?_; intro v3 w3 hown3 hg3 hat3; have HB3 := Lib.hid (Below.of_own HB2.out hg3 rfl HO2.out (Nat.le_refl _) HB2.out.size); have HO3 := Lib.hid hown3; clear hown3 hg3 hat3))
      all_goals
        obtain ⟨A3, c3, hv3, _⟩ := own_form HO3.out
        obtain ⟨hacc', hsq', hlen, hcells⟩ := HX.out
        refine ⟨⟨at_ + most, _, acc ++ (lowB most 3 ++ [q] ++ (xs.drop at_).take most), A3, c3, by omega, by go_num, rfl, by omega, by omega, ?_, ?_, HB3.out, hacc', hsq', ?_⟩, by simp [intOf]; omega⟩
        · rw [hlen]; have e : at_ + most - at_ = most := by omega
          rw [e] at hv3; exact hv3
        · have hoo := own_eq HO3.out hcells
          have e : at_ + most - at_ = most := by omega
          rw [e] at hv3; rw [hv3] at hoo; rw [hlen] at hoo ⊢; exact hoo
        · rw [hlen]; omega

set_option maxHeartbeats 400000 in
theorem split_bad (v : Value) (seq most : Int) (w : World) (h : ¬ (1 ≤ most ∧ most ≤ 16777215)) :
    Calls Try.prog 7 #[v, .int .u8 seq, .int .i64 most] w fun e w' => e = .returned (.tuple #[.slice none 0 0, .int .u8 0, .int .i64 2]) ∧ w = w' := by
  have hb : decide (1 ≤ most ∧ most ≤ 16777215) = false := decide_eq_false h
  go_enter Try.func7, Try.ntmps7
  go_wp2_with (go_at_call 18; refine (bounds_any _ _).mono ?_; rintro e w1 ⟨rfl, rfl⟩)
  go_ret3
  exact ⟨rfl, rfl⟩

set_option maxHeartbeats 400000 in
theorem refSplit_bad (v : Value) (seq most : Int) (w : World) (h : ¬ (1 ≤ most ∧ most ≤ 16777215)) :
    Calls Try.prog 8 #[v, .int .u8 seq, .int .i64 most] w fun e w' => e = .returned (.tuple #[.slice none 0 0, .int .u8 0, .int .i64 2]) ∧ w = w' := by
  by_cases h1 : most < 1
  · go_enter Try.func8, Try.ntmps8
    go_wp2
    go_ret3
    exact ⟨rfl, rfl⟩
  · have h2 : 16777215 < most := by omega
    go_enter Try.func8, Try.ntmps8
    go_wp2
    go_ret3
    exact ⟨rfl, rfl⟩

end Go.Proofs.Ytmggelebnghkfaa
