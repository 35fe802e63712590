/- The contract of the reference's Feed: it answers what the plain function feedF answers. -/
import Derived.Test.YtmggelebnghkfaaI
namespace Go.Proofs.Ytmggelebnghkfaa.RefR
open Go.RowKit

/-- What a call of the reference's Feed comes to. -/
def FeedPost (R : St × List Pk × Int) (base : Nat) (w : World) (e : Ending) (w' : World) : Prop :=
  ∃ vo S, e = .returned (.tuple #[vo, .int .i64 R.2.2]) ∧ Told w' base S vo R.2.1 ∧ Below base w w' ∧ S ≤ w'.heap.size

set_option maxHeartbeats 1600000 in
set_option maxRecDepth 100000 in
theorem feed_any (g base : Nat) (most limit : Int) (s : St) (vr vb : Value) (A : Option Addr) (n c B : Nat) (bs : List Int) (w : World)
    (h : RdrP w base g 56 most limit s 0 vr vb) (hl : bs.length = n) (hr : Rd w B A (bts bs)) (hB : B ≤ base) (hbs : ∀ z ∈ bs, 0 ≤ z ∧ z ≤ 255) (hn : s.rest.length + n ≤ 268435456)
    (hm1 : 1 ≤ most) (hm2 : most ≤ 16777215) (hl0 : 0 ≤ limit) (hl1 : limit ≤ 1073741824) :
    Calls Try.prog 21 #[.pointer (some ⟨g, 0, none⟩), .slice A n c] w (FeedPost (feedF most limit { s with rest := s.rest ++ bs } []) base w) := by
  obtain ⟨i0, hi0, hz0, hz1, hz2⟩ := info_parts inf5
  obtain ⟨i1, hi1, hy0, hy1, hy2⟩ := info_parts inf41
  obtain ⟨Ar, cr, hvr, _, _, hrd⟩ := h.rest.form
  rw [bts_len] at hvr
  subst hvr
  have HR := Lib.hid hr
  have HL := Lib.hid hl
  have HH := Lib.hid h
  have HRD0 := Lib.hid hrd
  generalize hRR : feedF most limit { s with rest := s.rest ++ bs } [] = R at *
  have HRR := Lib.hid hRR
  have c3 := h.blk.cell 3
  have c7 := h.blk.cell 7
  simp at c3 c7
  clear hr hl h hRR hrd
  have hBw : base ≤ w.heap.size := Nat.le_trans HH.out.ge (Nat.le_of_lt HH.out.blk.lt)
  generalize hr0 : s.rest.length = r0 at *
  have HR0 := Lib.hid hr0
  clear hr0
  have hgl : g < w.heap.size := HH.out.blk.lt
  go_enter Try.func21, Try.ntmps21
  go_wp2_with (first
    | (at_builtin; refine wpList_append_rd _ rfl (.tmp 14) (.tmp 18) 22 rfl w.heap.size 5 i0 (.int .u8 0) 1 1 Try.underlying22 hi0 hz0 hz1 hz2 rfl (by omega) (.slice (some ⟨w.heap.size, 0, none⟩) 0 0) 0 [] rfl (World.ownsRow_made w #[] 0 (Nat.le_refl _) (by simp [maxLen]) (by simp)) w.heap.size Ar r0 cr (bts s.rest) rfl (by rw [bts_len, HR0.out]; omega) (HRD0.out.alloc (Nat.le_refl _) _) (bts_one _) (by omega) (by omega) (by simp) ?_; intro v1 w1 hown1 hg1 _; have HO1 := Lib.hid hown1; have HB1 := Lib.hid (((Below.refl w.heap.size w).alloc (Nat.le_refl _) _).grown hg1 (by simp) (by simp [Value.ownBlock])); clear hown1 hg1)
    | (at_builtin; refine wpList_append_rd _ rfl (.tmp 19) (.tmp 20) 22 rfl w.heap.size 5 i0 (.int .u8 0) 1 1 Try.underlying22 hi0 hz0 hz1 hz2 rfl (by omega) v1 (0 + r0) ([] ++ bts s.rest) rfl HO1.out B A n c (bts bs) rfl (by rw [bts_len, HL.out]; omega) (HR.out.below (HB1.out.mono (Nat.le_trans hB hBw))) (bts_one _) (by omega) (by omega) HB1.out.size ?_; intro v2 w2 hown2 hg2 _; have HO2 := Lib.hid hown2; have HB2 := Lib.hid (Below.of_own HB1.out hg2 rfl HO1.out (Nat.le_refl _) HB1.out.size); have hk := (HH.out.blk.keep (HB2.out.block g HH.out.blk.lt)); have k3 := hk.cell 3; have l3 := hk.frozen 3; simp at k3; obtain ⟨A2, c2, hv2, _⟩ := own_form hown2; clear hown2 hg2 hk; rw [hv2]; have HV2 := Lib.hid hv2; clear hv2))
  have HP := fresh_rest HH.out (by have := HO2.out; rw [List.nil_append] at this; exact this) HB2.out hbs
  rw [HV2.out] at HP
  simp only [Nat.zero_add] at HP
  have HPP := Lib.hid HP
  clear HP k3 l3 c3 c7
  go_loopw [6] (fun vo wr => ∃ (s' : St) (out : List Pk) (vr' : Value), Stage w base g most limit s' out vr' vo wr ∧ feedF most limit s' out = R ∧ s'.rest.length ≤ 268435456 ∧ out.length + s'.rest.length ≤ 268435456) (fun _ wr => lenAt wr g)
  case atStart => exact ⟨_, [], _, ⟨base, vb, HPP.out.1, ⟨[], World.ownsRow_nil _ _ _ _, trivial⟩, Nat.le_trans HPP.out.1.ge (Nat.le_of_lt HPP.out.1.blk.lt), fun k hk => (HPP.out.1.body.lt k hk).1, HPP.out.2⟩, HRR.out, by simp; have := HL.out; have := HR0.out; omega, by simp; have := HL.out; have := HR0.out; omega⟩
  case round =>
    obtain ⟨s', out, vr', hStg, hR, hrl, hol⟩ := hrel
    have HSt := Lib.hid hStg
    obtain ⟨S, vb', hP, hT, hS, hSb, hbel⟩ := hStg
    clear HH HPP HR HL HRR HRD0 HR0 HO1 HO2 HB1 HB2 HV2
    obtain ⟨Ar', cr', hvr, hrc, hcm, hrd⟩ := hP.rest.form
    obtain ⟨Ab, cb, hvb, hbc⟩ := own_form hP.body
    rw [bts_len] at hvr hrc
    subst hvr
    subst hvb
    have c0 := hP.blk.cell 0
    have c1 := hP.blk.cell 1
    have c2 := hP.blk.cell 2
    have c3 := hP.blk.cell 3
    have c4 := hP.blk.cell 4
    have c7 := hP.blk.cell 7
    have f7 := hP.blk.frozen 7
    simp at c0 c1 c2 c3 c4 c7
    have HP := Lib.hid hP
    have HT := Lib.hid hT
    have HRD := Lib.hid hrd
    have HR := Lib.hid hR
    clear hP hT hrd hR
    generalize hrln : s'.rest.length = rl at *
    have HRL := Lib.hid hrln
    clear hrln
    by_cases h4 : rl < 4
    · have hfin := feedF_short most limit s' out (by rw [HRL.out]; exact h4)
      rw [HR.out] at hfin
      subst hfin
      go_wp2
      go_ret2
      exact ⟨_, S, rfl, HT.out, hbel, hS⟩
    · have h4' : 4 ≤ rl := by omega
      have hC := wrong_any g most limit s'.next Ar' rl cr' Ab s'.body.length cb wr.heap.size s'.rest wr c0 c1 c2 c3 c4 HRL.out h4' (by omega) (by have := HP.out.lim; omega) HRD.out HP.out.bytes
      by_cases hw : wrongN most limit s'.rest s'.body.length s'.next = 0
      · rw [hw] at hC
        have HC := Lib.hid hC
        clear hC
        have hN := numB_bd HP.out.bytes 3
        obtain ⟨F, hF⟩ := Int.eq_ofNat_of_zero_le hN.1
        have hFn : frameN s' = F := by unfold frameN; rw [hF]; exact Int.toNat_natCast F
        have hF2 : F < 16777216 := by have := hN.2; rw [hF] at this; omega
        have hlim2 : (s'.body.length : Int) + F ≤ limit := by
          unfold wrongN at hw
          rw [hF] at hw
          split at hw
          · cases hw
          · split at hw
            · cases hw
            · split at hw
              · cases hw
              · omega
        have hFm : (F : Int) ≤ most := by
          unfold wrongN at hw
          rw [hF] at hw
          split at hw
          · cases hw
          · omega
        go_upto_region 10 with (first | (go_at_call 25; refine HC.out.mono ?_; rintro e w1 ⟨rfl, m, rfl⟩))
        have hSt2 := (HSt.out.drewN m).why
        generalize (wr.drewN m).setCell ⟨g, 7, none⟩ (.int .i64 0) = Wc at *
        obtain ⟨S2, vb2, hP2, hT2, hS2, hSb2, hB2⟩ := hSt2
        have HSt2 := Lib.hid (show Stage w base g most limit s' out (.slice Ar' rl cr') u6 Wc from ⟨S2, vb2, hP2, hT2, hS2, hSb2, hB2⟩)
        have hr2 : Rd Wc Wc.heap.size Ar' (bts s'.rest) := by
          obtain ⟨A0, c0, he, _, _, hrd0⟩ := hP2.rest.form
          injection he with hA _ _
          rw [hA]; exact hrd0
        obtain ⟨a, o, hAr, _, hc0⟩ := hr2 0 _ (bts_get s'.rest 0 (by rw [HRL.out]; omega))
        obtain ⟨_, _, e, _, hc1⟩ := hr2 1 _ (bts_get s'.rest 1 (by rw [HRL.out]; omega))
        rw [hAr] at e
        cases e
        obtain ⟨_, _, e, _, hc2⟩ := hr2 2 _ (bts_get s'.rest 2 (by rw [HRL.out]; omega))
        rw [hAr] at e
        cases e
        subst hAr
        have z0 := getD_byte HP.out.bytes 0
        have z1 := getD_byte HP.out.bytes 1
        have z2 := getD_byte HP.out.bytes 2
        have hNe : numB s'.rest 3 = s'.rest.getD 0 0 + s'.rest.getD 1 0 * 256 + s'.rest.getD 2 0 * 65536 := by simp [numB]
        rw [hF] at hNe
        rw [Nat.add_zero] at hc0
        have d3 := hP2.blk.cell 3
        simp at d3
        generalize s'.rest.getD 0 0 = b0 at *
        generalize s'.rest.getD 1 0 = b1 at *
        generalize s'.rest.getD 2 0 = b2 at *
        have z00 := z0.1
        have z01 := z0.2
        have z10 := z1.1
        have z11 := z1.2
        have z20 := z2.1
        have z21 := z2.2
        have hor : bits .or .i64 (bits .or .i64 b0 (b1 * 256)) (b2 * 65536) = (F : Int) := by
          have := or3_i64 z00 z01 z10 z11 z20 z21
          rw [this]; omega
        have j0 : 0 < rl := by omega
        have j1 : 1 < rl := by omega
        have j2 : 2 < rl := by omega
        have HFN := Lib.hid hFn
        have HW := Lib.hid hw
        clear hN hF hNe z0 z1 z2 hr2 c0 c1 c2 c3 c4 c7 f7 hP2 hT2 hS2 hSb2 hB2 hS hSb hbel hFn hw
        go_quiet (fail)
        by_cases hp : rl < 4 + F
        · have hfin := feedF_part most limit s' out (by rw [HRL.out]; exact h4') HW.out (by rw [HRL.out, HFN.out]; exact hp)
          rw [HR.out] at hfin
          subst hfin
          go_wp2
          obtain ⟨S3, vb3, _, hT3, hS3, _, hB3⟩ := HSt2.out
          go_ret2
          exact ⟨_, S3, rfl, told_keep hT3 (fun _ _ _ _ _ => rfl), below_drewN hB3 _, hS3⟩
        · have hst := feedF_step most limit s' out (by rw [HRL.out]; exact h4') HW.out (by rw [HRL.out, HFN.out]; omega)
          rw [HR.out] at hst
          have HST := Lib.hid hst
          have HLN := Lib.hid HSt.out.len
          have hSt3 := HSt2.out.drewN nq
          clear hst z00 z01 z10 z11 z20 z21 hor hc0 hc1 hc2 d3
          generalize Wc.drewN nq = Wd at *
          obtain ⟨S3, vb3, hP3, hT3, hS3, hSb3, hB3⟩ := hSt3
          have HSt3 := Lib.hid (show Stage w base g most limit s' out (.slice (some ⟨a, o, none⟩) rl cr') u6 Wd from ⟨S3, vb3, hP3, hT3, hS3, hSb3, hB3⟩)
          have c2 := hP3.blk.cell 2
          have c3 := hP3.blk.cell 3
          have c6 := hP3.blk.cell 6
          have c5 := hP3.blk.cell 5
          have f5 := hP3.blk.frozen 5
          simp at c2 c3 c5 c6
          clear hP3 hT3 hS3 hSb3 hB3
          go_upto_if 89 with (fail)
          go_cut [] from 24 to 161 (fun w' => Stage w base g most limit { s' with first := firstN s' } out (.slice (some ⟨a, o, none⟩) rl cr') u6 w')
          case first =>
            go_wp2
            · have hwi : s'.within = false := by simpa using ‹(!s'.within) = true›
              go_meet
              case rel => exact HSt3.out.first_no hwi
            · have hwi : s'.within = true := by simpa using ‹(!s'.within) = false›
              go_meet
              case rel => exact HSt3.out.first_yes hwi
          case rest =>
            obtain ⟨S, vb2, hPM, hTM, hSM, hSb, hBM⟩ := hcut
            obtain ⟨Ab, cb, hvb, hbc⟩ := own_form hPM.body
            subst hvb
            have HPM := Lib.hid hPM
            have HTM := Lib.hid hTM
            have d3 := hPM.blk.cell 3
            have d4 := hPM.blk.cell 4
            simp at d3 d4
            have HRd := Lib.hid ((((show Rd wc wc.heap.size (some ⟨a, o, none⟩) (bts s'.rest) from by
              obtain ⟨A0, c0, he, _, _, hrd0⟩ := hPM.rest.form
              injection he with hA _ _
              rw [hA]; exact hrd0).cut (k := 4) (c := cr') (by rw [bts_len, HRL.out]; exact hrc)).take F))
            have hbw : base ≤ wc.heap.size := Nat.le_trans hPM.ge (Nat.le_of_lt hPM.blk.lt)
            have HBM := Lib.hid hBM
            have HSM := Lib.hid hSM
            have HSb := Lib.hid hSb
            clear c2 c3 c5 c6 f5 hPM hTM hBM hSM hSb
            go_upto_region 15 with (fail)
            have e1 : IntKind.i64.wrap (4 + (F : Int)) = 4 + (F : Int) := IntWalk.i64_in _ (by omega)
            have e2 : 0 ≤ 4 + (F : Int) := by omega
            have e3 : (4 + (F : Int)).toNat = 4 + F := by omega
            have e4 : 4 + (F : Int) ≤ cr' := by omega
            have e5 : 4 ≤ 4 + (F : Int) := by omega
            have hnews : ((bts s'.rest).drop 4).take F = bts ((s'.rest.drop 4).take F) := by rw [← bts_drop, ← bts_take]
            have hnl : ((s'.rest.drop 4).take F).length = F := by rw [List.length_take, List.length_drop, HRL.out]; omega
            have HNW := Lib.hid (And.intro hnews hnl)
            clear hnews hnl
            go_cut [] from 24 to 161 (fun w' => Stage w base g most limit { s' with first := firstN s', body := s'.body ++ (s'.rest.drop 4).take F } out (.slice (some ⟨a, o, none⟩) rl cr') u6 w')
            case first =>
              go_region_law (refine step_append_rd _ rfl (.tmp 101) (.tmp 108) 22 rfl base 5 i0 (.int .u8 0) 1 1 Try.underlying22 hi0 hz0 hz1 hz2 rfl (by omega) (.slice Ab s'.body.length cb) s'.body.length (bts s'.body) rfl (World.ownsRow.drew HPM.out.body) wc.heap.size (if cr' = 4 then some ⟨a, o, none⟩ else some ⟨a, o + 4, none⟩) F (cr' - 4) (((bts s'.rest).drop 4).take F) rfl (by rw [List.length_take, List.length_drop, bts_len, HRL.out]; omega) (Rd.drew HRd.out) (fun u hu => bts_one s'.rest u (List.mem_of_mem_drop (List.mem_of_mem_take hu))) (by omega) (by omega) hbw ?_; intro v2 w2 hown2 hg2 hat2; have HG2 := Lib.hid (drew_grown hg2); have HA2 := Lib.hid hat2; have HO2 := Lib.hid hown2; have k4 := (Bk.keep (w := wc) HPM.out.blk (grow_keep hg2 (k := g) HPM.out.blk.lt (HPM.out.ne_body (by decide)))).cell 4; have l4 := (Bk.keep (w := wc) HPM.out.blk (grow_keep hg2 (k := g) HPM.out.blk.lt (HPM.out.ne_body (by decide)))).frozen 4; simp at k4; obtain ⟨A2, c2, hv2, _⟩ := own_form hown2; clear hown2 hg2 hat2; rw [hv2]; have HV2 := Lib.hid hv2; clear hv2)
              all_goals
                go_wp
                go_meet
                case rel =>
                  rw [← HV2.out]
                  exact ⟨S, v2, grow_body (news := (s'.rest.drop 4).take F) HPM.out (by rw [HNW.out.2, ← HNW.out.1]; exact HO2.out) HG2.out HA2.out (by rw [HNW.out.2]; exact hlim2),
                    told_grow HTM.out HPM.out.body HSb.out HG2.out HPM.out.blk 4 v2, by have := HG2.out.size; have := HSM.out; simp [World.setCell]; omega,
                    fun k hk => by
                      rcases HA2.out with ha | ha
                      · exact HSb.out k (ha ▸ hk)
                      · rw [ha] at hk; have := HSM.out; simp at hk; omega,
                    (HBM.out.grown HG2.out hbw (fun k hk => (HPM.out.body.lt k hk).1)).setCell (p := ⟨g, 4, none⟩) HPM.out.ge v2⟩
            case rest =>
              generalize (some (⟨a, o, none⟩ : Addr)) = Ax at hcut HLN
              have HN3 := Lib.hid (hcut.take (k := 4 + F) HRL.out (by omega) (by omega))
              obtain ⟨S3, vb3, hP3, _, _, _, _⟩ := hcut
              have q0 := hP3.blk.cell 0
              have q2 := hP3.blk.cell 2
              have q3 := hP3.blk.cell 3
              have q6 := hP3.blk.cell 6
              have g2 := hP3.blk.frozen 2
              have g3 := hP3.blk.frozen 3
              have g6 := hP3.blk.frozen 6
              have hn0 := hP3.next0
              have hn1 := hP3.next1
              simp at q0 q2 q3 q6 hn0 hn1
              have e6 : 4 + F ≤ rl := by omega
              have HLN2 := Lib.hid HN3.out.len
              clear hP3 d3 d4 e1 e2 e3 e5
              by_cases hFl : (F : Int) < most
              · have hst : stepS most s' = { rest := s'.rest.drop (4 + F), body := [], next := (s'.next + 1) % 256, first := firstN s', within := false } := by
                  unfold stepS; rw [HFN.out, if_pos hFl]
                have htd : toldS most s' = [⟨firstN s', (s'.next + 1) % 256, s'.body ++ (s'.rest.drop 4).take F⟩] := by
                  unfold toldS bodyN; rw [HFN.out, if_pos hFl]
                have HSS := Lib.hid (And.intro hst htd)
                clear hst htd
                have hbq : ((F : Int) == most) = false := by simp; omega
                go_wp
                have hN3 := HN3.out.with_ false
                generalize ((wc.setCell ⟨g, 3, none⟩ (.slice (if cr' = 4 + F then Ax else Ax.map (·.add (4 + F))) (rl - (4 + F)) (cr' - (4 + F)))).setCell ⟨g, 2, none⟩ (.int .u8 ((s'.next + 1) % 256))).setCell ⟨g, 6, none⟩ (.bool false) = W3 at *
                obtain ⟨S4, vb4, hP4, hT4, hS4, _, hB4⟩ := hN3
                obtain ⟨cs, hoc, hqc⟩ := hT4
                obtain ⟨A4, c4, hvb4, hbc4⟩ := own_form hP4.body
                have HP4 := Lib.hid hP4
                have HOC := Lib.hid hoc
                have HQC := Lib.hid hqc
                have HS4 := Lib.hid hS4
                have HB4 := Lib.hid hB4
                have t2 := hP4.blk.cell 2
                have t4 := hP4.blk.cell 4
                have t5 := hP4.blk.cell 5
                have hb4 : base ≤ W3.heap.size := Nat.le_trans hP4.ge (Nat.le_of_lt hP4.blk.lt)
                obtain ⟨bl, hbl⟩ : ∃ bl, vb4 = .slice A4 bl c4 := ⟨_, hvb4⟩
                simp at t2 t4 t5
                rw [hbl] at t4
                have HV4 := Lib.hid hbl
                clear hP4 hoc hqc hS4 hB4 hvb4 hbl q0 q2 q3 q6 g2 g3 g6 hn0 hn1
                have hol4 : out.length ≤ 4294967296 := by omega
                have hne4 : u6.ownBlock ≠ some g := by
                  intro e
                  obtain ⟨cur, hc⟩ := own_blk HOC.out e
                  exact HP4.out.blk.ne hc (by decide) rfl
                have HNE := Lib.hid hne4
                clear hne4
                go_cut [6] from 24 to 161 (fun v6 w' => w'.ownsRow base 41 3 v6 (out.length + 1) (cs ++ [.int .u8 (firstN s'), .int .u8 ((s'.next + 1) % 256), vb4]) ∧ W3.grownBy w' u6.ownBlock)
                case first =>
                  go_region_law (refine step_append_rd _ rfl (.tmp 143) (.tmp 157) 29 rfl base 41 i1 (.agg #[.int .u8 0, .int .u8 0, .slice none 0 0]) 3 32 Try.underlying29 hi1 hy0 hy1 hy2 rfl (by omega) u6 out.length cs rfl (World.ownsRow.drew (HOC.out.alloc _)) (W3.heap.size + 1) (some ⟨W3.heap.size, 0, none⟩) 1 1 [.int .u8 (firstN s'), .int .u8 ((s'.next + 1) % 256), .slice A4 bl c4] rfl rfl (Rd.drew (Rd.newC W3 _ 41)) (by intro u hu; simp at hu; rcases hu with rfl | rfl | rfl <;> rfl) (by omega) (by omega) (by simp; omega) ?_; intro v4 w4 hown4 hg4 hat4; have HO4 := Lib.hid hown4; have HG4 := Lib.hid (alloc_grown hg4); clear hown4 hg4 hat4)
                  all_goals
                    go_wp
                    go_meet
                    case rel => exact ⟨by rw [HV4.out]; exact HO4.out, HG4.out⟩
                case rest =>
                  obtain ⟨ho5, hg5⟩ := hcut
                  have hfin := told_seal HP4.out HOC.out HQC.out HS4.out ho5 hg5
                  have hb5 := Bk.keep (w := W3) HP4.out.blk (grow_keep hg5 HP4.out.blk.lt HNE.out)
                  have k4 := hb5.cell 4
                  have l4 := hb5.frozen 4
                  simp at k4
                  have hsz := hg5.size
                  have HFI := Lib.hid hfin
                  have HSZ := Lib.hid hsz
                  clear hfin ho5 hg5 hb5 t2 t4 t5 hsz
                  go_wp
                  obtain ⟨hfr, hft, hfb⟩ := HFI.out
                  refine ⟨⟨stepS most s', out ++ toldS most s', _, ⟨W3.heap.size, _, by rw [HSS.out.1]; exact hfr, by rw [HSS.out.2]; exact hft, by simp [World.setCell]; exact HSZ.out, fun k hk => by simp [Value.ownBlock] at hk, HB4.out.trans hfb⟩, HST.out.symm, ?_, ?_⟩, ?_⟩
                  · rw [HSS.out.1]; simp; have := HRL.out; omega
                  · rw [HSS.out.1, HSS.out.2]; simp; have := HRL.out; omega
                  · rw [HLN.out, lenAt_of hfr]; omega
              · have hst : stepS most s' = { rest := s'.rest.drop (4 + F), body := s'.body ++ (s'.rest.drop 4).take F, next := (s'.next + 1) % 256, first := firstN s', within := true } := by
                  unfold stepS bodyN; rw [HFN.out, if_neg hFl]
                have htd : toldS most s' = [] := by unfold toldS; rw [HFN.out, if_neg hFl]
                have HSS := Lib.hid (And.intro hst htd)
                clear hst htd
                have hbq : ((F : Int) == most) = true := by simp; omega
                go_wp
                refine ⟨⟨stepS most s', out, _, by rw [HSS.out.1]; exact HN3.out.with_ true, ?_, ?_, ?_⟩, ?_⟩
                · have := HST.out; rw [HSS.out.2, List.append_nil] at this; exact this.symm
                · rw [HSS.out.1]; simp; have := HRL.out; omega
                · rw [HSS.out.1]; simp; have := HRL.out; omega
                · rw [HLN.out, (HN3.out.with_ true).len]; omega
      · have hfin := feedF_wrong most limit s' out (by rw [HRL.out]; exact h4') hw
        rw [HR.out] at hfin
        have hwne : (wrongN most limit s'.rest s'.body.length s'.next != 0) = true := by simp [hw]
        have HC := Lib.hid hC
        clear hC
        generalize wrongN most limit s'.rest s'.body.length s'.next = W at *
        subst hfin
        have f3 := HP.out.blk.frozen 3
        have f4 := HP.out.blk.frozen 4
        clear hw
        go_wp2_with (go_at_call 25; refine HC.out.mono ?_; rintro e w1 ⟨rfl, m, rfl⟩)
        go_quiet (fail)
        go_wp2
        go_ret2
        refine ⟨_, S, rfl, told_keep (told_set (m := 0) (told_set (m := 0) (told_set HT.out HP.out.blk m 7 (.int .i64 W)) ((HP.out.drewN m).blk.set 7 _) 3 (.slice none 0 0)) (((HP.out.drewN m).blk.set 7 _).set 3 _) 4 (.slice none 0 0)) (fun _ _ _ _ _ => rfl), below_drewN ((((below_drewN hbel m).setCell (p := ⟨g, 7, none⟩) HP.out.ge _).setCell (p := ⟨g, 3, none⟩) HP.out.ge _).setCell (p := ⟨g, 4, none⟩) HP.out.ge _) _, ?_⟩
        simp [World.setCell]
        exact hS

end Go.Proofs.Ytmggelebnghkfaa.RefR
