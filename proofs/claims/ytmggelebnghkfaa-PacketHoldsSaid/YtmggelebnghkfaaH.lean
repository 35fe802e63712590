/- The contract of (*packet.Reader).Feed: it answers what the plain function feedF answers, and leaves the reader in the state that feedF tells. -/
import Derived.Test.YtmggelebnghkfaaG
import Derived.Test.YtmggelebnghkfaaC
import Derived.Deep.DeepMust
import Derived.IntWalk
namespace Go.Proofs.Ytmggelebnghkfaa
open Go.RowKit

theorem inf41 : (Try.prog.info? 41).map (fun i => (i.zero, i.size, i.bytes)) = some (some (.agg #[.int .u8 0, .int .u8 0, .slice none 0 0]), 3, 32) := by kernel_rfl

/-- How much the reader's slice of bytes holds: for the loop's measure. -/
def lenAt (w : World) (g : Nat) : Nat := match w.cell? ⟨g, 3, none⟩ with
  | some (.slice _ k _) => k
  | _ => 0

/-- What is told so far: a list of packets of the call's own, their payloads in rows below S. -/
def Told (w : World) (base S : Nat) (vo : Value) (out : List Pk) : Prop :=
  ∃ cs, w.ownsRow base 41 3 vo out.length cs ∧ PkQ (fun v b => SlO w base 5 v (bts b) ∧ ∀ k, v.ownBlock = some k → k < S) cs out

/-- What a call of Feed comes to. -/
def FeedPost (R : St × List Pk × Int) (base g : Nat) (most limit : Int) (w : World) (e : Ending) (w' : World) : Prop :=
  ∃ vo S vr' vb', e = .returned (.tuple #[vo, .int .i64 R.2.2]) ∧ Told w' base S vo R.2.1 ∧ RdrP w' base g 51 most limit R.1 R.2.2 vr' vb' ∧ Below base w w' ∧ S ≤ w'.heap.size

theorem told_keep {w w' : World} {base S : Nat} {vo : Value} {out : List Pk} (h : Told w base S vo out) (hk : ∀ k t cur, Bk w k t cur → (t = 5 ∧ k < S) ∨ t = 41 → w'.heap[k]? = w.heap[k]?) : Told w' base S vo out := by
  obtain ⟨cs, h1, h2⟩ := h
  refine ⟨cs, own_keep h1 fun k hk' => ?_, h2.mono fun v b ⟨h3, h4⟩ => ⟨h3.keep fun k hk' => ?_, h4⟩⟩
  · obtain ⟨cur, hc⟩ := own_blk h1 hk'
    exact hk k 41 cur hc (.inr rfl)
  · obtain ⟨cur, hc⟩ := h3.blk hk'
    exact hk k 5 cur hc (.inl ⟨rfl, h4 k hk'⟩)

theorem told_set {w : World} {base S g : Nat} {vo : Value} {out : List Pk} {cs : Array Value} (h : Told w base S vo out) (hg : Bk w g 51 cs) (m i : Nat) (u : Value) : Told ((w.drewN m).setCell ⟨g, i, none⟩ u) base S vo out :=
  told_keep h fun k t cur hb ht => heap_setCell_other _ _ _ _ (fun e => by
    have e : k = g := e
    subst e
    have := hb.ne hg (by rcases ht with ⟨rfl, _⟩ | rfl <;> decide)
    exact this rfl)

theorem stop_set {w : World} {base g : Nat} {most limit stop : Int} {s : St} {vr vb : Value} (h : RdrP w base g 51 most limit s stop vr vb) (e : Int) : RdrP (w.setCell ⟨g, 7, none⟩ (.int .i64 e)) base g 51 most limit s e vr vb :=
  ⟨h.blk.set 7 _, h.ge, (h.slices_set (by decide) 7 _).1, (h.slices_set (by decide) 7 _).2, h.apart, h.bytes, h.next0, h.next1, h.lim⟩

theorem within_set {w : World} {base g : Nat} {most limit stop : Int} {s : St} {vr vb : Value} (h : RdrP w base g 51 most limit s stop vr vb) :
    RdrP ((w.setCell ⟨g, 6, none⟩ (.bool true)).setCell ⟨g, 5, none⟩ (.int .u8 s.next)) base g 51 most limit { s with within := true, first := s.next } stop vr vb := by
  have h1 : RdrP (w.setCell ⟨g, 6, none⟩ (.bool true)) base g 51 most limit { s with within := true } stop vr vb :=
    ⟨h.blk.set 6 _, h.ge, (h.slices_set (by decide) 6 _).1, (h.slices_set (by decide) 6 _).2, h.apart, h.bytes, h.next0, h.next1, h.lim⟩
  exact ⟨h1.blk.set 5 _, h.ge, (h1.slices_set (by decide) 5 _).1, (h1.slices_set (by decide) 5 _).2, h.apart, h.bytes, h.next0, h.next1, h.lim⟩

theorem grow_body {w w2 : World} {base g : Nat} {most limit : Int} {s : St} {vr vb v2 : Value} {news : List Int} (h : RdrP w base g 51 most limit s 0 vr vb)
    (ho : w2.ownsRow base 5 1 v2 (s.body.length + news.length) (bts s.body ++ bts news)) (hg : w.grownBy w2 vb.ownBlock) (ha : v2.ownBlock = vb.ownBlock ∨ v2.ownBlock = some w.heap.size) (hlim : (s.body.length : Int) + news.length ≤ limit) :
    RdrP (w2.setCell ⟨g, 4, none⟩ v2) base g 51 most limit { s with body := s.body ++ news } 0 vr v2 := by
  have hblk : Bk w2 g 51 _ := h.blk.keep (grow_keep hg h.blk.lt (h.ne_body (by decide)))
  have hv2g : v2.ownBlock ≠ some g := by
    intro e
    obtain ⟨cur, hc⟩ := own_blk ho e
    exact hblk.ne hc (by decide) rfl
  refine ⟨hblk.set 4 v2, h.ge, ?_, ?_, ?_, h.bytes, h.next0, h.next1, by simp; omega⟩
  · refine h.rest.keep fun k hk => ?_
    rw [heap_setCell_other _ _ _ _ (fun e => h.ne_rest (by decide) (by rw [hk, e]))]
    exact grow_keep hg (h.rest.lt k hk).2 (h.apart k hk)
  · have := own_far ho (p := ⟨g, 4, none⟩) hv2g v2
    rw [bts_app, List.length_append]
    exact this
  · intro k hk e
    rcases ha with ha | ha
    · exact h.apart k hk (ha ▸ e)
    · rw [ha] at e
      have := (h.rest.lt k hk).2
      simp at e
      omega

theorem told_grow {w w2 : World} {base S g n : Nat} {vo vb : Value} {out : List Pk} {xs : List Value} {cs : Array Value} (h : Told w base S vo out) (hb : w.ownsRow base 5 1 vb n xs) (hS : ∀ k, vb.ownBlock = some k → S ≤ k)
    (hg : w.grownBy w2 vb.ownBlock) (hk : Bk w g 51 cs) (i : Nat) (u : Value) : Told (w2.setCell ⟨g, i, none⟩ u) base S vo out :=
  told_keep h fun k t cur hc ht => by
    have hne : k ≠ g := fun e => by
      subst e
      exact hc.ne hk (by rcases ht with ⟨rfl, _⟩ | rfl <;> decide) rfl
    rw [heap_setCell_other _ _ _ _ hne]
    refine grow_keep hg hc.lt fun e => ?_
    rcases ht with ⟨_, hlt⟩ | rfl
    · have := hS k e; omega
    · obtain ⟨cur', hc'⟩ := own_blk hb e
      exact hc.ne hc' (by decide) rfl

theorem take_rest {w : World} {base g rl cr k : Nat} {most limit : Int} {s : St} {Ar : Option Addr} {vb : Value} (h : RdrP w base g 51 most limit s 0 (.slice Ar rl cr) vb) (hl : s.rest.length = rl) (hk : k ≤ rl) (h0 : 0 < rl) :
    RdrP ((w.setCell ⟨g, 3, none⟩ (.slice (if cr = k then Ar else Ar.map (·.add k)) (rl - k) (cr - k))).setCell ⟨g, 2, none⟩ (.int .u8 ((s.next + 1) % 256))) base g 51 most limit
      { s with rest := s.rest.drop k, next := (s.next + 1) % 256 } 0 (.slice (if cr = k then Ar else Ar.map (·.add k)) (rl - k) (cr - k)) vb := by
  have hcut := h.rest.cut (A := Ar) (c := cr) (by rw [bts_len, hl]) (k := k) (by rw [bts_len, hl]; exact hk) (by rw [bts_len, hl]; exact h0)
  rw [bts_len, hl, ← bts_drop] at hcut
  have hob : (Value.slice (if cr = k then Ar else Ar.map (·.add k)) (rl - k) (cr - k)).ownBlock = (Value.slice Ar rl cr).ownBlock := by
    cases Ar with
    | none => split <;> rfl
    | some a =>
      split
      · rfl
      · simp only [Option.map_some, Value.ownBlock, Option.some.injEq]; unfold Addr.add; split <;> rfl
  have h1 : RdrP (w.setCell ⟨g, 3, none⟩ (.slice (if cr = k then Ar else Ar.map (·.add k)) (rl - k) (cr - k))) base g 51 most limit { s with rest := s.rest.drop k } 0 (.slice (if cr = k then Ar else Ar.map (·.add k)) (rl - k) (cr - k)) vb := by
    refine ⟨h.blk.set 3 _, h.ge, hcut.keep fun j hj => heap_setCell_other _ _ _ _ (fun e => h.ne_rest (by decide) ?_), own_far h.body (h.ne_body (by decide)) _, fun j hj => h.apart j (hob ▸ hj), fun z hz => h.bytes z (List.mem_of_mem_drop hz), h.next0, h.next1, h.lim⟩
    rw [← hob, hj, e]
  exact ⟨h1.blk.set 2 _, h.ge, (h1.slices_set (by decide) 2 _).1, (h1.slices_set (by decide) 2 _).2, h1.apart, h1.bytes, by show 0 ≤ (s.next + 1) % 256; omega, by show (s.next + 1) % 256 ≤ 255; omega, h1.lim⟩

theorem lenAt_of {w : World} {base g rl cr : Nat} {t : TypeId} {most limit stop : Int} {s : St} {Ar : Option Addr} {vb : Value} (h : RdrP w base g t most limit s stop (.slice Ar rl cr) vb) : lenAt w g = rl := by
  unfold lenAt
  rw [h.blk.cell 3]
  rfl

theorem drew_grown {w w' : World} {row : Option Nat} (h : w.drew.grownBy w' row) : w.grownBy w' row := ⟨h.os, h.tape, h.output, h.size, h.block⟩

theorem alloc_grown {w w' : World} {o : Obj} {row : Option Nat} (h : (w.alloc o).drew.grownBy w' row) : w.grownBy w' row :=
  ⟨h.os, h.tape, h.output, Nat.le_trans (by simp) h.size, fun k hk hne => (h.block k (Nat.lt_of_lt_of_le hk (by simp)) hne).trans (Below.heap_alloc w o k hk)⟩

theorem Rd.newC (w : World) (l : List Value) (t : TypeId) : Rd (w.alloc (.cells l.toArray t)) (w.heap.size + 1) (some ⟨w.heap.size, 0, none⟩) l := by
  intro j u hu
  exact ⟨_, _, rfl, by omega, by rw [cell_of_row _ _ _ _ _ _ (heap_alloc_new w _)]; simpa using hu⟩

theorem told_seal {W w4 : World} {base g S : Nat} {most limit : Int} {s : St} {vr vb vo v4 : Value} {out : List Pk} {cs : List Value} (h : RdrP W base g 51 most limit s 0 vr vb)
    (ho : W.ownsRow base 41 3 vo out.length cs) (hq : PkQ (fun v b => SlO W base 5 v (bts b) ∧ ∀ k, v.ownBlock = some k → k < S) cs out) (hS : S ≤ W.heap.size)
    (ho4 : w4.ownsRow base 41 3 v4 (out.length + 1) (cs ++ [.int .u8 s.first, .int .u8 s.next, vb])) (hg : W.grownBy w4 vo.ownBlock) :
    RdrP ((w4.setCell ⟨g, 4, none⟩ (.slice none 0 0)).setCell ⟨g, 6, none⟩ (.bool false)) base g 51 most limit { s with body := [], within := false } 0 vr (.slice none 0 0) ∧
    Told ((w4.setCell ⟨g, 4, none⟩ (.slice none 0 0)).setCell ⟨g, 6, none⟩ (.bool false)) base W.heap.size v4 (out ++ [⟨s.first, s.next, s.body⟩]) ∧
    Below base W ((w4.setCell ⟨g, 4, none⟩ (.slice none 0 0)).setCell ⟨g, 6, none⟩ (.bool false)) := by
  have hne : ∀ {k t : Nat} {cur : Array Value}, Bk W k t cur → t ≠ 41 → vo.ownBlock ≠ some k := by
    intro k t cur hk ht e
    obtain ⟨cur', hc⟩ := own_blk ho e
    exact hk.ne hc ht rfl
  have hkeep : ∀ {k t : Nat} {cur : Array Value}, Bk W k t cur → t ≠ 41 → w4.heap[k]? = W.heap[k]? := fun hk ht => grow_keep hg hk.lt (hne hk ht)
  have hblk4 : Bk w4 g 51 _ := h.blk.keep (hkeep h.blk (by decide))
  have hfar : ∀ {k t : Nat} {cur : Array Value}, Bk W k t cur → t ≠ 51 → k ≠ g := by
    rintro k t cur hk ht rfl
    exact hk.ne h.blk ht rfl
  have hrest : SlO ((w4.setCell ⟨g, 4, none⟩ (.slice none 0 0)).setCell ⟨g, 6, none⟩ (.bool false)) base 5 vr (bts s.rest) := h.rest.keep fun k hk => by
    obtain ⟨cur, hc⟩ := h.rest.blk hk
    rw [heap_setCell_other _ _ _ _ (hfar hc (by decide)), heap_setCell_other _ _ _ _ (hfar hc (by decide))]
    exact hkeep hc (by decide)
  have hb5 : ∀ v b, SlO W base 5 v (bts b) → SlO ((w4.setCell ⟨g, 4, none⟩ (.slice none 0 0)).setCell ⟨g, 6, none⟩ (.bool false)) base 5 v (bts b) := fun v b hv => hv.keep fun k hk => by
    obtain ⟨cur, hc⟩ := hv.blk hk
    rw [heap_setCell_other _ _ _ _ (hfar hc (by decide)), heap_setCell_other _ _ _ _ (hfar hc (by decide))]
    exact hkeep hc (by decide)
  refine ⟨⟨(hblk4.set 4 _).set 6 _, h.ge, hrest, World.ownsRow_nil _ _ _ _, fun k _ e => by simp [Value.ownBlock] at e, h.bytes, h.next0, h.next1, ?_⟩, ⟨cs ++ [.int .u8 s.first, .int .u8 s.next, vb], ?_, ?_⟩, ?_⟩
  · have := h.lim; show (([] : List Int).length : Int) ≤ limit; simp only [List.length_nil]; omega
  · have h4g : v4.ownBlock ≠ some g := by
      intro e
      obtain ⟨cur, hc⟩ := own_blk ho4 e
      exact hblk4.ne hc (by decide) rfl
    have := own_far (own_far ho4 (p := ⟨g, 4, none⟩) h4g (.slice none 0 0)) (p := ⟨g, 6, none⟩) h4g (.bool false)
    rw [List.length_append]
    exact this
  · have hnew : PkQ (fun v b => SlO ((w4.setCell ⟨g, 4, none⟩ (.slice none 0 0)).setCell ⟨g, 6, none⟩ (.bool false)) base 5 v (bts b) ∧ ∀ k, v.ownBlock = some k → k < W.heap.size) [.int .u8 s.first, .int .u8 s.next, vb] [⟨s.first, s.next, s.body⟩] :=
      ⟨⟨rfl, rfl, hb5 _ _ (SlO.of_own h.body), fun k hk => (h.body.lt k hk).2⟩, trivial⟩
    exact PkQ.app hnew (hq.mono fun v b ⟨h1, h2⟩ => ⟨hb5 _ _ h1, fun k hk => Nat.lt_of_lt_of_le (h2 k hk) hS⟩)
  · exact ((((Below.refl base W).grown hg (Nat.le_trans h.ge (Nat.le_of_lt h.blk.lt)) (fun k hk => (ho.lt k hk).1)).setCell (p := ⟨g, 4, none⟩) h.ge _).setCell (p := ⟨g, 6, none⟩) h.ge _)

/-- A reader in the middle of a call: its state, its slice of bytes, what was told so far. -/
def Stage (w : World) (base g : Nat) (most limit : Int) (s : St) (out : List Pk) (vr vo : Value) (w' : World) : Prop :=
  ∃ S vb, RdrP w' base g 51 most limit s 0 vr vb ∧ Told w' base S vo out ∧ S ≤ w'.heap.size ∧ (∀ k, vb.ownBlock = some k → S ≤ k) ∧ Below base w w'

theorem Stage.drewN {w w' : World} {base g : Nat} {most limit : Int} {s : St} {out : List Pk} {vr vo : Value} (h : Stage w base g most limit s out vr vo w') (m : Nat) : Stage w base g most limit s out vr vo (w'.drewN m) := by
  obtain ⟨S, vb, h1, h2, h3, h4, h5⟩ := h
  exact ⟨S, vb, h1.drewN m, told_keep h2 (fun _ _ _ _ _ => rfl), h3, h4, below_drewN h5 m⟩

theorem Stage.within_yes {w w' : World} {base g : Nat} {most limit : Int} {s : St} {out : List Pk} {vr vo : Value} (h : Stage w base g most limit s out vr vo w') (hw : s.within = true) :
    Stage w base g most limit { s with within := true, first := firstN s } out vr vo w' := by
  have e : ({ s with within := true, first := firstN s } : St) = s := by unfold firstN; rw [if_pos hw]; cases s; simp at hw; subst hw; rfl
  rw [e]; exact h

theorem Stage.within_no {w w' : World} {base g : Nat} {most limit : Int} {s : St} {out : List Pk} {vr vo : Value} (h : Stage w base g most limit s out vr vo w') (hw : s.within = false) :
    Stage w base g most limit { s with within := true, first := firstN s } out vr vo ((w'.setCell ⟨g, 6, none⟩ (.bool true)).setCell ⟨g, 5, none⟩ (.int .u8 s.next)) := by
  obtain ⟨S, vb, h1, h2, h3, h4, h5⟩ := h
  have e : firstN s = s.next := by unfold firstN; rw [hw]; rfl
  rw [e]
  exact ⟨S, vb, within_set h1, told_set (m := 0) (told_set (m := 0) h2 h1.blk 6 _) (h1.blk.set 6 _) 5 _, by simp [World.setCell]; exact h3, h4, (h5.setCell (p := ⟨g, 6, none⟩) h1.ge _).setCell (p := ⟨g, 5, none⟩) h1.ge _⟩

theorem Stage.take {w w' : World} {base g rl cr k : Nat} {most limit : Int} {s : St} {out : List Pk} {Ar : Option Addr} {vo : Value} (h : Stage w base g most limit s out (.slice Ar rl cr) vo w') (hl : s.rest.length = rl) (hk : k ≤ rl) (h0 : 0 < rl) :
    Stage w base g most limit { s with rest := s.rest.drop k, next := (s.next + 1) % 256 } out (.slice (if cr = k then Ar else Ar.map (·.add k)) (rl - k) (cr - k)) vo
      ((w'.setCell ⟨g, 3, none⟩ (.slice (if cr = k then Ar else Ar.map (·.add k)) (rl - k) (cr - k))).setCell ⟨g, 2, none⟩ (.int .u8 ((s.next + 1) % 256))) := by
  obtain ⟨S, vb, h1, h2, h3, h4, h5⟩ := h
  exact ⟨S, vb, take_rest h1 hl hk h0, told_set (m := 0) (told_set (m := 0) h2 h1.blk 3 _) (h1.blk.set 3 _) 2 _, by simp [World.setCell]; exact h3, h4, (h5.setCell (p := ⟨g, 3, none⟩) h1.ge _).setCell (p := ⟨g, 2, none⟩) h1.ge _⟩

theorem Stage.len {w w' : World} {base g rl cr : Nat} {most limit : Int} {s : St} {out : List Pk} {Ar : Option Addr} {vo : Value} (h : Stage w base g most limit s out (.slice Ar rl cr) vo w') : lenAt w' g = rl := by
  obtain ⟨S, vb, h1, _⟩ := h
  exact lenAt_of h1

set_option maxHeartbeats 1600000 in
set_option maxRecDepth 100000 in
theorem feed_any (g base : Nat) (most limit : Int) (s : St) (vr vb : Value) (A : Option Addr) (n c B : Nat) (bs : List Int) (w : World)
    (h : RdrP w base g 51 most limit s 0 vr vb) (hl : bs.length = n) (hr : Rd w B A (bts bs)) (_hB : B ≤ base) (hbs : ∀ z ∈ bs, 0 ≤ z ∧ z ≤ 255) (hn : s.rest.length + n ≤ 268435456)
    (hm1 : 1 ≤ most) (hm2 : most ≤ 16777215) (hl0 : 0 ≤ limit) (hl1 : limit ≤ 1073741824) :
    Calls Try.prog 15 #[.pointer (some ⟨g, 0, none⟩), .slice A n c] w (FeedPost (feedF most limit { s with rest := s.rest ++ bs } []) base g most limit w) := by
  obtain ⟨i0, hi0, hz0, hz1, hz2⟩ := info_parts inf5
  obtain ⟨i1, hi1, hy0, hy1, hy2⟩ := info_parts inf41
  have HR := Lib.hid hr
  have HL := Lib.hid hl
  have HH := Lib.hid h
  generalize hRR : feedF most limit { s with rest := s.rest ++ bs } [] = R at *
  have HRR := Lib.hid hRR
  have c0 := h.blk.cell 0
  have c3 := h.blk.cell 3
  have c7 := h.blk.cell 7
  have f3 := h.blk.frozen 3
  simp at c0 c3 c7
  obtain ⟨Ar, cr, hvr, _⟩ := h.rest.form
  have HVR := Lib.hid hvr
  clear hr hl h hRR hvr
  have hBw : base ≤ w.heap.size := Nat.le_trans HH.out.ge (Nat.le_of_lt HH.out.blk.lt)
  go_enter Try.func15, Try.ntmps15
  go_wp2_with (first
    | (go_at_call 22; refine (none_no g most w c0 hm1).mono ?_; rintro e w1 ⟨rfl, rfl⟩)
    | (at_builtin; go_must (refine wpList_append_slo _ rfl (.tmp 22) (.tmp 23) 22 rfl base 5 i0 (.int .u8 0) Try.underlying22 hi0 hz0 hz1 hz2 rfl vr (bts s.rest) rfl HH.out.rest B A n c (bts bs) rfl (by rw [bts_len, HL.out]) HR.out (bts_one _) (by rw [bts_len, bts_len, HL.out]; omega) hBw ?_); go_must (intro v1 w1 hs1 hg1 ha1; obtain ⟨A1, c1, hv1, _⟩ := hs1.form; have HV1 := Lib.hid hv1; have k3 := (HH.out.blk.grown hg1 (fun e => HH.out.ne_rest (by decide) e.symm)).cell 3; have l3 := (HH.out.blk.grown hg1 (fun e => HH.out.ne_rest (by decide) e.symm)).frozen 3; simp at k3; have HS1 := Lib.hid hs1; clear hs1; rw [hv1]; clear hv1)))
  have HA1 := Lib.hid ha1
  have HG1 := Lib.hid hg1
  clear ha1 hg1 k3 l3 c0 c3 c7 f3
  have HP := HH.out.grow_rest (by decide) HS1.out HG1.out HA1.out hbs
  rw [HV1.out] at HP
  simp only [List.length_append] at HP
  have HPP := Lib.hid HP
  clear HP HA1 HG1 HS1 HV1
  go_loopw [6] (fun vo wr => ∃ (s' : St) (out : List Pk) (vr' : Value), Stage w base g most limit s' out vr' vo wr ∧ feedF most limit s' out = R ∧ s'.rest.length ≤ 268435456 ∧ out.length + s'.rest.length ≤ 268435456) (fun _ wr => lenAt wr g)
  case atStart => exact ⟨_, [], _, ⟨base, vb, HPP.out.1, ⟨[], World.ownsRow_nil _ _ _ _, trivial⟩, Nat.le_trans HPP.out.1.ge (Nat.le_of_lt HPP.out.1.blk.lt), fun k hk => (HPP.out.1.body.lt k hk).1, HPP.out.2⟩, HRR.out, by simp; have := HL.out; omega, by simp; have := HL.out; omega⟩
  case round =>
    obtain ⟨s', out, vr', hStg, hR, hrl, hol⟩ := hrel
    have HSt := Lib.hid hStg
    obtain ⟨S, vb', hP, hT, hS, hSb, hbel⟩ := hStg
    clear HH HPP HR HL HRR HVR
    obtain ⟨Ar, cr, hvr, hrc, hcm, hrd⟩ := hP.rest.form
    obtain ⟨Ab, cb, hvb, hbc⟩ := own_form hP.body
    rw [bts_len] at hvr hrc
    subst hvr
    subst hvb
    have c0 := hP.blk.cell 0
    have c1 := hP.blk.cell 1
    have c2 := hP.blk.cell 2
    have c3 := hP.blk.cell 3
    have c4 := hP.blk.cell 4
    have c6 := hP.blk.cell 6
    simp at c0 c1 c2 c3 c4 c6
    have HP := Lib.hid hP
    have HT := Lib.hid hT
    have HRD := Lib.hid hrd
    have HR := Lib.hid hR
    clear hP hT hrd hR
    generalize hrln : s'.rest.length = rl at *
    have HRL := Lib.hid hrln
    clear hrln
    by_cases h4 : rl < 4
    · have hfin := feedF_short most limit s' out (by rw [HRL.out]; exact h4)
      rw [HR.out] at hfin
      subst hfin
      go_wp2
      go_ret2
      exact ⟨_, S, _, _, rfl, HT.out, HP.out, hbel, hS⟩
    · have h4' : 4 ≤ rl := by omega
      by_cases hw : wrongN most limit s'.rest s'.body.length s'.next = 0
      · have hN := numB_bd HP.out.bytes 3
        obtain ⟨F, hF⟩ := Int.eq_ofNat_of_zero_le hN.1
        have hFn : frameN s' = F := by unfold frameN; rw [hF]; exact Int.toNat_natCast F
        have hF2 : F < 16777216 := by have := hN.2; rw [hF] at this; omega
        have hC := checked_ok g most limit s'.next Ar rl cr Ab s'.body.length cb wr.heap.size s'.rest wr c0 c1 c2 c3 c4 HRL.out h4' (by omega) (by have := HP.out.lim; omega) HRD.out HP.out.bytes hw
        rw [hF] at hC
        have HC := Lib.hid hC
        have hlim2 : (s'.body.length : Int) + F ≤ limit := by
          unfold wrongN at hw
          rw [hF] at hw
          split at hw
          · cases hw
          · split at hw
            · cases hw
            · split at hw
              · cases hw
              · omega
        have hFm : (F : Int) ≤ most := by
          unfold wrongN at hw
          rw [hF] at hw
          split at hw
          · cases hw
          · omega
        clear hN hF hC
        by_cases hp : rl < 4 + F
        · have hfin := feedF_part most limit s' out (by rw [HRL.out]; exact h4') hw (by rw [HRL.out, hFn]; exact hp)
          rw [HR.out] at hfin
          subst hfin
          clear hw hFn
          go_wp2_with (go_at_call 23; refine HC.out.mono ?_; rintro e w1 ⟨rfl, m, rfl⟩)
          go_ret2
          exact ⟨_, S, _, _, rfl, told_keep HT.out (fun _ _ _ _ _ => rfl), HP.out.drewN m, below_drewN hbel m, hS⟩
        · have hst := feedF_step most limit s' out (by rw [HRL.out]; exact h4') hw (by rw [HRL.out, hFn]; omega)
          rw [HR.out] at hst
          have HST := Lib.hid hst
          have HFN := Lib.hid hFn
          clear hst hFn hw
          have c5 := HP.out.blk.cell 5
          have f5 := HP.out.blk.frozen 5
          have f6 := HP.out.blk.frozen 6
          simp at c5
          clear hS hSb hbel
          go_upto_if 58 with (first | (go_at_call 23; refine HC.out.mono ?_; rintro e w1 ⟨rfl, m, rfl⟩))
          go_cut [] from 27 to 128 (fun w' => Stage w base g most limit { s' with within := true, first := firstN s' } out (.slice Ar rl cr) u6 w')
          case first =>
            have hSt2 := HSt.out.drewN m
            go_wp2
            · have hwi : s'.within = false := by simpa using ‹(!s'.within) = true›
              go_meet
              case rel => exact hSt2.within_no hwi
            · have hwi : s'.within = true := by simpa using ‹(!s'.within) = false›
              go_meet
              case rel => exact hSt2.within_yes hwi
          case rest =>
            obtain ⟨S, vb2, hPM, hTM, hSM, hSb, hBM⟩ := hcut
            obtain ⟨Ab, cb, hvb, hbc⟩ := own_form hPM.body
            subst hvb
            have HPM := Lib.hid hPM
            have HTM := Lib.hid hTM
            have d3 := hPM.blk.cell 3
            have d4 := hPM.blk.cell 4
            simp at d3 d4
            have HRd := Lib.hid ((((show Rd wc wc.heap.size Ar (bts s'.rest) from by
              obtain ⟨A0, c0, he, _, _, hrd0⟩ := hPM.rest.form
              injection he with hA _ _
              rw [hA]; exact hrd0).cut (k := 4) (c := cr) (by rw [bts_len, HRL.out]; exact hrc)).take F))
            have hbw : base ≤ wc.heap.size := Nat.le_trans hPM.ge (Nat.le_of_lt hPM.blk.lt)
            have HBM := Lib.hid hBM
            have HSM := Lib.hid hSM
            have HSb := Lib.hid hSb
            clear c0 c1 c2 c3 c4 c5 c6 f5 f6 hPM hTM hBM hSM hSb
            go_upto_region 15 with (fail)
            have e1 : IntKind.i64.wrap (4 + (F : Int)) = 4 + (F : Int) := IntWalk.i64_in _ (by omega)
            have e2 : 0 ≤ 4 + (F : Int) := by omega
            have e3 : (4 + (F : Int)).toNat = 4 + F := by omega
            have e4 : 4 + (F : Int) ≤ cr := by omega
            have e5 : 4 ≤ 4 + (F : Int) := by omega
            have hnews : ((bts s'.rest).drop 4).take F = bts ((s'.rest.drop 4).take F) := by rw [← bts_drop, ← bts_take]
            have hnl : ((s'.rest.drop 4).take F).length = F := by rw [List.length_take, List.length_drop, HRL.out]; omega
            have HNW := Lib.hid (And.intro hnews hnl)
            clear hnews hnl
            go_cut [] from 27 to 128 (fun w' => Stage w base g most limit { s' with within := true, first := firstN s', body := s'.body ++ (s'.rest.drop 4).take F } out (.slice Ar rl cr) u6 w')
            case first =>
              go_region_law (refine step_append_rd _ rfl (.tmp 73) (.tmp 80) 22 rfl base 5 i0 (.int .u8 0) 1 1 Try.underlying22 hi0 hz0 hz1 hz2 rfl (by omega) (.slice Ab s'.body.length cb) s'.body.length (bts s'.body) rfl (World.ownsRow.drew HPM.out.body) wc.heap.size (if cr = 4 then Ar else Ar.map (·.add 4)) F (cr - 4) (((bts s'.rest).drop 4).take F) rfl (by rw [List.length_take, List.length_drop, bts_len, HRL.out]; omega) (Rd.drew HRd.out) (fun u hu => bts_one s'.rest u (List.mem_of_mem_drop (List.mem_of_mem_take hu))) (by omega) (by omega) hbw ?_; intro v2 w2 hown2 hg2 hat2; have HG2 := Lib.hid (drew_grown hg2); have HA2 := Lib.hid hat2; have HO2 := Lib.hid hown2; have k4 := (Bk.keep (w := wc) HPM.out.blk (grow_keep hg2 (k := g) HPM.out.blk.lt (HPM.out.ne_body (by decide)))).cell 4; have l4 := (Bk.keep (w := wc) HPM.out.blk (grow_keep hg2 (k := g) HPM.out.blk.lt (HPM.out.ne_body (by decide)))).frozen 4; simp at k4; obtain ⟨A2, c2, hv2, _⟩ := own_form hown2; clear hown2 hg2 hat2; rw [hv2]; have HV2 := Lib.hid hv2; clear hv2)
              all_goals
                go_wp
                go_meet
                case rel =>
                  rw [← HV2.out]
                  exact ⟨S, v2, grow_body (news := (s'.rest.drop 4).take F) HPM.out (by rw [HNW.out.2, ← HNW.out.1]; exact HO2.out) HG2.out HA2.out (by rw [HNW.out.2]; exact hlim2),
                    told_grow HTM.out HPM.out.body HSb.out HG2.out HPM.out.blk 4 v2, by have := HG2.out.size; have := HSM.out; simp [World.setCell]; omega,
                    fun k hk => by
                      rcases HA2.out with ha | ha
                      · exact HSb.out k (ha ▸ hk)
                      · rw [ha] at hk; have := HSM.out; simp at hk; omega,
                    (HBM.out.grown HG2.out hbw (fun k hk => (HPM.out.body.lt k hk).1)).setCell (p := ⟨g, 4, none⟩) HPM.out.ge v2⟩
            case rest =>
              have HN3 := Lib.hid (hcut.take (k := 4 + F) HRL.out (by omega) (by omega))
              obtain ⟨S3, vb3, hP3, _, _, _, _⟩ := hcut
              have q0 := hP3.blk.cell 0
              have q2 := hP3.blk.cell 2
              have q3 := hP3.blk.cell 3
              have g2 := hP3.blk.frozen 2
              have g3 := hP3.blk.frozen 3
              have hn0 := hP3.next0
              have hn1 := hP3.next1
              simp at q0 q2 q3 hn0 hn1
              have e6 : 4 + F ≤ rl := by omega
              clear hP3 d3 d4 e1 e2 e3 e5
              have hlen0 := HSt.out.len
              have hlen1 := HN3.out.len
              have HLN := Lib.hid (And.intro hlen0 hlen1)
              clear hlen0 hlen1
              by_cases hFl : (F : Int) < most
              · have hst : stepS most s' = { rest := s'.rest.drop (4 + F), body := [], next := (s'.next + 1) % 256, first := firstN s', within := false } := by
                  unfold stepS; rw [HFN.out, if_pos hFl]
                have htd : toldS most s' = [⟨firstN s', (s'.next + 1) % 256, s'.body ++ (s'.rest.drop 4).take F⟩] := by
                  unfold toldS bodyN; rw [HFN.out, if_pos hFl]
                have HSS := Lib.hid (And.intro hst htd)
                clear hst htd
                go_wp
                have hN3 := HN3.out
                generalize (wc.setCell ⟨g, 3, none⟩ (.slice (if cr = 4 + F then Ar else Ar.map (·.add (4 + F))) (rl - (4 + F)) (cr - (4 + F)))).setCell ⟨g, 2, none⟩ (.int .u8 ((s'.next + 1) % 256)) = W3 at *
                obtain ⟨S4, vb4, hP4, hT4, hS4, _, hB4⟩ := hN3
                obtain ⟨cs, hoc, hqc⟩ := hT4
                obtain ⟨A4, c4, hvb4, hbc4⟩ := own_form hP4.body
                have HP4 := Lib.hid hP4
                have HOC := Lib.hid hoc
                have HQC := Lib.hid hqc
                have HS4 := Lib.hid hS4
                have HB4 := Lib.hid hB4
                have t2 := hP4.blk.cell 2
                have t4 := hP4.blk.cell 4
                have t5 := hP4.blk.cell 5
                have hb4 : base ≤ W3.heap.size := Nat.le_trans hP4.ge (Nat.le_of_lt hP4.blk.lt)
                obtain ⟨bl, hbl⟩ : ∃ bl, vb4 = .slice A4 bl c4 := ⟨_, hvb4⟩
                simp at t2 t4 t5
                rw [hbl] at t4
                have HV4 := Lib.hid hbl
                clear hP4 hoc hqc hS4 hB4 hvb4 hbl q0 q2 q3 g2 g3 hn0 hn1
                have hol4 : out.length ≤ 4294967296 := by omega
                have hne4 : u6.ownBlock ≠ some g := by
                  intro e
                  obtain ⟨cur, hc⟩ := own_blk HOC.out e
                  exact HP4.out.blk.ne hc (by decide) rfl
                have HNE := Lib.hid hne4
                clear hne4
                go_cut [6] from 27 to 128 (fun v6 w' => w'.ownsRow base 41 3 v6 (out.length + 1) (cs ++ [.int .u8 (firstN s'), .int .u8 ((s'.next + 1) % 256), vb4]) ∧ W3.grownBy w' u6.ownBlock)
                case first =>
                  go_region_law (refine step_append_rd _ rfl (.tmp 107) (.tmp 121) 29 rfl base 41 i1 (.agg #[.int .u8 0, .int .u8 0, .slice none 0 0]) 3 32 Try.underlying29 hi1 hy0 hy1 hy2 rfl (by omega) u6 out.length cs rfl (World.ownsRow.drew (HOC.out.alloc _)) (W3.heap.size + 1) (some ⟨W3.heap.size, 0, none⟩) 1 1 [.int .u8 (firstN s'), .int .u8 ((s'.next + 1) % 256), .slice A4 bl c4] rfl rfl (Rd.drew (Rd.newC W3 _ 41)) (by intro u hu; simp at hu; rcases hu with rfl | rfl | rfl <;> rfl) (by omega) (by omega) (by simp; omega) ?_; intro v4 w4 hown4 hg4 hat4; have HO4 := Lib.hid hown4; have HG4 := Lib.hid (alloc_grown hg4); clear hown4 hg4 hat4)
                  all_goals
                    go_wp
                    go_meet
                    case rel => exact ⟨by rw [HV4.out]; exact HO4.out, HG4.out⟩
                case rest =>
                  obtain ⟨ho5, hg5⟩ := hcut
                  have hfin := told_seal HP4.out HOC.out HQC.out HS4.out ho5 hg5
                  have hb5 := Bk.keep (w := W3) HP4.out.blk (grow_keep hg5 HP4.out.blk.lt HNE.out)
                  have k4 := hb5.cell 4
                  have k6 := hb5.cell 6
                  have l4 := hb5.frozen 4
                  have l6 := hb5.frozen 6
                  simp at k4 k6
                  have hsz := hg5.size
                  have HFI := Lib.hid hfin
                  have HSZ := Lib.hid hsz
                  clear hfin ho5 hg5 hb5 t2 t4 t5 hsz
                  go_wp
                  obtain ⟨hfr, hft, hfb⟩ := HFI.out
                  refine ⟨⟨stepS most s', out ++ toldS most s', _, ⟨W3.heap.size, _, by rw [HSS.out.1]; exact hfr, by rw [HSS.out.2]; exact hft, by simp [World.setCell]; exact HSZ.out, fun k hk => by simp [Value.ownBlock] at hk, HB4.out.trans hfb⟩, HST.out.symm, ?_, ?_⟩, ?_⟩
                  · rw [HSS.out.1]; simp; have := HRL.out; omega
                  · rw [HSS.out.1, HSS.out.2]; simp; have := HRL.out; omega
                  · rw [HLN.out.1, lenAt_of hfr]; omega
              · have hst : stepS most s' = { rest := s'.rest.drop (4 + F), body := s'.body ++ (s'.rest.drop 4).take F, next := (s'.next + 1) % 256, first := firstN s', within := true } := by
                  unfold stepS bodyN; rw [HFN.out, if_neg hFl]
                have htd : toldS most s' = [] := by unfold toldS; rw [HFN.out, if_neg hFl]
                have HSS := Lib.hid (And.intro hst htd)
                clear hst htd
                go_wp
                refine ⟨⟨stepS most s', out, _, by rw [HSS.out.1]; exact HN3.out, ?_, ?_, ?_⟩, ?_⟩
                · have := HST.out; rw [HSS.out.2, List.append_nil] at this; exact this.symm
                · rw [HSS.out.1]; simp; have := HRL.out; omega
                · rw [HSS.out.1]; simp; have := HRL.out; omega
                · rw [HLN.out.1, HLN.out.2]; omega
      · have HC := Lib.hid (checked_bad g most limit s'.next Ar rl cr Ab s'.body.length cb wr.heap.size s'.rest wr c0 c1 c2 c3 c4 HRL.out h4' (by omega) (by have := HP.out.lim; omega) HRD.out HP.out.bytes hw)
        have hfin := feedF_wrong most limit s' out (by rw [HRL.out]; exact h4') hw
        rw [HR.out] at hfin
        have hwne : (wrongN most limit s'.rest s'.body.length s'.next != 0) = true := by simp [hw]
        have hweq : (wrongN most limit s'.rest s'.body.length s'.next == 0) = false := by simp [hw]
        generalize wrongN most limit s'.rest s'.body.length s'.next = W at *
        subst hfin
        have f7 := HP.out.blk.frozen 7
        have c7 := HP.out.blk.cell 7
        simp at c7
        clear hw
        go_wp2_with (go_at_call 23; refine HC.out.mono ?_; rintro e w1 ⟨rfl, m, rfl⟩)
        go_ret2
        exact ⟨_, S, _, _, rfl, told_set HT.out HP.out.blk m 7 _, stop_set (HP.out.drewN m) W, (below_drewN hbel m).setCell (p := ⟨g, 7, none⟩) HP.out.ge _, by simp [World.setCell]; exact hS⟩

end Go.Proofs.Ytmggelebnghkfaa
