/- What a call of the reference's Feed does to its reader in memory, piece by piece (as the program's reader, another struct type). -/
import Derived.Test.YtmggelebnghkfaaH
namespace Go.Proofs.Ytmggelebnghkfaa.RefR
open Go.RowKit

theorem told_set {w : World} {base S g : Nat} {vo : Value} {out : List Pk} {cs : Array Value} (h : Told w base S vo out) (hg : Bk w g 56 cs) (m i : Nat) (u : Value) : Told ((w.drewN m).setCell ⟨g, i, none⟩ u) base S vo out :=
  told_keep h fun k t cur hb ht => heap_setCell_other _ _ _ _ (fun e => by
    have e : k = g := e
    subst e
    have := hb.ne hg (by rcases ht with ⟨rfl, _⟩ | rfl <;> decide)
    exact this rfl)

theorem stop_set {w : World} {base g : Nat} {most limit stop : Int} {s : St} {vr vb : Value} (h : RdrP w base g 56 most limit s stop vr vb) (e : Int) : RdrP (w.setCell ⟨g, 7, none⟩ (.int .i64 e)) base g 56 most limit s e vr vb :=
  ⟨h.blk.set 7 _, h.ge, (h.slices_set (by decide) 7 _).1, (h.slices_set (by decide) 7 _).2, h.apart, h.bytes, h.next0, h.next1, h.lim⟩

theorem grow_body {w w2 : World} {base g : Nat} {most limit : Int} {s : St} {vr vb v2 : Value} {news : List Int} (h : RdrP w base g 56 most limit s 0 vr vb)
    (ho : w2.ownsRow base 5 1 v2 (s.body.length + news.length) (bts s.body ++ bts news)) (hg : w.grownBy w2 vb.ownBlock) (ha : v2.ownBlock = vb.ownBlock ∨ v2.ownBlock = some w.heap.size) (hlim : (s.body.length : Int) + news.length ≤ limit) :
    RdrP (w2.setCell ⟨g, 4, none⟩ v2) base g 56 most limit { s with body := s.body ++ news } 0 vr v2 := by
  have hblk : Bk w2 g 56 _ := h.blk.keep (grow_keep hg h.blk.lt (h.ne_body (by decide)))
  have hv2g : v2.ownBlock ≠ some g := by
    intro e
    obtain ⟨cur, hc⟩ := own_blk ho e
    exact hblk.ne hc (by decide) rfl
  refine ⟨hblk.set 4 v2, h.ge, ?_, ?_, ?_, h.bytes, h.next0, h.next1, by simp; omega⟩
  · refine h.rest.keep fun k hk => ?_
    rw [heap_setCell_other _ _ _ _ (fun e => h.ne_rest (by decide) (by rw [hk, e]))]
    exact grow_keep hg (h.rest.lt k hk).2 (h.apart k hk)
  · have := own_far ho (p := ⟨g, 4, none⟩) hv2g v2
    rw [bts_app, List.length_append]
    exact this
  · intro k hk e
    rcases ha with ha | ha
    · exact h.apart k hk (ha ▸ e)
    · rw [ha] at e
      have := (h.rest.lt k hk).2
      simp at e
      omega

theorem told_grow {w w2 : World} {base S g n : Nat} {vo vb : Value} {out : List Pk} {xs : List Value} {cs : Array Value} (h : Told w base S vo out) (hb : w.ownsRow base 5 1 vb n xs) (hS : ∀ k, vb.ownBlock = some k → S ≤ k)
    (hg : w.grownBy w2 vb.ownBlock) (hk : Bk w g 56 cs) (i : Nat) (u : Value) : Told (w2.setCell ⟨g, i, none⟩ u) base S vo out :=
  told_keep h fun k t cur hc ht => by
    have hne : k ≠ g := fun e => by
      subst e
      exact hc.ne hk (by rcases ht with ⟨rfl, _⟩ | rfl <;> decide) rfl
    rw [heap_setCell_other _ _ _ _ hne]
    refine grow_keep hg hc.lt fun e => ?_
    rcases ht with ⟨_, hlt⟩ | rfl
    · have := hS k e; omega
    · obtain ⟨cur', hc'⟩ := own_blk hb e
      exact hc.ne hc' (by decide) rfl

theorem take_rest {w : World} {base g rl cr k : Nat} {most limit : Int} {s : St} {Ar : Option Addr} {vb : Value} (h : RdrP w base g 56 most limit s 0 (.slice Ar rl cr) vb) (hl : s.rest.length = rl) (hk : k ≤ rl) (h0 : 0 < rl) :
    RdrP ((w.setCell ⟨g, 3, none⟩ (.slice (if cr = k then Ar else Ar.map (·.add k)) (rl - k) (cr - k))).setCell ⟨g, 2, none⟩ (.int .u8 ((s.next + 1) % 256))) base g 56 most limit
      { s with rest := s.rest.drop k, next := (s.next + 1) % 256 } 0 (.slice (if cr = k then Ar else Ar.map (·.add k)) (rl - k) (cr - k)) vb := by
  have hcut := h.rest.cut (A := Ar) (c := cr) (by rw [bts_len, hl]) (k := k) (by rw [bts_len, hl]; exact hk) (by rw [bts_len, hl]; exact h0)
  rw [bts_len, hl, ← bts_drop] at hcut
  have hob : (Value.slice (if cr = k then Ar else Ar.map (·.add k)) (rl - k) (cr - k)).ownBlock = (Value.slice Ar rl cr).ownBlock := by
    cases Ar with
    | none => split <;> rfl
    | some a =>
      split
      · rfl
      · simp only [Option.map_some, Value.ownBlock, Option.some.injEq]; unfold Addr.add; split <;> rfl
  have h1 : RdrP (w.setCell ⟨g, 3, none⟩ (.slice (if cr = k then Ar else Ar.map (·.add k)) (rl - k) (cr - k))) base g 56 most limit { s with rest := s.rest.drop k } 0 (.slice (if cr = k then Ar else Ar.map (·.add k)) (rl - k) (cr - k)) vb := by
    refine ⟨h.blk.set 3 _, h.ge, hcut.keep fun j hj => heap_setCell_other _ _ _ _ (fun e => h.ne_rest (by decide) ?_), own_far h.body (h.ne_body (by decide)) _, fun j hj => h.apart j (hob ▸ hj), fun z hz => h.bytes z (List.mem_of_mem_drop hz), h.next0, h.next1, h.lim⟩
    rw [← hob, hj, e]
  exact ⟨h1.blk.set 2 _, h.ge, (h1.slices_set (by decide) 2 _).1, (h1.slices_set (by decide) 2 _).2, h1.apart, h1.bytes, by show 0 ≤ (s.next + 1) % 256; omega, by show (s.next + 1) % 256 ≤ 255; omega, h1.lim⟩

theorem told_seal {W w4 : World} {base g S : Nat} {most limit : Int} {s : St} {vr vb vo v4 : Value} {out : List Pk} {cs : List Value} (h : RdrP W base g 56 most limit s 0 vr vb)
    (ho : W.ownsRow base 41 3 vo out.length cs) (hq : PkQ (fun v b => SlO W base 5 v (bts b) ∧ ∀ k, v.ownBlock = some k → k < S) cs out) (hS : S ≤ W.heap.size)
    (ho4 : w4.ownsRow base 41 3 v4 (out.length + 1) (cs ++ [.int .u8 s.first, .int .u8 s.next, vb])) (hg : W.grownBy w4 vo.ownBlock) :
    RdrP (w4.setCell ⟨g, 4, none⟩ (.slice none 0 0)) base g 56 most limit { s with body := [] } 0 vr (.slice none 0 0) ∧
    Told (w4.setCell ⟨g, 4, none⟩ (.slice none 0 0)) base W.heap.size v4 (out ++ [⟨s.first, s.next, s.body⟩]) ∧
    Below base W (w4.setCell ⟨g, 4, none⟩ (.slice none 0 0)) := by
  have hne : ∀ {k t : Nat} {cur : Array Value}, Bk W k t cur → t ≠ 41 → vo.ownBlock ≠ some k := by
    intro k t cur hk ht e
    obtain ⟨cur', hc⟩ := own_blk ho e
    exact hk.ne hc ht rfl
  have hkeep : ∀ {k t : Nat} {cur : Array Value}, Bk W k t cur → t ≠ 41 → w4.heap[k]? = W.heap[k]? := fun hk ht => grow_keep hg hk.lt (hne hk ht)
  have hblk4 : Bk w4 g 56 _ := h.blk.keep (hkeep h.blk (by decide))
  have hfar : ∀ {k t : Nat} {cur : Array Value}, Bk W k t cur → t ≠ 56 → k ≠ g := by
    rintro k t cur hk ht rfl
    exact hk.ne h.blk ht rfl
  have hrest : SlO (w4.setCell ⟨g, 4, none⟩ (.slice none 0 0)) base 5 vr (bts s.rest) := h.rest.keep fun k hk => by
    obtain ⟨cur, hc⟩ := h.rest.blk hk
    rw [heap_setCell_other _ _ _ _ (hfar hc (by decide))]
    exact hkeep hc (by decide)
  have hb5 : ∀ v b, SlO W base 5 v (bts b) → SlO (w4.setCell ⟨g, 4, none⟩ (.slice none 0 0)) base 5 v (bts b) := fun v b hv => hv.keep fun k hk => by
    obtain ⟨cur, hc⟩ := hv.blk hk
    rw [heap_setCell_other _ _ _ _ (hfar hc (by decide))]
    exact hkeep hc (by decide)
  refine ⟨⟨hblk4.set 4 _, h.ge, hrest, World.ownsRow_nil _ _ _ _, fun k _ e => by simp [Value.ownBlock] at e, h.bytes, h.next0, h.next1, ?_⟩, ⟨cs ++ [.int .u8 s.first, .int .u8 s.next, vb], ?_, ?_⟩, ?_⟩
  · have := h.lim; show (([] : List Int).length : Int) ≤ limit; simp only [List.length_nil]; omega
  · have h4g : v4.ownBlock ≠ some g := by
      intro e
      obtain ⟨cur, hc⟩ := own_blk ho4 e
      exact hblk4.ne hc (by decide) rfl
    have := own_far ho4 (p := ⟨g, 4, none⟩) h4g (.slice none 0 0)
    rw [List.length_append]
    exact this
  · have hnew : PkQ (fun v b => SlO (w4.setCell ⟨g, 4, none⟩ (.slice none 0 0)) base 5 v (bts b) ∧ ∀ k, v.ownBlock = some k → k < W.heap.size) [.int .u8 s.first, .int .u8 s.next, vb] [⟨s.first, s.next, s.body⟩] :=
      ⟨⟨rfl, rfl, hb5 _ _ (SlO.of_own h.body), fun k hk => (h.body.lt k hk).2⟩, trivial⟩
    exact PkQ.app hnew (hq.mono fun v b ⟨h1, h2⟩ => ⟨hb5 _ _ h1, fun k hk => Nat.lt_of_lt_of_le (h2 k hk) hS⟩)
  · exact ((Below.refl base W).grown hg (Nat.le_trans h.ge (Nat.le_of_lt h.blk.lt)) (fun k hk => (ho.lt k hk).1)).setCell (p := ⟨g, 4, none⟩) h.ge _

/-- A reader in the middle of a call: its state, its slice of bytes, what was told so far. -/
def Stage (w : World) (base g : Nat) (most limit : Int) (s : St) (out : List Pk) (vr vo : Value) (w' : World) : Prop :=
  ∃ S vb, RdrP w' base g 56 most limit s 0 vr vb ∧ Told w' base S vo out ∧ S ≤ w'.heap.size ∧ (∀ k, vb.ownBlock = some k → S ≤ k) ∧ Below base w w'

theorem Stage.drewN {w w' : World} {base g : Nat} {most limit : Int} {s : St} {out : List Pk} {vr vo : Value} (h : Stage w base g most limit s out vr vo w') (m : Nat) : Stage w base g most limit s out vr vo (w'.drewN m) := by
  obtain ⟨S, vb, h1, h2, h3, h4, h5⟩ := h
  exact ⟨S, vb, h1.drewN m, told_keep h2 (fun _ _ _ _ _ => rfl), h3, h4, below_drewN h5 m⟩

theorem Stage.take {w w' : World} {base g rl cr k : Nat} {most limit : Int} {s : St} {out : List Pk} {Ar : Option Addr} {vo : Value} (h : Stage w base g most limit s out (.slice Ar rl cr) vo w') (hl : s.rest.length = rl) (hk : k ≤ rl) (h0 : 0 < rl) :
    Stage w base g most limit { s with rest := s.rest.drop k, next := (s.next + 1) % 256 } out (.slice (if cr = k then Ar else Ar.map (·.add k)) (rl - k) (cr - k)) vo
      ((w'.setCell ⟨g, 3, none⟩ (.slice (if cr = k then Ar else Ar.map (·.add k)) (rl - k) (cr - k))).setCell ⟨g, 2, none⟩ (.int .u8 ((s.next + 1) % 256))) := by
  obtain ⟨S, vb, h1, h2, h3, h4, h5⟩ := h
  exact ⟨S, vb, take_rest h1 hl hk h0, told_set (m := 0) (told_set (m := 0) h2 h1.blk 3 _) (h1.blk.set 3 _) 2 _, by simp [World.setCell]; exact h3, h4, (h5.setCell (p := ⟨g, 3, none⟩) h1.ge _).setCell (p := ⟨g, 2, none⟩) h1.ge _⟩

theorem Stage.len {w w' : World} {base g rl cr : Nat} {most limit : Int} {s : St} {out : List Pk} {Ar : Option Addr} {vo : Value} (h : Stage w base g most limit s out (.slice Ar rl cr) vo w') : lenAt w' g = rl := by
  obtain ⟨S, vb, h1, _⟩ := h
  exact lenAt_of h1

theorem Stage.first_yes {w w' : World} {base g : Nat} {most limit : Int} {s : St} {out : List Pk} {vr vo : Value} (h : Stage w base g most limit s out vr vo w') (hw : s.within = true) :
    Stage w base g most limit { s with first := firstN s } out vr vo w' := by
  have e : ({ s with first := firstN s } : St) = s := by unfold firstN; rw [if_pos hw]
  rw [e]; exact h

theorem Stage.first_no {w w' : World} {base g : Nat} {most limit : Int} {s : St} {out : List Pk} {vr vo : Value} (h : Stage w base g most limit s out vr vo w') (hw : s.within = false) :
    Stage w base g most limit { s with first := firstN s } out vr vo (w'.setCell ⟨g, 5, none⟩ (.int .u8 s.next)) := by
  obtain ⟨S, vb, h1, h2, h3, h4, h5⟩ := h
  have e : firstN s = s.next := by unfold firstN; rw [hw]; rfl
  rw [e]
  exact ⟨S, vb, ⟨h1.blk.set 5 _, h1.ge, (h1.slices_set (by decide) 5 _).1, (h1.slices_set (by decide) 5 _).2, h1.apart, h1.bytes, h1.next0, h1.next1, h1.lim⟩, told_set (m := 0) h2 h1.blk 5 _, by simp [World.setCell]; exact h3, h4, h5.setCell (p := ⟨g, 5, none⟩) h1.ge _⟩

theorem Stage.why {w w' : World} {base g : Nat} {most limit : Int} {s : St} {out : List Pk} {vr vo : Value} (h : Stage w base g most limit s out vr vo w') :
    Stage w base g most limit s out vr vo (w'.setCell ⟨g, 7, none⟩ (.int .i64 0)) := by
  obtain ⟨S, vb, h1, h2, h3, h4, h5⟩ := h
  exact ⟨S, vb, stop_set h1 0, told_set (m := 0) h2 h1.blk 7 _, by simp [World.setCell]; exact h3, h4, h5.setCell (p := ⟨g, 7, none⟩) h1.ge _⟩

theorem Stage.with_ {w w' : World} {base g : Nat} {most limit : Int} {s : St} {out : List Pk} {vr vo : Value} (h : Stage w base g most limit s out vr vo w') (b : Bool) :
    Stage w base g most limit { s with within := b } out vr vo (w'.setCell ⟨g, 6, none⟩ (.bool b)) := by
  obtain ⟨S, vb, h1, h2, h3, h4, h5⟩ := h
  exact ⟨S, vb, ⟨h1.blk.set 6 _, h1.ge, (h1.slices_set (by decide) 6 _).1, (h1.slices_set (by decide) 6 _).2, h1.apart, h1.bytes, h1.next0, h1.next1, h1.lim⟩, told_set (m := 0) h2 h1.blk 6 _, by simp [World.setCell]; exact h3, h4, h5.setCell (p := ⟨g, 6, none⟩) h1.ge _⟩

/-- The reader's bytes copied into a new row, with more behind them. -/
theorem fresh_rest {w w1 : World} {base g n : Nat} {most limit : Int} {s : St} {vr vb v1 : Value} {bs : List Int} (h : RdrP w base g 56 most limit s 0 vr vb)
    (ho : w1.ownsRow w.heap.size 5 1 v1 n (bts s.rest ++ bts bs)) (hb : Below w.heap.size w w1) (hbs : ∀ z ∈ bs, 0 ≤ z ∧ z ≤ 255) :
    RdrP (w1.setCell ⟨g, 3, none⟩ v1) base g 56 most limit { s with rest := s.rest ++ bs } 0 v1 vb ∧ Below base w (w1.setCell ⟨g, 3, none⟩ v1) := by
  have hgl := h.blk.lt
  have hblk1 : Bk w1 g 56 _ := h.blk.keep (hb.block g hgl)
  have hv1g : v1.ownBlock ≠ some g := fun e => by have := (ho.lt g e).1; omega
  have hbody1 : w1.ownsRow base 5 1 vb s.body.length (bts s.body) := own_keep h.body fun k hk => hb.block k (h.body.lt k hk).2
  have hbw : base ≤ w.heap.size := Nat.le_trans h.ge (Nat.le_of_lt hgl)
  refine ⟨⟨hblk1.set 3 v1, h.ge, ?_, own_far hbody1 (h.ne_body (by decide)) _, ?_, ?_, h.next0, h.next1, h.lim⟩, (hb.mono hbw).setCell h.ge _⟩
  · rw [bts_app]
    exact (SlO.of_own (own_less ho hbw)).keep fun k hk => heap_setCell_other _ _ _ _ (fun e => hv1g (by rw [hk, e]))
  · intro k hk e
    have h1 := (ho.lt k hk).1
    have h2 := (h.body.lt k e).2
    omega
  · intro z hz
    rcases List.mem_append.1 hz with hz | hz
    · exact h.bytes z hz
    · exact hbs z hz

end Go.Proofs.Ytmggelebnghkfaa.RefR
