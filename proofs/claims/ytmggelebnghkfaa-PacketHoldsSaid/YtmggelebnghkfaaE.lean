/- A slice of bytes of the call's own that may begin anywhere in its row, and an append onto it. Nothing here speaks of the program. -/
import Derived.Test.YtmggelebnghkfaaM
import Derived.Test.YtmggelebnghkfaaF
namespace Go.Proofs.Ytmggelebnghkfaa
open Go.RowKit

/-- v is nil, or a slice of one-cell elements of type e somewhere in a whole block from base on; it reads xs. -/
def SlO (w : World) (base e : Nat) (v : Value) (xs : List Value) : Prop :=
  (v = .slice none 0 0 ∧ xs = []) ∨
  ∃ g o c cur, v = .slice (some ⟨g, o, none⟩) xs.length c ∧ base ≤ g ∧ w.heap[g]? = some (.cells cur e (0, 0)) ∧ xs.length ≤ c ∧ c ≤ 9223372036854775807 ∧ o + c ≤ cur.size ∧ (cur.toList.drop o).take xs.length = xs

section
variable {w w' : World} {base e : Nat} {v : Value} {xs : List Value}

theorem SlO.nil (w : World) (base e : Nat) : SlO w base e (.slice none 0 0) [] := .inl ⟨rfl, rfl⟩

theorem SlO.lt (h : SlO w base e v xs) : ∀ k, v.ownBlock = some k → base ≤ k ∧ k < w.heap.size := by
  intro k hk
  rcases h with ⟨rfl, _⟩ | ⟨g, o, c, cur, rfl, hb, hg, _⟩
  · simp [Value.ownBlock] at hk
  · simp [Value.ownBlock] at hk
    subst hk
    exact ⟨hb, (Array.getElem?_eq_some_iff.1 hg).1⟩

theorem SlO.keep (h : SlO w base e v xs) (hk : ∀ g, v.ownBlock = some g → w'.heap[g]? = w.heap[g]?) : SlO w' base e v xs := by
  rcases h with h | ⟨g, o, c, cur, rfl, hb, hg, r⟩
  · exact .inl h
  · exact .inr ⟨g, o, c, cur, rfl, hb, (hk g (by simp [Value.ownBlock])).trans hg, r⟩

theorem SlO.form (h : SlO w base e v xs) : ∃ A c, v = .slice A xs.length c ∧ xs.length ≤ c ∧ c ≤ 9223372036854775807 ∧ Rd w w.heap.size A xs := by
  rcases h with ⟨rfl, rfl⟩ | ⟨g, o, c, cur, rfl, hb, hg, h1, h2, h3, h4⟩
  · exact ⟨none, 0, rfl, Nat.le_refl _, by omega, Rd.nil⟩
  · refine ⟨_, c, rfl, h1, h2, fun j u hu => ⟨g, o, rfl, (Array.getElem?_eq_some_iff.1 hg).1, ?_⟩⟩
    rw [cell_of_row w g (o + j) cur e (0, 0) hg]
    rw [← h4, List.getElem?_take] at hu
    split at hu
    · rw [List.getElem?_drop] at hu; simpa using hu
    · cases hu

theorem SlO.of_own {n : Nat} (h : w.ownsRow base e 1 v n xs) : SlO w base e v xs := by
  rcases h.2 with ⟨rfl, rfl⟩ | ⟨g, cap, cur, rfl, hb, hg, hc, hm, hcs, ht⟩
  · exact .inl ⟨rfl, List.eq_nil_of_length_eq_zero (by simpa using h.1)⟩
  · have hl : xs.length = n := by simpa using h.1
    subst hl
    refine .inr ⟨g, 0, cap, cur, rfl, hb, hg, hc, by unfold maxLen at hm; omega, by omega, by simpa using ht⟩

/-- What is cut off in front of it. -/
theorem SlO.cut (h : SlO w base e v xs) {A : Option Addr} {c : Nat} (hv : v = .slice A xs.length c) {k : Nat} (hk : k ≤ xs.length) (_hk0 : 0 < xs.length) :
    SlO w base e (.slice (if c = k then A else A.map (·.add k)) (xs.length - k) (c - k)) (xs.drop k) := by
  rcases h with ⟨_, rfl⟩ | ⟨g, o, c', cur, hv', hb, hg, h1, h2, h3, h4⟩
  · simp at _hk0
  · rw [hv] at hv'
    injection hv' with hA _ hc
    subst hA
    subst hc
    have hlen : (xs.drop k).length = xs.length - k := by simp
    have hd : (cur.toList.drop (o + k)).take (xs.length - k) = xs.drop k := by
      have := congrArg (List.drop k) h4
      rw [List.drop_take, List.drop_drop] at this
      exact this
    by_cases hck : c = k
    · subst hck
      rw [if_pos rfl]
      have hx : xs.length - c = 0 := by omega
      refine .inr ⟨g, o, 0, cur, by rw [hlen, hx]; simp, hb, hg, by omega, by omega, by omega, ?_⟩
      rw [hlen, hx, List.take_zero]
      exact (List.eq_nil_of_length_eq_zero (by rw [hlen]; exact hx)).symm
    · rw [if_neg hck]
      refine .inr ⟨g, o + k, c - k, cur, ?_, hb, hg, by omega, by omega, by omega, by rw [hlen]; exact hd⟩
      rw [hlen]
      by_cases h0 : k = 0
      · subst h0; simp [Addr.add]
      · simp [Addr.add, h0]
end

section
variable {P : Program} (w : World)

theorem run_append_slo (base t ty e : Nat) (i : TypeInfo) (z : Value) (ht : P.underlying t = some (.slice e)) (hi : P.info? e = some i) (hz : i.zero = some z) (hsize : i.size = 1) (hby : i.bytes = 1) (hzs : z.cells.size = 1)
    (v : Value) (xs : List Value) (hown : SlO w base e v xs)
    (B : Nat) (A : Option Addr) (c : Nat) (news : List Value) (hr : Rd w B A news) (h1 : ∀ u ∈ news, u.oneCell' = true)
    (h63 : xs.length + news.length ≤ 1099511627776) (hbase : base ≤ w.heap.size) :
    ∃ v' w', (Builtin.append_ #[t, t] ty #[v, .slice A news.length c]).run P w = .ok v' w' ∧ SlO w' base e v' (xs ++ news) ∧ w.grownBy w' v.ownBlock ∧
      (v'.ownBlock = v.ownBlock ∨ v'.ownBlock = some w.heap.size) := by
  rcases hown with ⟨rfl, rfl⟩ | ⟨g, o, cap, cur, rfl, hb, hg, hxc, hcm, hcs, htake⟩
  · obtain ⟨v', w', hrun, h2, h3, h4⟩ := run_append_rd (P := P) w base t ty e i z 1 1 ht hi hz hsize hby hzs (by omega) (.slice none 0 0) 0 [] (World.ownsRow_nil _ _ _ _) B A news.length c news (by simp) hr h1 (by omega) (by omega) hbase
    exact ⟨v', w', hrun, SlO.of_own h2, h3, h4⟩
  · have hsrc : Src P i.size t (.slice A news.length c) news.length news w := by
      rw [hsize]; exact hr.src ht (by simp) (by omega) h1
    have hN : (xs ++ news).length = xs.length + news.length := by simp
    have hcl : cur.toList.length = cur.size := Array.length_toList
    by_cases hroom : xs.length + news.length ≤ cap
    · have hst := run_storeCells_at P g (o + xs.length) e news 0 cur w hg (by simp; omega) h1
      simp only [Nat.add_zero] at hst
      have hrun : (Builtin.append_ #[t, t] ty #[.slice (some ⟨g, o, none⟩) xs.length cap, .slice A news.length c]).run P w = .ok (.slice (some ⟨g, o, none⟩) (xs.length + news.length) cap) (w.setRow g (cur.toList.take (o + xs.length) ++ news ++ cur.toList.drop (o + xs.length + news.length)).toArray) := by
        have hc := hsrc.cells
        rw [hsize] at hc
        simp [Builtin.append_, run_underlying ht, sizeOf, typeInfo, hi, hsize, hsrc.len, hroom, hc, Addr.add_lit, hst]
      refine ⟨_, _, hrun, .inr ⟨g, o, cap, _, by rw [hN], hb, setRow_heap w g cur _ e _ hg, by omega, hcm, ?_, ?_⟩, ⟨rfl, rfl, rfl, by simp, fun k _ hk => setRow_other w g k _ (fun e => hk (by simp [Value.ownBlock, e]))⟩, .inl rfl⟩
      · simp only [List.size_toArray, List.length_append, List.length_take, List.length_drop, Array.length_toList]
        omega
      · have e1 : (cur.toList.take (o + xs.length)).drop o = xs := by
          rw [List.drop_take, Nat.add_sub_cancel_left]; exact htake
        have hle : o ≤ (cur.toList.take (o + xs.length)).length := by rw [List.length_take, Array.length_toList]; omega
        simp only [List.append_assoc]
        rw [List.drop_append_of_le_length hle, e1, ← List.append_assoc, hN]
        rw [← hN]
        exact List.take_left
    · have holds : (Builtin.firstCells i.size xs.length (.slice (some ⟨g, o, none⟩) xs.length cap)).run P w.drew = .ok xs.toArray w.drew := by
        rw [hsize]
        refine run_firstCells_some w.drew 1 xs.length ⟨g, o, none⟩ xs.length cap xs (by simp) (fun j u hu => ?_)
        rw [Addr.add_lit]
        show w.cell? ⟨g, o + j, none⟩ = some u
        rw [cell_of_row w g (o + j) cur e (0, 0) hg]
        rw [← htake, List.getElem?_take] at hu
        split at hu
        · rw [List.getElem?_drop] at hu; simpa using hu
        · cases hu
      have hfit : Builtin.nextslicecap (xs.length + news.length) cap * i.bytes ≤ 281474976710656 := by
        rw [hby]; exact growslice_fits (by omega) (by omega)
      have hrun := run_append_grow_src (P := P) w t t ty e i z ht hi hz (some ⟨g, o, none⟩) xs.length cap xs holds _ _ news hsrc (by omega) (by omega) hfit
      have hge := grownCap_ge w (xs.length + news.length) cap e
      have hcmx : grownCap w (xs.length + news.length) cap e ≤ maxLen := grownCap_le_maxLen w _ cap e (by simp only [maxLen]; omega)
      refine ⟨_, _, hrun, .inr ⟨w.heap.size, 0, _, _, by rw [hN], hbase, heap_alloc_new w.drew _, by omega, by unfold maxLen at hcmx; omega, ?_, ?_⟩, ⟨rfl, rfl, rfl, by simp, fun k hk _ => Below.heap_alloc w.drew _ k hk⟩, .inr rfl⟩
      · simp only [Array.size_append, List.size_toArray, size_zeroCells, hzs, hN]
        omega
      · simp only [Array.toList_append, List.drop_zero]
        exact List.take_left
end

/-- The cells are these packets, each payload's value as Q says. -/
def PkQ (Q : Value → List Int → Prop) : List Value → List Pk → Prop
  | [], [] => True
  | a :: b :: c :: cs, p :: ps => (a = .int .u8 p.seq ∧ b = .int .u8 p.next ∧ Q c p.body) ∧ PkQ Q cs ps
  | _, _ => False

theorem PkQ.mono {Q Q' : Value → List Int → Prop} (hq : ∀ v b, Q v b → Q' v b) : ∀ {cs : List Value} {ps : List Pk}, PkQ Q cs ps → PkQ Q' cs ps
  | [], [], _ => trivial
  | _ :: _ :: _ :: _, _ :: _, h => ⟨⟨h.1.1, h.1.2.1, hq _ _ h.1.2.2⟩, PkQ.mono hq h.2⟩
  | [], _ :: _, h => h.elim
  | [_], _ :: _, h => h.elim
  | [_, _], _ :: _, h => h.elim
  | [_], [], h => h.elim
  | [_, _], [], h => h.elim
  | _ :: _ :: _ :: _, [], h => h.elim

theorem PkQ.app {Q : Value → List Int → Prop} {cs' : List Value} {ps' : List Pk} (h' : PkQ Q cs' ps') : ∀ {cs : List Value} {ps : List Pk}, PkQ Q cs ps → PkQ Q (cs ++ cs') (ps ++ ps')
  | [], [], _ => h'
  | _ :: _ :: _ :: _, _ :: _, h => ⟨h.1, PkQ.app h' h.2⟩
  | [], _ :: _, h => h.elim
  | [_], _ :: _, h => h.elim
  | [_, _], _ :: _, h => h.elim
  | [_], [], h => h.elim
  | [_, _], [], h => h.elim
  | _ :: _ :: _ :: _, [], h => h.elim

theorem PkQ.toL {w : World} {B : Nat} {Q : Value → List Int → Prop} (hq : ∀ v b, Q v b → ∃ A k, v = .slice A b.length k ∧ b.length ≤ k ∧ Rd w B A (bts b)) : ∀ {cs : List Value} {ps : List Pk}, PkQ Q cs ps → PkL w B cs ps
  | [], [], _ => trivial
  | _ :: _ :: _ :: _, _ :: _, h => ⟨⟨h.1.1, h.1.2.1, hq _ _ h.1.2.2⟩, PkQ.toL hq h.2⟩
  | [], _ :: _, h => h.elim
  | [_], _ :: _, h => h.elim
  | [_, _], _ :: _, h => h.elim
  | [_], [], h => h.elim
  | [_, _], [], h => h.elim
  | _ :: _ :: _ :: _, [], h => h.elim

theorem own_far {w : World} {base e size n : Nat} {v : Value} {xs : List Value} (h : w.ownsRow base e size v n xs) {p : Addr} (hp : v.ownBlock ≠ some p.block) (u : Value) : (w.setCell p u).ownsRow base e size v n xs := by
  refine ⟨h.1, ?_⟩
  rcases h.2 with h | ⟨g, cap, cur, rfl, h2, h3, h4⟩
  · exact .inl h
  · exact .inr ⟨g, cap, cur, rfl, h2, (heap_setCell_other w p g u (by intro e; apply hp; simp [Value.ownBlock, e])).trans h3, h4⟩

theorem own_keep {w w' : World} {base e size n : Nat} {v : Value} {xs : List Value} (h : w.ownsRow base e size v n xs) (hk : ∀ g, v.ownBlock = some g → w'.heap[g]? = w.heap[g]?) : w'.ownsRow base e size v n xs := by
  refine ⟨h.1, ?_⟩
  rcases h.2 with h | ⟨g, cap, cur, rfl, h2, h3, h4⟩
  · exact .inl h
  · exact .inr ⟨g, cap, cur, rfl, h2, (hk g (by simp [Value.ownBlock])).trans h3, h4⟩

/-- The block of a slice that is not nil is a row of its type. -/
theorem SlO.blk {w : World} {base e : Nat} {v : Value} {xs : List Value} (h : SlO w base e v xs) {g : Nat} (hg : v.ownBlock = some g) : ∃ cur, Bk w g e cur := by
  rcases h with ⟨rfl, _⟩ | ⟨g', o, c, cur, rfl, _, hh, _⟩
  · simp [Value.ownBlock] at hg
  · simp [Value.ownBlock] at hg
    subst hg
    exact ⟨cur, hh⟩

theorem own_blk {w : World} {base e size n : Nat} {v : Value} {xs : List Value} (h : w.ownsRow base e size v n xs) {g : Nat} (hg : v.ownBlock = some g) : ∃ cur, Bk w g e cur := by
  rcases h.2 with ⟨rfl, _⟩ | ⟨g', cap, cur, rfl, _, hh, _⟩
  · simp [Value.ownBlock] at hg
  · simp [Value.ownBlock] at hg
    subst hg
    exact ⟨cur, hh⟩

/-- A reader of the program in memory: its state, its two slices, apart from one another. -/
structure RdrP (w : World) (base g : Nat) (t : TypeId) (most limit : Int) (s : St) (stop : Int) (vr vb : Value) : Prop where
  blk : Bk w g t #[.int .i64 most, .int .i64 limit, .int .u8 s.next, vr, vb, .int .u8 s.first, .bool s.within, .int .i64 stop]
  ge : base ≤ g
  rest : SlO w base 5 vr (bts s.rest)
  body : w.ownsRow base 5 1 vb s.body.length (bts s.body)
  apart : ∀ k, vr.ownBlock = some k → vb.ownBlock ≠ some k
  bytes : ∀ z ∈ s.rest, 0 ≤ z ∧ z ≤ 255
  next0 : 0 ≤ s.next
  next1 : s.next ≤ 255
  lim : (s.body.length : Int) ≤ limit

/-- A reader looks at its own block and at the blocks of its two slices alone. -/
theorem RdrP.keep {w w' : World} {base g : Nat} {t : TypeId} {most limit stop : Int} {s : St} {vr vb : Value} (h : RdrP w base g t most limit s stop vr vb)
    (hg : w'.heap[g]? = w.heap[g]?) (hr : ∀ k, vr.ownBlock = some k → w'.heap[k]? = w.heap[k]?) (hb : ∀ k, vb.ownBlock = some k → w'.heap[k]? = w.heap[k]?) : RdrP w' base g t most limit s stop vr vb :=
  ⟨h.blk.keep hg, h.ge, h.rest.keep hr, own_keep h.body hb, h.apart, h.bytes, h.next0, h.next1, h.lim⟩

theorem RdrP.drewN {w : World} {base g : Nat} {t : TypeId} {most limit stop : Int} {s : St} {vr vb : Value} (h : RdrP w base g t most limit s stop vr vb) (m : Nat) : RdrP (w.drewN m) base g t most limit s stop vr vb :=
  h.keep rfl (fun _ _ => rfl) (fun _ _ => rfl)

theorem RdrP.ne_rest {w : World} {base g : Nat} {t : TypeId} {most limit stop : Int} {s : St} {vr vb : Value} (h : RdrP w base g t most limit s stop vr vb) (ht : t ≠ 5) : vr.ownBlock ≠ some g := by
  intro e
  obtain ⟨cur, hc⟩ := h.rest.blk e
  exact h.blk.ne hc ht rfl

theorem RdrP.ne_body {w : World} {base g : Nat} {t : TypeId} {most limit stop : Int} {s : St} {vr vb : Value} (h : RdrP w base g t most limit s stop vr vb) (ht : t ≠ 5) : vb.ownBlock ≠ some g := by
  intro e
  obtain ⟨cur, hc⟩ := own_blk h.body e
  exact h.blk.ne hc ht rfl

/-- A store into the reader's own block leaves its slices. -/
theorem RdrP.slices_set {w : World} {base g : Nat} {t : TypeId} {most limit stop : Int} {s : St} {vr vb : Value} (h : RdrP w base g t most limit s stop vr vb) (ht : t ≠ 5) (i : Nat) (u : Value) :
    SlO (w.setCell ⟨g, i, none⟩ u) base 5 vr (bts s.rest) ∧ (w.setCell ⟨g, i, none⟩ u).ownsRow base 5 1 vb s.body.length (bts s.body) :=
  ⟨h.rest.keep fun k hk => heap_setCell_other w _ k u (fun e => h.ne_rest ht (by rw [hk, e])), own_far h.body (h.ne_body ht) u⟩

section
variable {P : Program} (w : World)
theorem wp_append_slo {o : Oper} {a : Act} {K : Act → World → Prop} {Q : Exit → Act → World → Prop} (s x : Operand) (t : TypeId)
    (ho : o.op = .call { callee := .builtin .append, args := #[s, x], argTypes := #[t, t] })
    (base e : Nat) (i : TypeInfo) (z : Value) (ht : P.underlying t = some (.slice e)) (hi : P.info? e = some i) (hz : i.zero = some z) (hsize : i.size = 1) (hby : i.bytes = 1) (hzs : z.cells.size = 1)
    (v : Value) (xs : List Value) (hs : a.eval s = v) (hown : SlO w base e v xs)
    (B : Nat) (A : Option Addr) (m c : Nat) (news : List Value) (hx : a.eval x = .slice A m c) (hl : news.length = m) (hr : Rd w B A news) (h1 : ∀ u ∈ news, u.oneCell' = true)
    (h63 : xs.length + news.length ≤ 1099511627776) (hbase : base ≤ w.heap.size)
    (h : ∀ v' w', SlO w' base e v' (xs ++ news) → w.grownBy w' v.ownBlock → (v'.ownBlock = v.ownBlock ∨ v'.ownBlock = some w.heap.size) → K (a.put o.dst v') w') : o.wp P a w K Q := by
  subst hl
  obtain ⟨v', w', hrun, h2, h3, h4⟩ := run_append_slo (P := P) w base t o.type e i z ht hi hz hsize hby hzs v xs hown B A c news hr h1 h63 hbase
  unfold Oper.wp execOp
  simp only [ho, resolve, invoke, builtin, Sem.run_bind, Sem.run_pure, Result.andThen_ok, List.map_toArray, List.map_cons, List.map_nil, hs, hx, hrun]
  exact h v' w' h2 h3 h4

theorem wpList_append_slo {ops : Array Oper} {rest : List Oper} {o : Oper} {a : Act} {Q : Exit → Act → World → Prop} (hgd : o.guard = none) (s x : Operand) (t : TypeId)
    (ho : o.op = .call { callee := .builtin .append, args := #[s, x], argTypes := #[t, t] })
    (base e : Nat) (i : TypeInfo) (z : Value) (ht : P.underlying t = some (.slice e)) (hi : P.info? e = some i) (hz : i.zero = some z) (hsize : i.size = 1) (hby : i.bytes = 1) (hzs : z.cells.size = 1)
    (v : Value) (xs : List Value) (hs : a.eval s = v) (hown : SlO w base e v xs)
    (B : Nat) (A : Option Addr) (m c : Nat) (news : List Value) (hx : a.eval x = .slice A m c) (hl : news.length = m) (hr : Rd w B A news) (h1 : ∀ u ∈ news, u.oneCell' = true)
    (h63 : xs.length + news.length ≤ 1099511627776) (hbase : base ≤ w.heap.size)
    (h : ∀ v' w', SlO w' base e v' (xs ++ news) → w.grownBy w' v.ownBlock → (v'.ownBlock = v.ownBlock ∨ v'.ownBlock = some w.heap.size) → wpList P ops Q rest (a.put o.dst v') w') : wpList P ops Q (o :: rest) a w :=
  wpList_plain hgd fun _ hK => wp_append_slo w s x t ho base e i z ht hi hz hsize hby hzs v xs hs hown B A m c news hx hl hr h1 h63 hbase fun v' w' h2 h3 h4 => hK _ _ (h v' w' h2 h3 h4)
end

theorem grow_keep {w w1 : World} {row : Option Nat} (hg : w.grownBy w1 row) {k : Nat} (hlt : k < w.heap.size) (hne : row ≠ some k) : w1.heap[k]? = w.heap[k]? := hg.block k hlt (fun e => hne e.symm)

/-- More bytes behind the reader's own, stored in its field. -/
theorem RdrP.grow_rest {w w1 : World} {base g : Nat} {t : TypeId} {most limit stop : Int} {s : St} {vr vb v1 : Value} {bs : List Int} (h : RdrP w base g t most limit s stop vr vb) (ht : t ≠ 5)
    (hs1 : SlO w1 base 5 v1 (bts s.rest ++ bts bs)) (hg1 : w.grownBy w1 vr.ownBlock) (ha1 : v1.ownBlock = vr.ownBlock ∨ v1.ownBlock = some w.heap.size) (hbs : ∀ z ∈ bs, 0 ≤ z ∧ z ≤ 255) :
    RdrP (w1.setCell ⟨g, 3, none⟩ v1) base g t most limit { s with rest := s.rest ++ bs } stop v1 vb ∧ Below base w (w1.setCell ⟨g, 3, none⟩ v1) := by
  have hgl := h.blk.lt
  have hblk1 : Bk w1 g t _ := h.blk.keep (grow_keep hg1 hgl (h.ne_rest ht))
  have hv1g : v1.ownBlock ≠ some g := by
    intro e
    obtain ⟨cur, hc⟩ := hs1.blk e
    exact hblk1.ne hc ht rfl
  have hbody1 : w1.ownsRow base 5 1 vb s.body.length (bts s.body) := own_keep h.body fun k hk => grow_keep hg1 (h.body.lt k hk).2 (fun e => h.apart k e hk)
  refine ⟨⟨hblk1.set 3 v1, h.ge, ?_, own_far hbody1 (h.ne_body ht) _, ?_, ?_, h.next0, h.next1, h.lim⟩, ?_⟩
  · rw [bts_app]
    exact hs1.keep fun k hk => heap_setCell_other _ _ _ _ (fun e => hv1g (by rw [hk, e]))
  · intro k hk e
    rcases ha1 with ha | ha
    · exact h.apart k (ha ▸ hk) e
    · rw [ha] at hk
      have := (h.body.lt k e).2
      simp at hk
      omega
  · intro z hz
    rcases List.mem_append.1 hz with hz | hz
    · exact h.bytes z hz
    · exact hbs z hz
  · exact ((Below.refl base w).grown hg1 (Nat.le_trans h.ge (Nat.le_of_lt hgl)) (fun k hk => (h.rest.lt k hk).1)).setCell h.ge _

end Go.Proofs.Ytmggelebnghkfaa
