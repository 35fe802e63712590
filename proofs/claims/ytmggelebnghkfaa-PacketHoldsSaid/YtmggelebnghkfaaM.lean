/- Small words on memory for the packet laws: a slice that reads as a list of cells below a block, a block that is known whole, an append onto an owned row from whatever source. Nothing here speaks of the program. -/
import Derived.WalkKit
import Derived.WalkSpells
import Derived.WalkLawsBesides
import Derived.Maps.AppendAt
import Derived.Deep.AppendSrc
import Derived.Deep.AppendLies
import Derived.Deep.RegionLaw
import Derived.Deep.QuietTactic
import Derived.BigQuiet
import Derived.StillTailTactics
import Derived.Deep.CutRange
import Derived.Deep.CutBlock
import Derived.Deep.LoopGhost
import Derived.Deep.DeepFit
import Derived.KernelRfl
import Derived.Lib.Hide
import Derived.Deep.RegionHeld3
namespace Go.Proofs.Ytmggelebnghkfaa
open Go.RowKit

/-- The cells 'xs' lie behind the address, in a block below B (an empty list asks nothing). -/
def Rd (w : World) (B : Nat) (A : Option Addr) (xs : List Value) : Prop :=
  ∀ j u, xs[j]? = some u → ∃ g o, A = some ⟨g, o, none⟩ ∧ g < B ∧ w.cell? ⟨g, o + j, none⟩ = some u

section
variable {w w' : World} {B : Nat} {A : Option Addr} {xs : List Value}

theorem Rd.nil : Rd w B A [] := by intro j u h; simp at h

theorem Rd.keep (h : Rd w B A xs) (hk : ∀ g, g < B → w'.heap[g]? = w.heap[g]?) : Rd w' B A xs := by
  intro j u hu
  obtain ⟨g, o, e, hb, hc⟩ := h j u hu
  exact ⟨g, o, e, hb, (World.cell?_of_block (hk g hb)).trans hc⟩

theorem Rd.below (h : Rd w B A xs) (hb : Below B w w') : Rd w' B A xs := h.keep hb.block

theorem Rd.more {B' : Nat} (h : Rd w B A xs) (hB : B ≤ B') : Rd w B' A xs := by
  intro j u hu
  obtain ⟨g, o, e, hb, hc⟩ := h j u hu
  exact ⟨g, o, e, by omega, hc⟩

theorem Rd.alloc (h : Rd w B A xs) (hB : B ≤ w.heap.size) (o : Obj) : Rd (w.alloc o) B A xs :=
  h.keep fun g hg => Below.heap_alloc w o g (by omega)

theorem Rd.drew (h : Rd w B A xs) : Rd w.drew B A xs := h

theorem Rd.take (h : Rd w B A xs) (k : Nat) : Rd w B A (xs.take k) := by
  intro j u hu
  rw [List.getElem?_take] at hu
  split at hu
  · exact h j u hu
  · cases hu

/-- What is cut off in front: the address moves, unless the capacity is used up. -/
theorem Rd.cut (h : Rd w B A xs) {k c : Nat} (hc : xs.length ≤ c) : Rd w B (if c = k then A else A.map (·.add k)) (xs.drop k) := by
  intro j u hu
  rw [List.getElem?_drop] at hu
  have hlt : k + j < xs.length := (List.getElem?_eq_some_iff.1 hu).1
  obtain ⟨g, o, rfl, hb, hcell⟩ := h (k + j) u hu
  rw [if_neg (by omega)]
  refine ⟨g, o + k, ?_, hb, by rw [Nat.add_assoc]; exact hcell⟩
  simp [Addr.add]

theorem Rd.at_ (h : Rd w B A xs) {j : Nat} (hj : j < xs.length) : ∃ g o, A = some ⟨g, o, none⟩ ∧ g < B ∧ w.cell? ⟨g, o + j, none⟩ = some xs[j] :=
  h j _ (List.getElem?_eq_getElem hj)

theorem Rd.of_own {base e size n c : Nat} (h : w.ownsRow base e size (.slice A n c) n xs) : Rd w w.heap.size A xs := by
  intro j u hu
  rcases h.2 with ⟨hv, h0⟩ | ⟨g, cap, cur, hv, _, hg, hnc, hcm, hcs, ht⟩
  · have := h.1; subst h0; simp at this; subst this; simp at hu
  · injection hv with hA
    subst hA
    have hlt : g < w.heap.size := (Array.getElem?_eq_some_iff.1 hg).1
    refine ⟨g, 0, rfl, hlt, ?_⟩
    rw [cell_of_row w g (0 + j) cur e (0, 0) hg, Nat.zero_add]
    rw [← ht, List.getElem?_take] at hu
    split at hu
    · simpa using hu
    · cases hu

theorem Rd.src {P : Program} {tx e' m c size : Nat} (hk : P.underlying tx = some (.slice e')) (h : Rd w B A xs) (hl : xs.length = m * size) (hs : 0 < size) (h1 : ∀ u ∈ xs, u.oneCell' = true) :
    Src P size tx (.slice A m c) m xs w := by
  rcases Nat.eq_zero_or_pos m with rfl | hm
  · have : xs = [] := List.eq_nil_of_length_eq_zero (by simpa using hl)
    subst this
    cases A with
    | none => exact Src.ofNil w hk c
    | some a => exact Src.ofSlice w hk a 0 c [] (by simp) (by simp) (by simp)
  · have hpos : 0 < xs.length := by rw [hl]; exact Nat.mul_pos hm hs
    obtain ⟨g, o, rfl, _, _⟩ := h.at_ hpos
    refine Src.ofSlice w hk _ m c xs hl (fun j u hu => ?_) h1
    obtain ⟨g', o', he, _, hc⟩ := h j u hu
    simp only [Option.some.injEq, Addr.mk.injEq, and_true] at he
    obtain ⟨rfl, rfl⟩ := he
    rw [Addr.add_lit]
    exact hc
end

/-- The block g is just these cells of this type, none of them frozen. -/
def Bk (w : World) (g : Nat) (t : TypeId) (cs : Array Value) : Prop := w.heap[g]? = some (.cells cs t (0, 0))

section
variable {w w' : World} {g : Nat} {t : TypeId} {cs : Array Value}
theorem Bk.lt (h : Bk w g t cs) : g < w.heap.size := (Array.getElem?_eq_some_iff.1 h).1
theorem Bk.cell (h : Bk w g t cs) (i : Nat) : w.cell? ⟨g, i, none⟩ = cs[i]? := cell_of_row w g i cs t (0, 0) h
theorem Bk.frozen (h : Bk w g t cs) (i : Nat) : w.frozen? ⟨g, i, none⟩ = false := frozen_of_row w g i cs t h
theorem Bk.set (h : Bk w g t cs) (i : Nat) (u : Value) : Bk (w.setCell ⟨g, i, none⟩ u) g t (cs.setIfInBounds i u) := heap_setCell_same w g i cs t u h
theorem Bk.keep (h : Bk w g t cs) (hk : w'.heap[g]? = w.heap[g]?) : Bk w' g t cs := hk.trans h
theorem Bk.far (h : Bk w g t cs) {p : Addr} (hp : g ≠ p.block) (u : Value) : Bk (w.setCell p u) g t cs := (heap_setCell_other w p g u hp).trans h
theorem Bk.alloc (h : Bk w g t cs) (o : Obj) : Bk (w.alloc o) g t cs := (Below.heap_alloc w o g h.lt).trans h
theorem Bk.drew (h : Bk w g t cs) : Bk w.drew g t cs := h
theorem Bk.grown {row : Option Nat} (h : Bk w g t cs) (hb : w.grownBy w' row) (hg : some g ≠ row) : Bk w' g t cs := (hb.block g h.lt hg).trans h
theorem Bk.ne {g' : Nat} {t' : TypeId} {cs' : Array Value} (h : Bk w g t cs) (h' : Bk w g' t' cs') (hne : t ≠ t') : g ≠ g' := by
  rintro rfl
  have := h.symm.trans h'
  injection this with this
  injection this with _ ht
  exact hne ht
theorem Bk.own_ne {base e size n : Nat} {v : Value} {xs : List Value} (hg : Bk w g t cs) (h : w.ownsRow base e size v n xs) (hne : e ≠ t) : some g ≠ v.ownBlock := by
  rcases h.2 with ⟨rfl, _⟩ | ⟨g', cap, cur, rfl, _, hh, _⟩
  · simp [Value.ownBlock]
  · intro he
    have : g = g' := by simpa [Value.ownBlock] using he
    subst this
    exact Bk.ne (t := e) hh hg hne rfl
end

section
variable {P : Program} (w : World)

/-- append onto an owned row, from a slice that reads: nil, empty or not. -/
theorem run_append_rd (base t ty e : Nat) (i : TypeInfo) (z : Value) (size bytes : Nat) (ht : P.underlying t = some (.slice e)) (hi : P.info? e = some i) (hz : i.zero = some z)
    (hsize : i.size = size) (hby : i.bytes = bytes) (hzs : z.cells.size = size) (hsz : 0 < size)
    (v : Value) (n : Nat) (xs : List Value) (hown : w.ownsRow base e size v n xs)
    (B : Nat) (A : Option Addr) (m c : Nat) (news : List Value) (hl : news.length = m * size) (hr : Rd w B A news) (h1 : ∀ u ∈ news, u.oneCell' = true)
    (h63 : n + m ≤ 140737488355328) (hbytes : (n + m) * bytes ≤ 140737488355328) (hbase : base ≤ w.heap.size) :
    ∃ v' w', (Builtin.append_ #[t, t] ty #[v, .slice A m c]).run P w = .ok v' w' ∧ w'.ownsRow base e size v' (n + m) (xs ++ news) ∧ w.grownBy w' v.ownBlock ∧
      (v'.ownBlock = v.ownBlock ∨ v'.ownBlock = some w.heap.size) := by
  rcases Nat.eq_zero_or_pos m with rfl | hm
  · have hnn : news = [] := List.eq_nil_of_length_eq_zero (by simpa using hl)
    subst hnn
    refine ⟨v, w, ?_, by simpa using hown, World.grownBy.refl w _, .inl rfl⟩
    rcases hown.2 with ⟨rfl, rfl⟩ | ⟨g, cap, cur, rfl, _, _, hnc, _⟩ <;> cases A <;>
      simp [Builtin.append_, run_underlying ht, sizeOf, typeInfo, Builtin.lenOf, Builtin.firstCells, *, storeCells, loadCells, loadCellsFrom]
  · have hpos : 0 < news.length := by rw [hl]; exact Nat.mul_pos hm hsz
    obtain ⟨g, o, rfl, _, _⟩ := hr.at_ hpos
    obtain ⟨v', w', hrun, h2, h3, _, h5⟩ := run_append_own_at (P := P) w base t ty e i z size bytes ht hi hz hsize hby hzs hsz v n xs hown ⟨g, o, none⟩ m c news hl
      (fun j u hu => by
        obtain ⟨g', o', he, _, hc⟩ := hr j u hu
        simp only [Option.some.injEq, Addr.mk.injEq, and_true] at he
        obtain ⟨rfl, rfl⟩ := he
        rw [Addr.add_lit]
        exact hc) h1 (by simp only [maxLen]; omega) hbytes hbase
    exact ⟨v', w', hrun, h2, h3, h5⟩

theorem wp_append_rd {o : Oper} {a : Act} {K : Act → World → Prop} {Q : Exit → Act → World → Prop} (s x : Operand) (t : TypeId)
    (ho : o.op = .call { callee := .builtin .append, args := #[s, x], argTypes := #[t, t] })
    (base e : Nat) (i : TypeInfo) (z : Value) (size bytes : Nat) (ht : P.underlying t = some (.slice e)) (hi : P.info? e = some i) (hz : i.zero = some z)
    (hsize : i.size = size) (hby : i.bytes = bytes) (hzs : z.cells.size = size) (hsz : 0 < size)
    (v : Value) (n : Nat) (xs : List Value) (hs : a.eval s = v) (hown : w.ownsRow base e size v n xs)
    (B : Nat) (A : Option Addr) (m c : Nat) (news : List Value) (hx : a.eval x = .slice A m c) (hl : news.length = m * size) (hr : Rd w B A news) (h1 : ∀ u ∈ news, u.oneCell' = true)
    (h63 : n + m ≤ 140737488355328) (hbytes : (n + m) * bytes ≤ 140737488355328) (hbase : base ≤ w.heap.size)
    (h : ∀ v' w', w'.ownsRow base e size v' (n + m) (xs ++ news) → w.grownBy w' v.ownBlock → (v'.ownBlock = v.ownBlock ∨ v'.ownBlock = some w.heap.size) → K (a.put o.dst v') w') : o.wp P a w K Q := by
  obtain ⟨v', w', hrun, h2, h3, h4⟩ := run_append_rd (P := P) w base t o.type e i z size bytes ht hi hz hsize hby hzs hsz v n xs hown B A m c news hl hr h1 h63 hbytes hbase
  unfold Oper.wp execOp
  simp only [ho, resolve, invoke, builtin, Sem.run_bind, Sem.run_pure, Result.andThen_ok, List.map_toArray, List.map_cons, List.map_nil, hs, hx, hrun]
  exact h v' w' h2 h3 h4

theorem wpList_append_rd {ops : Array Oper} {rest : List Oper} {o : Oper} {a : Act} {Q : Exit → Act → World → Prop} (hgd : o.guard = none) (s x : Operand) (t : TypeId)
    (ho : o.op = .call { callee := .builtin .append, args := #[s, x], argTypes := #[t, t] })
    (base e : Nat) (i : TypeInfo) (z : Value) (size bytes : Nat) (ht : P.underlying t = some (.slice e)) (hi : P.info? e = some i) (hz : i.zero = some z)
    (hsize : i.size = size) (hby : i.bytes = bytes) (hzs : z.cells.size = size) (hsz : 0 < size)
    (v : Value) (n : Nat) (xs : List Value) (hs : a.eval s = v) (hown : w.ownsRow base e size v n xs)
    (B : Nat) (A : Option Addr) (m c : Nat) (news : List Value) (hx : a.eval x = .slice A m c) (hl : news.length = m * size) (hr : Rd w B A news) (h1 : ∀ u ∈ news, u.oneCell' = true)
    (h63 : n + m ≤ 140737488355328) (hbytes : (n + m) * bytes ≤ 140737488355328) (hbase : base ≤ w.heap.size)
    (h : ∀ v' w', w'.ownsRow base e size v' (n + m) (xs ++ news) → w.grownBy w' v.ownBlock → (v'.ownBlock = v.ownBlock ∨ v'.ownBlock = some w.heap.size) → wpList P ops Q rest (a.put o.dst v') w') : wpList P ops Q (o :: rest) a w :=
  wpList_plain hgd fun _ hK => wp_append_rd w s x t ho base e i z size bytes ht hi hz hsize hby hzs hsz v n xs hs hown B A m c news hx hl hr h1 h63 hbytes hbase fun v' w' h2 h3 h4 => hK _ _ (h v' w' h2 h3 h4)

theorem step_append_rd {ops : Array Oper} {o : Oper} {a : Act} {K : Act → World → Prop} {Q : Exit → Act → World → Prop} {E : Prop} (hgd : o.guard = none) (s x : Operand) (t : TypeId)
    (ho : o.op = .call { callee := .builtin .append, args := #[s, x], argTypes := #[t, t] })
    (base e : Nat) (i : TypeInfo) (z : Value) (size bytes : Nat) (ht : P.underlying t = some (.slice e)) (hi : P.info? e = some i) (hz : i.zero = some z)
    (hsize : i.size = size) (hby : i.bytes = bytes) (hzs : z.cells.size = size) (hsz : 0 < size)
    (v : Value) (n : Nat) (xs : List Value) (hs : a.eval s = v) (hown : w.ownsRow base e size v n xs)
    (B : Nat) (A : Option Addr) (m c : Nat) (news : List Value) (hx : a.eval x = .slice A m c) (hl : news.length = m * size) (hr : Rd w B A news) (h1 : ∀ u ∈ news, u.oneCell' = true)
    (h63 : n + m ≤ 140737488355328) (hbytes : (n + m) * bytes ≤ 140737488355328) (hbase : base ≤ w.heap.size)
    (h : ∀ v' w', w'.ownsRow base e size v' (n + m) (xs ++ news) → w.grownBy w' v.ownBlock → (v'.ownBlock = v.ownBlock ∨ v'.ownBlock = some w.heap.size) → K (a.put o.dst v') w') :
    if Region.wanted o (yielded ops a.tmps) = true then Oper.wp P o a w K Q else E := by
  rw [if_pos (by simp [Region.wanted, hgd])]
  exact wp_append_rd w s x t ho base e i z size bytes ht hi hz hsize hby hzs hsz v n xs hs hown B A m c news hx hl hr h1 h63 hbytes hbase h
end

/-- Bytes as cells. -/
def bts (l : List Int) : List Value := l.map (Value.int .u8)
theorem bts_len (l : List Int) : (bts l).length = l.length := by simp [bts]
theorem bts_one (l : List Int) : ∀ u ∈ bts l, u.oneCell' = true := ints_oneCell .u8 l
theorem bts_app (a b : List Int) : bts (a ++ b) = bts a ++ bts b := by simp [bts]
theorem bts_get (l : List Int) (j : Nat) (hj : j < l.length) : (bts l)[j]? = some (.int .u8 (l.getD j 0)) := by
  simp [bts, List.getD, List.getElem?_eq_getElem hj]

/-- The block of one byte that the translation lays ahead of an append. -/
theorem Rd.new1 (w : World) (x : Int) (t : TypeId) : Rd (w.alloc (.cells #[.int .u8 x] t)) (w.heap.size + 1) (some ⟨w.heap.size, 0, none⟩) (bts [x]) := by
  intro j u hu
  have hj : j = 0 := by have := (List.getElem?_eq_some_iff.1 hu).1; simpa [bts] using this
  subst hj
  simp [bts] at hu
  subst hu
  exact ⟨_, _, rfl, by omega, by rw [cell_of_row _ _ _ _ _ _ (heap_alloc_new w _)]; rfl⟩

theorem own_form {w : World} {base e size n : Nat} {v : Value} {xs : List Value} (h : w.ownsRow base e size v n xs) : ∃ A c, v = .slice A n c ∧ n ≤ c := by
  rcases h.2 with ⟨rfl, rfl⟩ | ⟨g, cap, cur, rfl, _, _, hc, _⟩
  · exact ⟨_, _, rfl, Nat.le_refl _⟩
  · exact ⟨_, _, rfl, hc⟩

theorem Below.of_own {B : Nat} {w w' : World} {row : Option Nat} {base e size n : Nat} {v : Value} {xs : List Value} {a : World} (h : Below B a w) (hg : w.grownBy w' row) (hrow : row = v.ownBlock) (hown : w.ownsRow base e size v n xs) (hb : B ≤ base) (hB : B ≤ w.heap.size) : Below B a w' :=
  h.grown hg hB (fun k hk => by have := (hown.lt k (hrow ▸ hk)).1; omega)

theorem own_less {w : World} {base base' e size n : Nat} {v : Value} {xs : List Value} (h : w.ownsRow base' e size v n xs) (hb : base ≤ base') : w.ownsRow base e size v n xs := by
  refine ⟨h.1, ?_⟩
  rcases h.2 with h | ⟨g, cap, cur, h1, h2, h3⟩
  · exact .inl h
  · exact .inr ⟨g, cap, cur, h1, by omega, h3⟩

theorem bts_take (l : List Int) (k : Nat) : bts (l.take k) = (bts l).take k := by simp [bts, List.map_take]
theorem bts_drop (l : List Int) (k : Nat) : bts (l.drop k) = (bts l).drop k := by simp [bts, List.map_drop]

theorem own_eq {w : World} {base e n : Nat} {v : Value} {xs : List Value} {l : List Int} (h : w.ownsRow base e 1 v n xs) (he : xs = bts l) : w.ownsRow base e 1 v l.length (bts l) := by
  subst he
  have := h.1
  rw [bts_len, Nat.mul_one] at this
  rw [this]
  exact h

/-- The block of some bytes that the translation lays ahead of an append. -/
theorem Rd.newL (w : World) (l : List Int) (t : TypeId) : Rd (w.alloc (.cells (bts l).toArray t)) (w.heap.size + 1) (some ⟨w.heap.size, 0, none⟩) (bts l) := by
  intro j u hu
  exact ⟨_, _, rfl, by omega, by rw [cell_of_row _ _ _ _ _ _ (heap_alloc_new w _)]; simpa using hu⟩

theorem own_cap {w : World} {base e size n c : Nat} {A : Option Addr} {xs : List Value} (h : w.ownsRow base e size (.slice A n c) n xs) : n ≤ c ∧ c ≤ 9223372036854775807 := by
  rcases h.2 with ⟨hv, rfl⟩ | ⟨g, cap, cur, hv, _, _, hc, hm, _⟩
  · injection hv with _ _ h3
    subst h3
    omega
  · injection hv with _ _ h3
    subst h3
    unfold maxLen at hm
    omega

/-- A packet: its first number, the number behind it, its payload. -/
structure Pk where
  seq : Int
  next : Int
  body : List Int

/-- The cells read as these packets; each payload lies below B. -/
def PkL (w : World) (B : Nat) : List Value → List Pk → Prop
  | [], [] => True
  | a :: b :: c :: cs, p :: ps => (a = .int .u8 p.seq ∧ b = .int .u8 p.next ∧ ∃ A k, c = .slice A p.body.length k ∧ p.body.length ≤ k ∧ Rd w B A (bts p.body)) ∧ PkL w B cs ps
  | _, _ => False

theorem PkL.get {w : World} {B : Nat} : ∀ {cs : List Value} {ps : List Pk}, PkL w B cs ps → ∀ k (hk : k < ps.length),
    ∃ A c, cs[k * 3]? = some (.int .u8 ps[k].seq) ∧ cs[k * 3 + 1]? = some (.int .u8 ps[k].next) ∧ cs[k * 3 + 2]? = some (.slice A ps[k].body.length c) ∧ ps[k].body.length ≤ c ∧ Rd w B A (bts ps[k].body)
  | [], [], _, k, hk => by simp at hk
  | a :: b :: c :: cs, p :: ps, h, 0, _ => by
    obtain ⟨⟨rfl, rfl, A, k, rfl, h1, h2⟩, _⟩ := h
    exact ⟨A, k, rfl, rfl, rfl, h1, h2⟩
  | a :: b :: c :: cs, p :: ps, h, k + 1, hk => by
    obtain ⟨A, c, h1, h2, h3, h4, h5⟩ := PkL.get h.2 k (by simpa using hk)
    refine ⟨A, c, ?_, ?_, ?_, h4, h5⟩
    · rw [show (k + 1) * 3 = k * 3 + 3 from by omega]; simpa using h1
    · rw [show (k + 1) * 3 + 1 = k * 3 + 1 + 3 from by omega]; simpa using h2
    · rw [show (k + 1) * 3 + 2 = k * 3 + 2 + 3 from by omega]; simpa using h3
  | [], _ :: _, h, _, _ => h.elim
  | [_], _ :: _, h, _, _ => h.elim
  | [_, _], _ :: _, h, _, _ => h.elim
  | [_], [], h, _, _ => h.elim
  | [_, _], [], h, _, _ => h.elim
  | _ :: _ :: _ :: _, [], h, _, _ => h.elim

theorem PkL.len {w : World} {B : Nat} : ∀ {cs : List Value} {ps : List Pk}, PkL w B cs ps → cs.length = ps.length * 3
  | [], [], _ => rfl
  | a :: b :: c :: cs, p :: ps, h => by have := PkL.len h.2; simp only [List.length_cons]; omega
  | [], _ :: _, h => h.elim
  | [_], _ :: _, h => h.elim
  | [_, _], _ :: _, h => h.elim
  | [_], [], h => h.elim
  | [_, _], [], h => h.elim
  | _ :: _ :: _ :: _, [], h => h.elim

theorem PkL.keep {w w' : World} {B B' : Nat} (hk : ∀ A xs, Rd w B A xs → Rd w' B' A xs) : ∀ {cs : List Value} {ps : List Pk}, PkL w B cs ps → PkL w' B' cs ps
  | [], [], _ => trivial
  | a :: b :: c :: cs, p :: ps, h => by
    obtain ⟨⟨h1, h2, A, k, h3, h4, h5⟩, h6⟩ := h
    exact ⟨⟨h1, h2, A, k, h3, h4, hk _ _ h5⟩, PkL.keep hk h6⟩
  | [], _ :: _, h => h.elim
  | [_], _ :: _, h => h.elim
  | [_, _], _ :: _, h => h.elim
  | [_], [], h => h.elim
  | [_, _], [], h => h.elim
  | _ :: _ :: _ :: _, [], h => h.elim

theorem PkL.app {w : World} {B : Nat} {cs' : List Value} {ps' : List Pk} (h' : PkL w B cs' ps') : ∀ {cs : List Value} {ps : List Pk}, PkL w B cs ps → PkL w B (cs ++ cs') (ps ++ ps')
  | [], [], _ => h'
  | _ :: _ :: _ :: _, _ :: _, h => ⟨h.1, PkL.app h' h.2⟩
  | [], _ :: _, h => h.elim
  | [_], _ :: _, h => h.elim
  | [_, _], _ :: _, h => h.elim
  | [_], [], h => h.elim
  | [_, _], [], h => h.elim
  | _ :: _ :: _ :: _, [], h => h.elim

end Go.Proofs.Ytmggelebnghkfaa
