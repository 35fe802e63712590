/- The statements' own examples (lives) come out: it returns true, whatever the world. -/
import Derived.Test.YtmggelebnghkfaaB
import Derived.Test.YtmggelebnghkfaaD
import Derived.Test.YtmggelebnghkfaaO
import Derived.Lib.SlBytesConst
namespace Go.Proofs.Ytmggelebnghkfaa
open Go.RowKit

theorem ex_split : splitF 4 [97, 98, 99, 100, 101, 102] 254 = ([4, 0, 0, 254, 97, 98, 99, 100, 2, 0, 0, 255, 101, 102], 0) := by rfl

theorem ex_join : joinF 4 9 [1, 0, 0, 7, 97, 1, 0] = ([⟨7, 8, [97]⟩], 5, 4) := by rfl

/-- A slice of bytes of the call's own that reads. -/
def SplitPost (R : List Int × Int) (w : World) (e : Ending) (w' : World) : Prop :=
  ∃ Ao co, e = .returned (.tuple #[.slice Ao R.1.length co, .int .u8 R.2, .int .i64 0]) ∧ Rd w' w'.heap.size Ao (bts R.1) ∧ Below w.heap.size w w' ∧ R.1.length ≤ co

theorem split_read {f : FuncId} {args : Array Value} {R : List Int × Int} {w : World} (h : Calls Try.prog f args w fun e w' => ∃ v, e = .returned (.tuple #[v, .int .u8 R.2, .int .i64 0]) ∧ w'.ownsRow w.heap.size 5 1 v R.1.length (bts R.1) ∧ Below w.heap.size w w') :
    Calls Try.prog f args w (SplitPost R w) := by
  refine h.mono ?_
  rintro e w' ⟨v, he, ho, hb⟩
  obtain ⟨Ao, co, rfl, hc⟩ := own_form ho
  exact ⟨Ao, co, he, Rd.of_own ho, hb, hc⟩

theorem Rd.newF (w : World) (l : List Int) (t : TypeId) (fr : Nat × Nat) : Rd (w.alloc (.cells (bts l).toArray t fr)) (w.heap.size + 1) (some ⟨w.heap.size, 0, none⟩) (bts l) := by
  intro j u hu
  exact ⟨_, _, rfl, by omega, by rw [cell_of_row _ _ _ _ _ _ (heap_alloc_new w _)]; simpa using hu⟩

theorem conv_next (w : World) (o : Obj) (C : Array Value) (n c : Nat) :
    (convert 22 22 (.slice (some ⟨w.heap.size + 1, 0, none⟩) n c)).run Try.prog ((w.alloc o).alloc (.cells C 5)) = .ok (.slice (some ⟨w.heap.size + 1, 0, none⟩) n c) ((w.alloc o).alloc (.cells C 5 (C.size, C.size + 1))) := by
  have h := Lib.run_convert_bytes_const (P := Try.prog) (w.alloc o) 22 5 C n c Try.underlying22 Try.underlying5
  have hs : (w.alloc o).heap.size = w.heap.size + 1 := by simp
  rw [hs] at h
  exact h

/-- One packet as a literal: its payload's row, then its own. -/
theorem lit_pk (W : World) (a : Obj) : ∃ cs, cs = [.int .u8 7, .int .u8 8, .slice (some ⟨W.heap.size + 1, 0, none⟩) 1 1] ∧
    Rd (((W.alloc a).alloc (.cells #[.int .u8 97] 5 (1, 2))).alloc (.cells cs.toArray 41)) (W.heap.size + 3) (some ⟨W.heap.size + 2, 0, none⟩) cs ∧
    PkL (((W.alloc a).alloc (.cells #[.int .u8 97] 5 (1, 2))).alloc (.cells cs.toArray 41)) (W.heap.size + 3) cs [⟨7, 8, [97]⟩] := by
  have h1 := Rd.newF (W.alloc a) [97] 5 (1, 2)
  have hs1 : (W.alloc a).heap.size = W.heap.size + 1 := by simp
  rw [hs1] at h1
  refine ⟨_, rfl, ?_, ⟨rfl, rfl, _, 1, rfl, by decide, ?_⟩, trivial⟩
  · have h2 := Rd.newC ((W.alloc a).alloc (.cells #[.int .u8 97] 5 (1, 2))) [.int .u8 7, .int .u8 8, .slice (some ⟨W.heap.size + 1, 0, none⟩) 1 1] 41
    have hs2 : ((W.alloc a).alloc (.cells #[.int .u8 97] 5 (1, 2))).heap.size = W.heap.size + 2 := by simp
    rw [hs2] at h2
    exact h2
  · exact (Rd.alloc h1 (by simp) _).more (by omega)

theorem pk_call (W : World) (A2 : Option Addr) (c2 : Nat) (cs : List Value) (a : Obj) (hr : Rd W W.heap.size A2 cs) (hp : PkL W W.heap.size cs [⟨7, 8, [97]⟩]) :
    Calls Try.prog 13 #[.slice A2 1 c2, .slice (some ⟨W.heap.size + 2, 0, none⟩) 1 1] (((W.alloc a).alloc (.cells #[.int .u8 97] 5 (1, 2))).alloc (.cells #[.int .u8 7, .int .u8 8, .slice (some ⟨W.heap.size + 1, 0, none⟩) 1 1] 41))
      fun e w' => e = .returned (.bool true) ∧ ∃ m, (((W.alloc a).alloc (.cells #[.int .u8 97] 5 (1, 2))).alloc (.cells #[.int .u8 7, .int .u8 8, .slice (some ⟨W.heap.size + 1, 0, none⟩) 1 1] 41)).drewN m = w' := by
  obtain ⟨ds, hds, hrd, hpd⟩ := lit_pk W a
  subst hds
  have k1 : W.heap.size ≤ (W.alloc a).heap.size := by simp
  have k2 : W.heap.size ≤ ((W.alloc a).alloc (.cells #[.int .u8 97] 5 (1, 2))).heap.size := by simp; omega
  exact samePk_any A2 (some ⟨W.heap.size + 2, 0, none⟩) 1 c2 1 W.heap.size (W.heap.size + 3) cs _ [⟨7, 8, [97]⟩] _ rfl (by omega)
    (((hr.alloc (Nat.le_refl _) _).alloc k1 _).alloc k2 _) hrd (hp.keep (fun A xs h => ((h.alloc (Nat.le_refl _) _).alloc k1 _).alloc k2 _)) hpd

set_option maxHeartbeats 1600000 in
set_option maxRecDepth 100000 in
theorem lives_any (w : World) : Calls Try.prog 5 #[] w fun e w' => e = .returned (.bool true) ∧ Below w.heap.size w w' := by
  have kc := fun (w : World) (C : Array Value) (n c : Nat) => Lib.run_convert_bytes_const (P := Try.prog) w 22 5 C n c Try.underlying22 Try.underlying5
  have h1 := fun w0 : World => split_read (split_any (some ⟨w0.heap.size, 0, none⟩) 6 6 (w0.heap.size + 1) [97, 98, 99, 100, 101, 102] 254 4 (w0.alloc (.cells (bts [97, 98, 99, 100, 101, 102]).toArray 5 (6, 7))) rfl (by omega) (by omega) (Rd.newF w0 _ 5 _) (by simp) (by omega) (by omega) (by omega) (by omega) (by omega))
  have h2 := fun w0 : World => join_any 4 9 (some ⟨w0.heap.size, 0, none⟩) 7 7 (w0.heap.size + 1) [1, 0, 0, 7, 97, 1, 0] (w0.alloc (.cells (bts [1, 0, 0, 7, 97, 1, 0]).toArray 5)) rfl (Rd.newL w0 _ 5) (by simp) (by intro z hz; simp at hz; omega) (by omega) (by omega) (by omega) (by omega) (by omega)
  rw [ex_split] at h1
  rw [ex_join] at h2
  have H1 := Lib.hid h1
  have H2 := Lib.hid h2
  clear h1 h2
  have kc2 := conv_next
  go_enter Try.func5, Try.ntmps5
  go_wp2_with (first
    | (go_at_call 7; refine (H1.out w).mono ?_; rintro e w1 ⟨A1, c1, rfl, hr1, hb1, hc1⟩; have HR1 := Lib.hid hr1; have HB1 := Lib.hid (((Below.refl w.heap.size w).alloc (Nat.le_refl _) _).trans (hb1.mono (by simp))); clear hr1 hb1)
    | (go_at_call 11; refine (H2.out w1).mono ?_; rintro e w2 ⟨A2, c2, cs, rfl, hr2, hp2, hb2⟩; have HR2 := Lib.hid hr2; have HP2 := Lib.hid hp2; have HB2 := Lib.hid (((Below.refl w1.heap.size w1).alloc (Nat.le_refl _) _).trans (hb2.mono (by simp))); clear hr2 hp2 hb2)
    | (go_at_call 9; refine (same_any A1 (some ⟨w2.heap.size, 0, none⟩) c1 14 14 w1.heap.size (w2.heap.size + 1) [4, 0, 0, 254, 97, 98, 99, 100, 2, 0, 0, 255, 101, 102] _ rfl ((HR1.out.below HB2.out).alloc HB2.out.size _) (Rd.newL w2 _ 5)).mono ?_; rintro e w3 ⟨rfl, rfl⟩)
    | (go_at_call 13; refine (pk_call w2 A2 c2 cs _ HR2.out HP2.out).mono ?_; rintro e w4 ⟨rfl, m4, rfl⟩))
  go_ret
  refine ⟨rfl, ?_⟩
  have h1 := HB1.out.trans (HB2.out.mono HB1.out.size)
  have h2 := h1.size
  exact below_drewN (((h1.alloc h2 _).alloc (by simp; omega) _).alloc (by simp; omega) _) m4

end Go.Proofs.Ytmggelebnghkfaa
