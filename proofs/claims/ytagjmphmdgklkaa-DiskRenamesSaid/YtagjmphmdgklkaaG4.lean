/- Parts of the proof, one behind the other: Dren Dren2 Dloose Dinv Dinv2 Dinv3 Dtotal Dawake Down. -/
import Derived.Test.YtagjmphmdgklkaaG3
/- Walks: Rename. -/
namespace Go.Proofs.Ytagjmphmdgklkaa
open Go.RowKit

set_option maxRecDepth 100000 in
set_option maxHeartbeats 1000000 in
theorem ren1_core {w : World} {bN ba bi bb b : Nat} (hN : w.cell? ⟨bN, 0, none⟩ = some (.pointer (some ⟨b, 0, none⟩))) {R : World → Prop}
    (ha : Calls Try.prog 88 #[.pointer (some ⟨b, 0, none⟩), .agg #[.int .i64 1, .func (.func 94) #[] #[.pointer (some ⟨ba, 0, none⟩), .pointer (some ⟨bi, 0, none⟩), .pointer (some ⟨bb, 0, none⟩)]]] w fun e w' => e = .returned (.tuple #[]) ∧ R w') :
    Calls Try.prog 93 #[.pointer (some ⟨bN, 0, none⟩), .pointer (some ⟨ba, 0, none⟩), .pointer (some ⟨bi, 0, none⟩), .pointer (some ⟨bb, 0, none⟩)] w fun e w' => e = .returned (.tuple #[]) ∧ R w' := by
  have HA := Lib.hid ha
  clear ha
  go_enter Try.func93, Try.ntmps93
  go_wp2_with (go_at_call 88; refine HA.out.mono ?_; rintro e w' ⟨rfl, hR⟩; have HR := Lib.hid hR; clear hR)
  go_end0
  exact ⟨rfl, HR.out⟩

set_option maxRecDepth 100000 in
set_option maxHeartbeats 1000000 in
theorem ren_e1 {w : World} {p : Nat} {i e0 : Int} {s u : ByteArray} (ha : ∀ W, Below w.heap.size w W → Calls Try.prog 61 #[.pointer (some ⟨p, 0, none⟩), .int .i64 i, .bool true] W fun e w' => e = .returned (.tuple #[.pointer none, .int .i64 e0]) ∧ W = w')
    (hne : (e0 != 0) = true) : Calls Try.prog 41 #[.pointer (some ⟨p, 0, none⟩), .int .i64 i, .string s, .string u] w fun e w' => e = .returned (.int .i64 e0) ∧ Below w.heap.size w w' := by
  have HA := Lib.hid ha
  clear ha
  go_enter Try.func41, Try.ntmps41
  go_wp2_with (go_at_call 61; refine (HA.out _ ?_).mono ?_; exact (((Below.refl _ _).alloc (Nat.le_refl _) _).alloc (by simp) _); rintro e w' ⟨rfl, rfl⟩)
  go_ret
  exact ⟨rfl, three_below _ _ _⟩

set_option maxRecDepth 100000 in
set_option maxHeartbeats 1000000 in
theorem ren_e2 {w : World} {p b : Nat} {i : Int} {s u : ByteArray} (ha : ∀ W, Below w.heap.size w W → Calls Try.prog 61 #[.pointer (some ⟨p, 0, none⟩), .int .i64 i, .bool true] W fun e w' => e = .returned (.tuple #[.pointer (some ⟨b, 0, none⟩), .int .i64 0]) ∧ W = w')
    (hm : mayB u = false) : Calls Try.prog 41 #[.pointer (some ⟨p, 0, none⟩), .int .i64 i, .string s, .string u] w fun e w' => e = .returned (.int .i64 7) ∧ Below w.heap.size w w' := by
  have HA := Lib.hid ha
  have hy : ∀ W, Calls Try.prog 92 #[.string u] W fun e w' => e = .returned (.bool false) ∧ W = w' := fun W => by rw [← hm]; exact may_any u W
  have HM := Lib.hid hy
  clear ha hy hm
  go_enter Try.func41, Try.ntmps41
  go_wp2_with (first | (go_at_call 61; refine (HA.out _ ?_).mono ?_; exact (((Below.refl _ _).alloc (Nat.le_refl _) _).alloc (by simp) _); rintro e w' ⟨rfl, rfl⟩) | (go_at_call 92; refine (HM.out _).mono ?_; rintro e w' ⟨rfl, rfl⟩))
  go_ret
  exact ⟨rfl, three_below _ _ _⟩

structure RBoxes (w W : World) (b : Nat) (s u : ByteArray) : Prop where
  below : Below w.heap.size w W
  b0 : Blk W w.heap.size [.string s]
  b1 : Blk W (w.heap.size + 1) [.string u]
  b2 : Blk W (w.heap.size + 1 + 1) [ptr b]
  sz : W.heap.size = w.heap.size + 1 + 1 + 1

theorem rboxes_made (w : World) (b : Nat) (s u : ByteArray) (T0 T1 T2 : TypeId) : RBoxes w (((w.alloc (.cells #[.string s] T0)).alloc (.cells #[.string u] T1)).alloc (.cells #[.pointer (some ⟨b, 0, none⟩)] T2)) b s u := by
  have al : ∀ {W : World} {k : Nat} {cs : List Value} (o : Obj), Blk W k cs → Blk (W.alloc o) k cs := fun o h => h.of_block (Below.heap_alloc _ _ _ h.lt)
  refine ⟨three_below _ _ _, al _ (al _ (Blk.made w _ T0)), ?_, ?_, by simp⟩
  · have := Blk.made (w.alloc (.cells #[.string s] T0)) #[.string u] T1
    simp only [World.size_alloc] at this
    exact al _ this
  · have := Blk.made ((w.alloc (.cells #[.string s] T0)).alloc (.cells #[.string u] T1)) #[.pointer (some ⟨b, 0, none⟩)] T2
    simp only [World.size_alloc] at this
    exact this

/-- .. and the found node's -/
structure RTwo (w W : World) (b : Nat) (s u : ByteArray) (xi : Int) : Prop where
  below : Below w.heap.size w W
  b0 : Blk W w.heap.size [.string s]
  b1 : Blk W (w.heap.size + 1) [.string u]
  b2 : Blk W (w.heap.size + 1 + 1) [ptr b]
  b3 : Blk W (w.heap.size + 1 + 1 + 1) [.int .i64 xi]

theorem rtwo_made {w W : World} {b : Nat} {s u : ByteArray} (h : RBoxes w W b s u) (xi : Int) (T : TypeId) : RTwo w (W.alloc (.cells #[.int .i64 xi] T)).drew b s u xi := by
  have al : ∀ {k : Nat} {cs : List Value}, Blk W k cs → Blk (W.alloc (.cells #[.int .i64 xi] T)).drew k cs := fun h => h.of_block (Below.heap_alloc _ _ _ h.lt)
  refine ⟨(h.below.alloc h.below.size _).drew, al h.b0, al h.b1, al h.b2, ?_⟩
  have := Blk.made W #[.int .i64 xi] T
  rw [h.sz] at this
  exact this

structure RPre (w : World) (p b : Nat) (i : Int) (s u : ByteArray) (xi xk : Int) (is there : Bool) : Prop where
  of : ∀ W, Below w.heap.size w W → Calls Try.prog 61 #[.pointer (some ⟨p, 0, none⟩), .int .i64 i, .bool true] W fun e w' => e = .returned (.tuple #[.pointer (some ⟨b, 0, none⟩), .int .i64 0]) ∧ W = w'
  may : ∀ W, Calls Try.prog 92 #[.string u] W fun e w' => e = .returned (.bool true) ∧ W = w'
  look : ∃ m, w.cell? ⟨b, 4, none⟩ = some (.map (some m)) ∧ b < w.heap.size ∧ (∀ W, Below w.heap.size w W → (Instr.lookup 101 (.map (some m)) (.string s) true).run Try.prog W = .ok (.tuple #[.int .i64 xi, .bool is]) W) ∧
    (∀ W, Below w.heap.size w W → (Instr.lookup 101 (.map (some m)) (.string u) true).run Try.prog W = .ok (.tuple #[.int .i64 xk, .bool there]) W)

theorem RTwo.drew {w W : World} {b : Nat} {s u : ByteArray} {xi : Int} (h : RTwo w W b s u xi) : RTwo w W.drew b s u xi := ⟨h.below.drew, h.b0, h.b1, h.b2, h.b3⟩

/-- two nodes, and whether they are directories */ -/
def RCells (w : World) (p j l : Nat) (dj dl : Bool) : Prop :=
  ∃ g n cap bj bl, w.cell? ⟨p, 0, none⟩ = some (.slice (some ⟨g, 0, none⟩) n cap) ∧ p < w.heap.size ∧ n ≤ 4096 ∧ j < n ∧ l < n ∧ w.cell? ⟨g, j, none⟩ = some (.pointer (some ⟨bj, 0, none⟩)) ∧ w.cell? ⟨g, l, none⟩ = some (.pointer (some ⟨bl, 0, none⟩)) ∧ g < w.heap.size ∧
    w.cell? ⟨bj, 0, none⟩ = some (.bool dj) ∧ bj < w.heap.size ∧ w.cell? ⟨bl, 0, none⟩ = some (.bool dl) ∧ bl < w.heap.size

set_option maxRecDepth 100000 in
set_option maxHeartbeats 1000000 in
theorem ren_e3 {w : World} {p b : Nat} {xi xk : Int} {there : Bool} {i : Int} {s u : ByteArray} (h : RPre w p b i s u xi xk false there) :
    Calls Try.prog 41 #[.pointer (some ⟨p, 0, none⟩), .int .i64 i, .string s, .string u] w fun e w' => e = .returned (.int .i64 8) ∧ Below w.heap.size w w' := by
  obtain ⟨ha, hy, m, c4, hbl, hl1, hl2⟩ := h
  have HA := Lib.hid ha
  have HM := Lib.hid hy
  have HL1 := Lib.hid hl1
  have HL2 := Lib.hid hl2
  clear ha hy hl1 hl2
  go_enter Try.func41, Try.ntmps41
  go_wp2_with (first | (go_at_call 61; refine (HA.out _ ?_).mono ?_; exact (((Below.refl _ _).alloc (Nat.le_refl _) _).alloc (by simp) _); rintro e w' ⟨rfl, rfl⟩) | (go_at_call 92; refine (HM.out _).mono ?_; rintro e w' ⟨rfl, rfl⟩))
  have hB := rboxes_made w b s u 9 9 98
  generalize ((w.alloc (.cells #[.string s] 9)).alloc (.cells #[.string u] 9)).alloc (.cells #[.pointer (some ⟨b, 0, none⟩)] 98) = W at *
  have q4 := (hB.below.cell (p := ⟨b, 4, none⟩) hbl).trans c4
  have q0 : W.cell? ⟨w.heap.size, 0, none⟩ = some (.string s) := hB.b0.cell 0
  have q1 : W.cell? ⟨w.heap.size + 1, 0, none⟩ = some (.string u) := hB.b1.cell 0
  have q2 : W.cell? ⟨w.heap.size + 1 + 1, 0, none⟩ = some (.pointer (some ⟨b, 0, none⟩)) := hB.b2.cell 0
  have l1 := HL1.out W.drew hB.below.drew
  have hA : Below w.heap.size w (W.alloc (.cells #[.int .i64 0] 3)) := hB.below.alloc hB.below.size _
  have a4 := cell_alloc (.cells #[.int .i64 0] 3) q4
  have a0 := cell_alloc (.cells #[.int .i64 0] 3) q0
  have a1 := cell_alloc (.cells #[.int .i64 0] 3) q1
  have a2 := cell_alloc (.cells #[.int .i64 0] 3) q2
  have l2 := HL1.out _ hA.drew
  have hsz := hB.sz
  have HB := Lib.hid hB
  have c4' := c4
  clear hB c4
  have hR := rtwo_made HB.out xi 3
  go_region
  all_goals
    clear l1 a4 a0 a1 a2 l2 hA q4 q0 q1 q2
    generalize (W.alloc (.cells #[.int .i64 xi] 3)).drew = W2 at *
    have q4 := (hR.below.cell (p := ⟨b, 4, none⟩) hbl).trans c4'
    have q0 : W2.cell? ⟨w.heap.size, 0, none⟩ = some (.string s) := hR.b0.cell 0
    have q1 : W2.cell? ⟨w.heap.size + 1, 0, none⟩ = some (.string u) := hR.b1.cell 0
    have q2 : W2.cell? ⟨w.heap.size + 1 + 1, 0, none⟩ = some (.pointer (some ⟨b, 0, none⟩)) := hR.b2.cell 0
    have q3 : W2.cell? ⟨w.heap.size + 1 + 1 + 1, 0, none⟩ = some (.int .i64 xi) := hR.b3.cell 0
    have l3 := HL2.out W2.drew hR.below.drew
    have HRR := Lib.hid hR
    clear hR
    go_wp2
    go_region
    all_goals
      go_wp2
      go_ret
      exact ⟨rfl, HRR.out.below.drew⟩

set_option maxRecDepth 100000 in
set_option maxHeartbeats 1000000 in
theorem ren_e4 {w : World} {p b : Nat} {xi xk : Int} {there : Bool} {i : Int} {s u : ByteArray} (h : RPre w p b i s u xi xk true there) (hsu : (s.toList == u.toList) = true) :
    Calls Try.prog 41 #[.pointer (some ⟨p, 0, none⟩), .int .i64 i, .string s, .string u] w fun e w' => e = .returned (.int .i64 0) ∧ Below w.heap.size w w' := by
  obtain ⟨ha, hy, m, c4, hbl, hl1, hl2⟩ := h
  have HA := Lib.hid ha
  have HM := Lib.hid hy
  have HL1 := Lib.hid hl1
  have HL2 := Lib.hid hl2
  clear ha hy hl1 hl2
  go_enter Try.func41, Try.ntmps41
  go_wp2_with (first | (go_at_call 61; refine (HA.out _ ?_).mono ?_; exact (((Below.refl _ _).alloc (Nat.le_refl _) _).alloc (by simp) _); rintro e w' ⟨rfl, rfl⟩) | (go_at_call 92; refine (HM.out _).mono ?_; rintro e w' ⟨rfl, rfl⟩))
  have hB := rboxes_made w b s u 9 9 98
  generalize ((w.alloc (.cells #[.string s] 9)).alloc (.cells #[.string u] 9)).alloc (.cells #[.pointer (some ⟨b, 0, none⟩)] 98) = W at *
  have q4 := (hB.below.cell (p := ⟨b, 4, none⟩) hbl).trans c4
  have q0 : W.cell? ⟨w.heap.size, 0, none⟩ = some (.string s) := hB.b0.cell 0
  have q1 : W.cell? ⟨w.heap.size + 1, 0, none⟩ = some (.string u) := hB.b1.cell 0
  have q2 : W.cell? ⟨w.heap.size + 1 + 1, 0, none⟩ = some (.pointer (some ⟨b, 0, none⟩)) := hB.b2.cell 0
  have l1 := HL1.out W.drew hB.below.drew
  have hA : Below w.heap.size w (W.alloc (.cells #[.int .i64 0] 3)) := hB.below.alloc hB.below.size _
  have a4 := cell_alloc (.cells #[.int .i64 0] 3) q4
  have a0 := cell_alloc (.cells #[.int .i64 0] 3) q0
  have a1 := cell_alloc (.cells #[.int .i64 0] 3) q1
  have a2 := cell_alloc (.cells #[.int .i64 0] 3) q2
  have l2 := HL1.out _ hA.drew
  have hsz := hB.sz
  have HB := Lib.hid hB
  have c4' := c4
  clear hB c4
  have hR := rtwo_made HB.out xi 3
  go_region
  all_goals
    clear l1 a4 a0 a1 a2 l2 hA q4 q0 q1 q2
    generalize (W.alloc (.cells #[.int .i64 xi] 3)).drew = W2 at *
    have q4 := (hR.below.cell (p := ⟨b, 4, none⟩) hbl).trans c4'
    have q0 : W2.cell? ⟨w.heap.size, 0, none⟩ = some (.string s) := hR.b0.cell 0
    have q1 : W2.cell? ⟨w.heap.size + 1, 0, none⟩ = some (.string u) := hR.b1.cell 0
    have q2 : W2.cell? ⟨w.heap.size + 1 + 1, 0, none⟩ = some (.pointer (some ⟨b, 0, none⟩)) := hR.b2.cell 0
    have q3 : W2.cell? ⟨w.heap.size + 1 + 1 + 1, 0, none⟩ = some (.int .i64 xi) := hR.b3.cell 0
    have l3 := HL2.out W2.drew hR.below.drew
    have HRR := Lib.hid hR
    clear hR
    go_wp2
    go_region
    all_goals
      go_wp2
      go_ret
      exact ⟨rfl, HRR.out.below.drew⟩

set_option maxRecDepth 100000 in
set_option maxHeartbeats 1000000 in
theorem ren_e5 {w : World} {p b : Nat} {j l : Nat} {i : Int} {s u : ByteArray} (h : RPre w p b i s u ((j : Int) + 1) ((l : Int) + 1) true true) (hsu : (s.toList == u.toList) = false) {dl : Bool} (hc : RCells w p j l true dl) :
    Calls Try.prog 41 #[.pointer (some ⟨p, 0, none⟩), .int .i64 i, .string s, .string u] w fun e w' => e = .returned (.int .i64 10) ∧ Below w.heap.size w w' := by
  obtain ⟨ha, hy, m, c4, hbl, hl1, hl2⟩ := h
  obtain ⟨g, n, cap, bj, bl2, c0, hp, hn, hj, hl, cg, cgl, hg, cb, hbj, cbl, hbl2⟩ := hc
  have w0 : IntKind.i64.wrap (j : Int) = (j : Int) := IntWalk.i64_in _ (by omega)
  have w1 : IntKind.i64.wrap (l : Int) = (l : Int) := IntWalk.i64_in _ (by omega)
  have HA := Lib.hid ha
  have HM := Lib.hid hy
  have HL1 := Lib.hid hl1
  have HL2 := Lib.hid hl2
  clear ha hy hl1 hl2
  go_enter Try.func41, Try.ntmps41
  go_wp2_with (first | (go_at_call 61; refine (HA.out _ ?_).mono ?_; exact (((Below.refl _ _).alloc (Nat.le_refl _) _).alloc (by simp) _); rintro e w' ⟨rfl, rfl⟩) | (go_at_call 92; refine (HM.out _).mono ?_; rintro e w' ⟨rfl, rfl⟩))
  have hB := rboxes_made w b s u 9 9 98
  generalize ((w.alloc (.cells #[.string s] 9)).alloc (.cells #[.string u] 9)).alloc (.cells #[.pointer (some ⟨b, 0, none⟩)] 98) = W at *
  have q4 := (hB.below.cell (p := ⟨b, 4, none⟩) hbl).trans c4
  have q0 : W.cell? ⟨w.heap.size, 0, none⟩ = some (.string s) := hB.b0.cell 0
  have q1 : W.cell? ⟨w.heap.size + 1, 0, none⟩ = some (.string u) := hB.b1.cell 0
  have q2 : W.cell? ⟨w.heap.size + 1 + 1, 0, none⟩ = some (.pointer (some ⟨b, 0, none⟩)) := hB.b2.cell 0
  have l1 := HL1.out W.drew hB.below.drew
  have hA : Below w.heap.size w (W.alloc (.cells #[.int .i64 0] 3)) := hB.below.alloc hB.below.size _
  have a4 := cell_alloc (.cells #[.int .i64 0] 3) q4
  have a0 := cell_alloc (.cells #[.int .i64 0] 3) q0
  have a1 := cell_alloc (.cells #[.int .i64 0] 3) q1
  have a2 := cell_alloc (.cells #[.int .i64 0] 3) q2
  have l2 := HL1.out _ hA.drew
  have hsz := hB.sz
  have HB := Lib.hid hB
  have c4' := c4
  clear hB c4
  have hR := rtwo_made HB.out ((j : Int) + 1) 3
  go_region
  all_goals
    clear l1 a4 a0 a1 a2 l2 hA q4 q0 q1 q2
    generalize (W.alloc (.cells #[.int .i64 ((j : Int) + 1)] 3)).drew = W2 at *
    have q4 := (hR.below.cell (p := ⟨b, 4, none⟩) hbl).trans c4'
    have q0 : W2.cell? ⟨w.heap.size, 0, none⟩ = some (.string s) := hR.b0.cell 0
    have q1 : W2.cell? ⟨w.heap.size + 1, 0, none⟩ = some (.string u) := hR.b1.cell 0
    have q2 : W2.cell? ⟨w.heap.size + 1 + 1, 0, none⟩ = some (.pointer (some ⟨b, 0, none⟩)) := hR.b2.cell 0
    have q3 : W2.cell? ⟨w.heap.size + 1 + 1 + 1, 0, none⟩ = some (.int .i64 ((j : Int) + 1)) := hR.b3.cell 0
    have l3 := HL2.out W2.drew hR.below.drew
    have HRR := Lib.hid hR
    clear hR
    go_wp2
    go_region
    all_goals
      have r0 := (HRR.out.below.cell (p := ⟨p, 0, none⟩) hp).trans c0
      have r1 := (HRR.out.below.cell (p := ⟨g, j, none⟩) hg).trans cg
      have r2 := (HRR.out.below.cell (p := ⟨bj, 0, none⟩) hbj).trans cb
      have r3 := (HRR.out.below.cell (p := ⟨g, l, none⟩) hg).trans cgl
      have r4 := (HRR.out.below.cell (p := ⟨bl2, 0, none⟩) hbl2).trans cbl
      go_wp2
      go_region
      all_goals
        go_wp2
        go_ret
        exact ⟨rfl, HRR.out.below.drew.drew⟩

set_option maxRecDepth 100000 in
set_option maxHeartbeats 1000000 in
theorem ren_e6 {w : World} {p b : Nat} {j l : Nat} {i : Int} {s u : ByteArray} (h : RPre w p b i s u ((j : Int) + 1) ((l : Int) + 1) true true) (hsu : (s.toList == u.toList) = false) (hc : RCells w p j l false true) :
    Calls Try.prog 41 #[.pointer (some ⟨p, 0, none⟩), .int .i64 i, .string s, .string u] w fun e w' => e = .returned (.int .i64 10) ∧ Below w.heap.size w w' := by
  obtain ⟨ha, hy, m, c4, hbl, hl1, hl2⟩ := h
  obtain ⟨g, n, cap, bj, bl2, c0, hp, hn, hj, hl, cg, cgl, hg, cb, hbj, cbl, hbl2⟩ := hc
  have w0 : IntKind.i64.wrap (j : Int) = (j : Int) := IntWalk.i64_in _ (by omega)
  have w1 : IntKind.i64.wrap (l : Int) = (l : Int) := IntWalk.i64_in _ (by omega)
  have HA := Lib.hid ha
  have HM := Lib.hid hy
  have HL1 := Lib.hid hl1
  have HL2 := Lib.hid hl2
  clear ha hy hl1 hl2
  go_enter Try.func41, Try.ntmps41
  go_wp2_with (first | (go_at_call 61; refine (HA.out _ ?_).mono ?_; exact (((Below.refl _ _).alloc (Nat.le_refl _) _).alloc (by simp) _); rintro e w' ⟨rfl, rfl⟩) | (go_at_call 92; refine (HM.out _).mono ?_; rintro e w' ⟨rfl, rfl⟩))
  have hB := rboxes_made w b s u 9 9 98
  generalize ((w.alloc (.cells #[.string s] 9)).alloc (.cells #[.string u] 9)).alloc (.cells #[.pointer (some ⟨b, 0, none⟩)] 98) = W at *
  have q4 := (hB.below.cell (p := ⟨b, 4, none⟩) hbl).trans c4
  have q0 : W.cell? ⟨w.heap.size, 0, none⟩ = some (.string s) := hB.b0.cell 0
  have q1 : W.cell? ⟨w.heap.size + 1, 0, none⟩ = some (.string u) := hB.b1.cell 0
  have q2 : W.cell? ⟨w.heap.size + 1 + 1, 0, none⟩ = some (.pointer (some ⟨b, 0, none⟩)) := hB.b2.cell 0
  have l1 := HL1.out W.drew hB.below.drew
  have hA : Below w.heap.size w (W.alloc (.cells #[.int .i64 0] 3)) := hB.below.alloc hB.below.size _
  have a4 := cell_alloc (.cells #[.int .i64 0] 3) q4
  have a0 := cell_alloc (.cells #[.int .i64 0] 3) q0
  have a1 := cell_alloc (.cells #[.int .i64 0] 3) q1
  have a2 := cell_alloc (.cells #[.int .i64 0] 3) q2
  have l2 := HL1.out _ hA.drew
  have hsz := hB.sz
  have HB := Lib.hid hB
  have c4' := c4
  clear hB c4
  have hR := rtwo_made HB.out ((j : Int) + 1) 3
  go_region
  all_goals
    clear l1 a4 a0 a1 a2 l2 hA q4 q0 q1 q2
    generalize (W.alloc (.cells #[.int .i64 ((j : Int) + 1)] 3)).drew = W2 at *
    have q4 := (hR.below.cell (p := ⟨b, 4, none⟩) hbl).trans c4'
    have q0 : W2.cell? ⟨w.heap.size, 0, none⟩ = some (.string s) := hR.b0.cell 0
    have q1 : W2.cell? ⟨w.heap.size + 1, 0, none⟩ = some (.string u) := hR.b1.cell 0
    have q2 : W2.cell? ⟨w.heap.size + 1 + 1, 0, none⟩ = some (.pointer (some ⟨b, 0, none⟩)) := hR.b2.cell 0
    have q3 : W2.cell? ⟨w.heap.size + 1 + 1 + 1, 0, none⟩ = some (.int .i64 ((j : Int) + 1)) := hR.b3.cell 0
    have l3 := HL2.out W2.drew hR.below.drew
    have HRR := Lib.hid hR
    clear hR
    go_wp2
    go_region
    all_goals
      have r0 := (HRR.out.below.cell (p := ⟨p, 0, none⟩) hp).trans c0
      have r1 := (HRR.out.below.cell (p := ⟨g, j, none⟩) hg).trans cg
      have r2 := (HRR.out.below.cell (p := ⟨bj, 0, none⟩) hbj).trans cb
      have r3 := (HRR.out.below.cell (p := ⟨g, l, none⟩) hg).trans cgl
      have r4 := (HRR.out.below.cell (p := ⟨bl2, 0, none⟩) hbl2).trans cbl
      go_wp2
      go_region
      all_goals
        go_wp2
        go_ret
        exact ⟨rfl, HRR.out.below.drew.drew⟩

set_option maxRecDepth 100000 in
set_option maxHeartbeats 1000000 in
theorem ren_e7 {w : World} {p b : Nat} {j l : Nat} {i : Int} {s u : ByteArray} (h : RPre w p b i s u ((j : Int) + 1) ((l : Int) + 1) true true) (hsu : (s.toList == u.toList) = false) (hc : RCells w p j l false false) {z : Int} {F : World → Prop}
    (ho : ∀ W, RTwo w W b s u ((j : Int) + 1) → Calls Try.prog 86 #[.pointer (some ⟨p, 0, none⟩), .bool true, .func (.func 93) #[] #[.pointer (some ⟨w.heap.size + 1 + 1, 0, none⟩), .pointer (some ⟨w.heap.size, 0, none⟩), .pointer (some ⟨w.heap.size + 1 + 1 + 1, 0, none⟩), .pointer (some ⟨w.heap.size + 1, 0, none⟩)]] W fun e w' => e = .returned (.int .i64 z) ∧ F w') :
    Calls Try.prog 41 #[.pointer (some ⟨p, 0, none⟩), .int .i64 i, .string s, .string u] w fun e w' => e = .returned (.int .i64 z) ∧ F w' := by
  obtain ⟨ha, hy, m, c4, hbl, hl1, hl2⟩ := h
  obtain ⟨g, n, cap, bj, bl2, c0, hp, hn, hj, hl, cg, cgl, hg, cb, hbj, cbl, hbl2⟩ := hc
  have w0 : IntKind.i64.wrap (j : Int) = (j : Int) := IntWalk.i64_in _ (by omega)
  have w1 : IntKind.i64.wrap (l : Int) = (l : Int) := IntWalk.i64_in _ (by omega)
  have HO := Lib.hid ho
  clear ho
  have HA := Lib.hid ha
  have HM := Lib.hid hy
  have HL1 := Lib.hid hl1
  have HL2 := Lib.hid hl2
  clear ha hy hl1 hl2
  go_enter Try.func41, Try.ntmps41
  go_wp2_with (first | (go_at_call 61; refine (HA.out _ ?_).mono ?_; exact (((Below.refl _ _).alloc (Nat.le_refl _) _).alloc (by simp) _); rintro e w' ⟨rfl, rfl⟩) | (go_at_call 92; refine (HM.out _).mono ?_; rintro e w' ⟨rfl, rfl⟩))
  have hB := rboxes_made w b s u 9 9 98
  generalize ((w.alloc (.cells #[.string s] 9)).alloc (.cells #[.string u] 9)).alloc (.cells #[.pointer (some ⟨b, 0, none⟩)] 98) = W at *
  have q4 := (hB.below.cell (p := ⟨b, 4, none⟩) hbl).trans c4
  have q0 : W.cell? ⟨w.heap.size, 0, none⟩ = some (.string s) := hB.b0.cell 0
  have q1 : W.cell? ⟨w.heap.size + 1, 0, none⟩ = some (.string u) := hB.b1.cell 0
  have q2 : W.cell? ⟨w.heap.size + 1 + 1, 0, none⟩ = some (.pointer (some ⟨b, 0, none⟩)) := hB.b2.cell 0
  have l1 := HL1.out W.drew hB.below.drew
  have hA : Below w.heap.size w (W.alloc (.cells #[.int .i64 0] 3)) := hB.below.alloc hB.below.size _
  have a4 := cell_alloc (.cells #[.int .i64 0] 3) q4
  have a0 := cell_alloc (.cells #[.int .i64 0] 3) q0
  have a1 := cell_alloc (.cells #[.int .i64 0] 3) q1
  have a2 := cell_alloc (.cells #[.int .i64 0] 3) q2
  have l2 := HL1.out _ hA.drew
  have hsz := hB.sz
  have HB := Lib.hid hB
  have c4' := c4
  clear hB c4
  have hR := rtwo_made HB.out ((j : Int) + 1) 3
  go_region
  all_goals
    clear l1 a4 a0 a1 a2 l2 hA q4 q0 q1 q2
    generalize (W.alloc (.cells #[.int .i64 ((j : Int) + 1)] 3)).drew = W2 at *
    have q4 := (hR.below.cell (p := ⟨b, 4, none⟩) hbl).trans c4'
    have q0 : W2.cell? ⟨w.heap.size, 0, none⟩ = some (.string s) := hR.b0.cell 0
    have q1 : W2.cell? ⟨w.heap.size + 1, 0, none⟩ = some (.string u) := hR.b1.cell 0
    have q2 : W2.cell? ⟨w.heap.size + 1 + 1, 0, none⟩ = some (.pointer (some ⟨b, 0, none⟩)) := hR.b2.cell 0
    have q3 : W2.cell? ⟨w.heap.size + 1 + 1 + 1, 0, none⟩ = some (.int .i64 ((j : Int) + 1)) := hR.b3.cell 0
    have l3 := HL2.out W2.drew hR.below.drew
    have HRR := Lib.hid hR
    clear hR
    go_wp2
    go_region
    all_goals
      have r0 := (HRR.out.below.cell (p := ⟨p, 0, none⟩) hp).trans c0
      have r1 := (HRR.out.below.cell (p := ⟨g, j, none⟩) hg).trans cg
      have r2 := (HRR.out.below.cell (p := ⟨bj, 0, none⟩) hbj).trans cb
      have r3 := (HRR.out.below.cell (p := ⟨g, l, none⟩) hg).trans cgl
      have r4 := (HRR.out.below.cell (p := ⟨bl2, 0, none⟩) hbl2).trans cbl
      go_wp2
      go_region
      all_goals
        have HR5 := Lib.hid (HRR.out.drew.drew)
        go_wp2_with (go_at_call 86; refine (HO.out _ HR5.out).mono ?_; rintro e w' ⟨rfl, hF⟩; have HF := Lib.hid hF; clear hF)
        go_ret
        exact ⟨rfl, HF.out⟩

set_option maxRecDepth 100000 in
set_option maxHeartbeats 1000000 in
theorem ren_e8 {w : World} {p b : Nat} {xi xk : Int} {i : Int} {s u : ByteArray} (h : RPre w p b i s u xi xk true false) (hsu : (s.toList == u.toList) = false) {z : Int} {F : World → Prop}
    (ho : ∀ W, RTwo w W b s u xi → Calls Try.prog 86 #[.pointer (some ⟨p, 0, none⟩), .bool true, .func (.func 93) #[] #[.pointer (some ⟨w.heap.size + 1 + 1, 0, none⟩), .pointer (some ⟨w.heap.size, 0, none⟩), .pointer (some ⟨w.heap.size + 1 + 1 + 1, 0, none⟩), .pointer (some ⟨w.heap.size + 1, 0, none⟩)]] W fun e w' => e = .returned (.int .i64 z) ∧ F w') :
    Calls Try.prog 41 #[.pointer (some ⟨p, 0, none⟩), .int .i64 i, .string s, .string u] w fun e w' => e = .returned (.int .i64 z) ∧ F w' := by
  obtain ⟨ha, hy, m, c4, hbl, hl1, hl2⟩ := h
  have HO := Lib.hid ho
  clear ho
  have HA := Lib.hid ha
  have HM := Lib.hid hy
  have HL1 := Lib.hid hl1
  have HL2 := Lib.hid hl2
  clear ha hy hl1 hl2
  go_enter Try.func41, Try.ntmps41
  go_wp2_with (first | (go_at_call 61; refine (HA.out _ ?_).mono ?_; exact (((Below.refl _ _).alloc (Nat.le_refl _) _).alloc (by simp) _); rintro e w' ⟨rfl, rfl⟩) | (go_at_call 92; refine (HM.out _).mono ?_; rintro e w' ⟨rfl, rfl⟩))
  have hB := rboxes_made w b s u 9 9 98
  generalize ((w.alloc (.cells #[.string s] 9)).alloc (.cells #[.string u] 9)).alloc (.cells #[.pointer (some ⟨b, 0, none⟩)] 98) = W at *
  have q4 := (hB.below.cell (p := ⟨b, 4, none⟩) hbl).trans c4
  have q0 : W.cell? ⟨w.heap.size, 0, none⟩ = some (.string s) := hB.b0.cell 0
  have q1 : W.cell? ⟨w.heap.size + 1, 0, none⟩ = some (.string u) := hB.b1.cell 0
  have q2 : W.cell? ⟨w.heap.size + 1 + 1, 0, none⟩ = some (.pointer (some ⟨b, 0, none⟩)) := hB.b2.cell 0
  have l1 := HL1.out W.drew hB.below.drew
  have hA : Below w.heap.size w (W.alloc (.cells #[.int .i64 0] 3)) := hB.below.alloc hB.below.size _
  have a4 := cell_alloc (.cells #[.int .i64 0] 3) q4
  have a0 := cell_alloc (.cells #[.int .i64 0] 3) q0
  have a1 := cell_alloc (.cells #[.int .i64 0] 3) q1
  have a2 := cell_alloc (.cells #[.int .i64 0] 3) q2
  have l2 := HL1.out _ hA.drew
  have hsz := hB.sz
  have HB := Lib.hid hB
  have c4' := c4
  clear hB c4
  have hR := rtwo_made HB.out xi 3
  go_region
  all_goals
    clear l1 a4 a0 a1 a2 l2 hA q4 q0 q1 q2
    generalize (W.alloc (.cells #[.int .i64 xi] 3)).drew = W2 at *
    have q4 := (hR.below.cell (p := ⟨b, 4, none⟩) hbl).trans c4'
    have q0 : W2.cell? ⟨w.heap.size, 0, none⟩ = some (.string s) := hR.b0.cell 0
    have q1 : W2.cell? ⟨w.heap.size + 1, 0, none⟩ = some (.string u) := hR.b1.cell 0
    have q2 : W2.cell? ⟨w.heap.size + 1 + 1, 0, none⟩ = some (.pointer (some ⟨b, 0, none⟩)) := hR.b2.cell 0
    have q3 : W2.cell? ⟨w.heap.size + 1 + 1 + 1, 0, none⟩ = some (.int .i64 xi) := hR.b3.cell 0
    have l3 := HL2.out W2.drew hR.below.drew
    have HRR := Lib.hid hR
    clear hR
    go_wp2
    go_region
    all_goals
      go_wp2
      go_region
      all_goals
        have HR5 := Lib.hid (HRR.out.drew.drew)
        go_wp2_with (go_at_call 86; refine (HO.out _ HR5.out).mono ?_; rintro e w' ⟨rfl, hF⟩; have HF := Lib.hid hF; clear hF)
        go_ret
        exact ⟨rfl, HF.out⟩

end Go.Proofs.Ytagjmphmdgklkaa

/- Rename, as a contract on the whole disk. -/
namespace Go.Proofs.Ytagjmphmdgklkaa
open Go.RowKit

def DS.rename (S : DS) (i : Int) (s u : ByteArray) : DS × Int :=
  if ofErr S i true ≠ 0 then (S, ofErr S i true)
  else if mayB u = false then (S, 7)
  else if ehas (S.nd (i - 1).toNat).seen.ents s = false then (S, 8)
  else if (s.toList == u.toList) = true then (S, 0)
  else if ehas (S.nd (i - 1).toNat).seen.ents u = true ∧ ((S.nd (findVal S i s - 1)).dir = true ∨ (S.nd (findVal S i u - 1)).dir = true) then (S, 10)
  else S.opped true (fun T => T.step (i - 1).toNat (.ren s u (findVal S i s)))

theorem ren_any {w : World} {p : Nat} {S : DS} {P : Nat → Prop} (hd : DAt w p S P) (hsm : DSmall S) (hll : ∀ k, k < S.nodes.length → (S.nd k).loose.length ≤ 1000000) (hL : Leads S) (i : Int) (s u : ByteArray) :
    Calls Try.prog 41 #[ptr p, .int .i64 i, .string s, .string u] w fun e w' => e = .returned (.int .i64 (S.rename i s u).2) ∧ Leaves w w' p (S.rename i s u).1 P := by
  obtain ⟨vn, nb, t, h⟩ := hd
  have stay : ∀ w', Below w.heap.size w w' → Leaves w w' p S P := fun w' hb => ⟨Keeps.of_below hb P, P, ⟨vn, nb, t, h.below hb⟩, fun k hk => .inl hk⟩
  have hof : ∀ W, Below w.heap.size w W → _ := fun W hW => of_any (h.below hW) i true
  by_cases h0 : ofErr S i true = 0
  · obtain ⟨hdn, k, rfl, hk, hdir⟩ := ofErr_zero h0
    have e3 : ((k : Int) + 1 - 1).toNat = k := by omega
    have e2 : ofPtr S nb ((k : Int) + 1) true = ptr (nb k) := by unfold ofPtr; rw [if_pos h0, e3]
    rw [e2, h0] at hof
    have h0' : ¬ (ofErr S ((k : Int) + 1) true ≠ 0) := by simpa using h0
    by_cases hm : mayB u = false
    · have er : S.rename ((k : Int) + 1) s u = (S, 7) := by unfold DS.rename; rw [if_neg h0', if_pos hm]
      rw [er]
      refine (ren_e2 (fun W hW => hof W hW) hm).mono ?_
      rintro e w' ⟨rfl, hb⟩
      exact ⟨rfl, stay w' hb⟩
    have hm' : mayB u = true := by simpa using hm
    have hn := h.nodes k hk
    rw [← S.nd_at hk] at hn
    obtain ⟨mb, c4, hmap, _⟩ := hn.dirMap hdir
    have plt := h.plt
    have hPl : ∀ x, P x → x < w.heap.size := h.lt
    have vs : ∀ x, findVal S ((k : Int) + 1) x = (eget (S.nd k).seen.ents x).getD 0 := fun x => by unfold findVal; rw [if_pos h0, e3]
    have pre : RPre w p (nb k) ((k : Int) + 1) s u (findVal S ((k : Int) + 1) s : Int) (findVal S ((k : Int) + 1) u : Int) (ehas (S.nd k).seen.ents s) (ehas (S.nd k).seen.ents u) := by
      refine ⟨fun W hW => hof W hW, fun W => by rw [← hm']; exact may_any u W, mb, c4, hn.lt, fun W hW => ?_, fun W hW => ?_⟩
      · rw [vs]; exact run_lookup_map tMap tStr (zInt W) (hmap.of_block (hW.block mb hmap.lt)) s
      · rw [vs]; exact run_lookup_map tMap tStr (zInt W) (hmap.of_block (hW.block mb hmap.lt)) u
    cases hs : ehas (S.nd k).seen.ents s with
    | false =>
      have er : S.rename ((k : Int) + 1) s u = (S, 8) := by unfold DS.rename; rw [if_neg h0', if_neg hm, e3, if_pos hs]
      rw [er]
      rw [hs] at pre
      refine (ren_e3 pre).mono ?_
      rintro e w' ⟨rfl, hb⟩
      exact ⟨rfl, stay w' hb⟩
    | true =>
      rw [hs] at pre
      have hs' : ¬ (ehas (S.nd k).seen.ents s = false) := by simp [hs]
      cases hsu : (s.toList == u.toList) with
      | true =>
        have er : S.rename ((k : Int) + 1) s u = (S, 0) := by unfold DS.rename; rw [if_neg h0', if_neg hm, e3, if_neg hs', if_pos hsu]
        rw [er]
        refine (ren_e4 pre hsu).mono ?_
        rintro e w' ⟨rfl, hb⟩
        exact ⟨rfl, stay w' hb⟩
      | false =>
        have hsu' : ¬ ((s.toList == u.toList) = true) := by simp [hsu]
        have hval : ∀ x, ehas (S.nd k).seen.ents x = true → ∃ j, findVal S ((k : Int) + 1) x = j + 1 ∧ j < S.nodes.length := fun x hx => by
          have hz : findErr S ((k : Int) + 1) x = 0 := by unfold findErr; rw [if_pos h0, e3, if_pos hx]
          obtain ⟨_, n, hmem, hv⟩ := findErr_zero hz
          rw [e3] at hmem
          obtain ⟨hn1, hn2⟩ := hL k hk _ hmem
          simp at hn1 hn2
          exact ⟨n - 1, by omega, by omega⟩
        obtain ⟨j, hvj, hj⟩ := hval s hs
        have hcastj : ((j + 1 : Nat) : Int) = (j : Int) + 1 := by omega
        obtain ⟨g, cap, rfl, hPg, hcells⟩ := h.pRow hk
        have cd : ∀ x (hx : x < S.nodes.length), w.cell? ⟨nb x, 0, none⟩ = some (.bool (S.nd x).dir) ∧ nb x < w.heap.size := fun x hx => by
          have hnx := h.nodes x hx
          rw [← S.nd_at hx] at hnx
          exact ⟨hnx.dirCell, hnx.lt⟩
        have ejs : findVal S ((k : Int) + 1) s - 1 = j := by rw [hvj]; omega
        -- the op itself
        have hop : ∀ W, RTwo w W (nb k) s u ((j : Int) + 1) → Calls Try.prog 86 #[.pointer (some ⟨p, 0, none⟩), .bool true, .func (.func 93) #[] #[.pointer (some ⟨w.heap.size + 1 + 1, 0, none⟩), .pointer (some ⟨w.heap.size, 0, none⟩), .pointer (some ⟨w.heap.size + 1 + 1 + 1, 0, none⟩), .pointer (some ⟨w.heap.size + 1, 0, none⟩)]] W fun e w' =>
            e = .returned (.int .i64 (S.opped true (fun T => T.step k (.ren s u (j + 1)))).2) ∧ Leaves w w' p (S.opped true (fun T => T.step k (.ren s u (j + 1)))).1 P := by
          intro W hB
          have l0 := hB.b0.lt
          have l1 := hB.b1.lt
          have l2 := hB.b2.lt
          have l3 := hB.b3.lt
          refine (op_work (h.below hB.below) hsm true (g := 93) (first := #[]) (enters_of Try.func93 (by kernel_rfl) rfl) (fun T => T.step k (.ren s u (j + 1))) (E := fun y => y = w.heap.size ∨ y = w.heap.size + 1 ∨ y = w.heap.size + 1 + 1 + 1) (fun w1 hk1 hdf => ?_)).mono ?_
          · have pl := hPl p h.pP
            have b0 := hk1.blk hB.b0 (fun e => by omega)
            have b1 := hk1.blk hB.b1 (fun e => by omega)
            have b2 := hk1.blk hB.b2 (fun e => by omega)
            have b3 := hk1.blk hB.b3 (fun e => by omega)
            rw [← hcastj] at b3
            have hst : StepVal w1 (.func (.func 94) #[] #[ptr w.heap.size, ptr (w.heap.size + 1 + 1 + 1), ptr (w.heap.size + 1)]) (.ren s u (j + 1)) (fun x => x = w.heap.size ∨ x = w.heap.size + 1 ∨ x = w.heap.size + 1 + 1 + 1) := ⟨_, _, _, rfl, b0, b3, b1, .inl rfl, .inr (.inr rfl), .inr (.inl rfl)⟩
            have hadd := disk_add hdf (k := k) hk hst (by show (S.nd k).dir = true; rw [hdir]) trivial (fun x hx hp => by have := hPl x hp; omega) (fun x hx => by have := b0.lt; have := b1.lt; have := b3.lt; rcases hx with rfl | rfl | rfl <;> assumption) (hll k hk) (by simp [St.parts])
            refine (ren1_core (b2.cell 0) hadd).mono ?_
            rintro e w2 ⟨rfl, ⟨t', hd2⟩, hk2⟩
            exact ⟨rfl, hk2, _, ⟨_, _, _, hd2⟩, fun x hx => hx⟩
          · rintro e w' ⟨rfl, hkp, hd2⟩
            exact ⟨rfl, leaves_of hB.below hPl (fun y hy => by rcases hy with rfl | rfl | rfl <;> omega) hkp hd2⟩
        rw [hvj, hcastj] at pre
        cases hu : ehas (S.nd k).seen.ents u with
        | false =>
          have er : S.rename ((k : Int) + 1) s u = S.opped true (fun T => T.step k (.ren s u (j + 1))) := by
            unfold DS.rename; rw [if_neg h0', if_neg hm, e3, if_neg hs', if_neg hsu', if_neg (by simp [hu]), hvj]
          rw [er]
          rw [hu] at pre
          exact ren_e8 pre hsu hop
        | true =>
          rw [hu] at pre
          obtain ⟨l, hvl, hl⟩ := hval u hu
          have els : findVal S ((k : Int) + 1) u - 1 = l := by rw [hvl]; omega
          have hcastl : ((l + 1 : Nat) : Int) = (l : Int) + 1 := by omega
          rw [hvl, hcastl] at pre
          have hc : RCells w p j l (S.nd j).dir (S.nd l).dir := ⟨g, _, cap, nb j, nb l, h.blk.cell 0, plt, h.len, hj, hl, hcells j hj, hcells l hl, hPl g hPg, (cd j hj).1, (cd j hj).2, (cd l hl).1, (cd l hl).2⟩
          cases hdj : (S.nd j).dir with
          | true =>
            have er : S.rename ((k : Int) + 1) s u = (S, 10) := by
              unfold DS.rename; rw [if_neg h0', if_neg hm, e3, if_neg hs', if_neg hsu', ejs, els, if_pos ⟨hu, .inl hdj⟩]
            rw [er]
            rw [hdj] at hc
            refine (ren_e5 pre hsu hc).mono ?_
            rintro e w' ⟨rfl, hb⟩
            exact ⟨rfl, stay w' hb⟩
          | false =>
            rw [hdj] at hc
            cases hdl : (S.nd l).dir with
            | true =>
              have er : S.rename ((k : Int) + 1) s u = (S, 10) := by
                unfold DS.rename; rw [if_neg h0', if_neg hm, e3, if_neg hs', if_neg hsu', ejs, els, if_pos ⟨hu, .inr hdl⟩]
              rw [er]
              rw [hdl] at hc
              refine (ren_e6 pre hsu hc).mono ?_
              rintro e w' ⟨rfl, hb⟩
              exact ⟨rfl, stay w' hb⟩
            | false =>
              rw [hdl] at hc
              have er : S.rename ((k : Int) + 1) s u = S.opped true (fun T => T.step k (.ren s u (j + 1))) := by
                unfold DS.rename; rw [if_neg h0', if_neg hm, e3, if_neg hs', if_neg hsu', ejs, els, if_neg (by simp [hdj, hdl]), hvj]
              rw [er]
              exact ren_e7 pre hsu hc hop
  · have e2 : ofPtr S nb i true = .pointer none := by unfold ofPtr; rw [if_neg h0]
    have er : S.rename i s u = (S, ofErr S i true) := by unfold DS.rename; rw [if_pos h0]
    rw [er]
    rw [e2] at hof
    refine (ren_e1 (fun W hW => hof W hW) (by simpa using h0)).mono ?_
    rintro e w' ⟨rfl, hb⟩
    exact ⟨rfl, stay w' hb⟩

end Go.Proofs.Ytagjmphmdgklkaa

/- Walks: Loose. -/
namespace Go.Proofs.Ytagjmphmdgklkaa
open Go.RowKit

def DS.loose (S : DS) : Nat := (S.nodes.map fun N => sumParts N.loose).sum

theorem DF.parts {w : World} {p : Nat} {S : DS} {P : Nat → Prop} {vn : Value} {nb : Nat → Nat} {t : Nat → Nat} (h : DF w p S P vn nb t) {k : Nat} (hk : k < S.nodes.length) (hs : sumParts (S.nd k).loose ≤ 4611686018427387904) :
    Calls Try.prog 80 #[ptr (nb k)] w fun e w' => e = .returned (.int .i64 (sumParts (S.nd k).loose : Int)) ∧ Below w.heap.size w w' := by
  have hn := h.nodes k hk
  rw [← S.nd_at hk] at hn
  obtain ⟨vsb, vsm, veb, vem, vl, f, t2, h1, h2, h3, h4, h5, h6, h7, h8, h9, h10⟩ := hn
  exact parts_walk h1 h7 (fun j hj => (h9 j hj).1.isFunc) hs

theorem loose_step (S : DS) {j : Nat} (hj : j < S.nodes.length) : ((S.nodes.take (j + 1)).map fun N => sumParts N.loose).sum = ((S.nodes.take j).map fun N => sumParts N.loose).sum + sumParts (S.nd j).loose := by
  have e : S.nodes.take (j + 1) = S.nodes.take j ++ [S.nodes[j]] := by rw [List.take_add_one, List.getElem?_eq_getElem hj]; rfl
  rw [e, S.nd_at hj, List.map_append, List.sum_append]
  rfl

theorem loose_le (S : DS) (j : Nat) : ((S.nodes.take j).map fun N => sumParts N.loose).sum ≤ S.loose := by
  have h : S.loose = ((S.nodes.take j).map fun N => sumParts N.loose).sum + ((S.nodes.drop j).map fun N => sumParts N.loose).sum := by
    unfold DS.loose
    rw [← List.sum_append, ← List.map_append, List.take_append_drop]
  omega

set_option maxRecDepth 100000 in
set_option maxHeartbeats 1000000 in
theorem loose_any {w : World} {p : Nat} {S : DS} {P : Nat → Prop} {vn : Value} {nb : Nat → Nat} {t : Nat → Nat} (h : DF w p S P vn nb t) (hs : S.loose ≤ 4611686018427387904) :
    Calls Try.prog 43 #[ptr p] w fun e w' => e = .returned (.int .i64 (S.loose : Int)) ∧ Below w.heap.size w w' := by
  have hplt := h.plt
  obtain ⟨a, n, cap, hv, hn, hcap⟩ : ∃ a n cap, vn = .slice a n cap ∧ n = S.nodes.length ∧ n ≤ maxLen := by
    have := h.len
    rcases h.row.shape with ⟨e, h0⟩ | ⟨g, cap, e, h1, h2, _⟩
    · exact ⟨_, _, _, e, h0.symm, by unfold maxLen; omega⟩
    · exact ⟨_, _, _, e, rfl, by omega⟩
  subst hv
  subst hn
  have c0 : w.cell? ⟨p, 0, none⟩ = some (.slice a S.nodes.length cap) := h.blk.cell 0
  have hlen := h.len
  have HD := Lib.hid h
  unfold maxLen at hcap
  clear h
  unfold ptr
  go_enter Try.func43, Try.ntmps43
  go_wp2
  go_loopw [3, 13] (fun acc i wr => ∃ j : Nat, j ≤ S.nodes.length ∧ i = .int .i64 j ∧ acc = .int .i64 ((((S.nodes.take j).map fun N => sumParts N.loose).sum : Nat) : Int) ∧ Below w.heap.size w wr) (fun _ i _ => S.nodes.length - (intOf i).toNat)
  case atStart => exact ⟨0, Nat.zero_le _, rfl, by simp, Below.refl _ _⟩
  case round =>
    obtain ⟨j, hj, rfl, rfl, hbl⟩ := hrel
    by_cases hlt : j < S.nodes.length
    · obtain ⟨g, c2, e, hPg, hcells⟩ := HD.out.pRow hlt
      obtain ⟨rfl, rfl⟩ : a = some ⟨g, 0, none⟩ ∧ cap = c2 := by
        have := Value.slice.inj e
        exact ⟨this.1, this.2.2⟩
      have q2 : wr.cell? ⟨g, j, none⟩ = some (.pointer (some ⟨nb j, 0, none⟩)) := (hbl.cell (p := ⟨g, j, none⟩) (HD.out.lt g hPg)).trans (hcells j hlt)
      have hst := loose_step S hlt
      have hle := loose_le S (j + 1)
      have hpc := (HD.out.below hbl).parts hlt (by omega)
      unfold ptr at hpc
      have HPC := Lib.hid hpc
      have HBL := Lib.hid hbl
      have HST := Lib.hid hst
      have hle2 : ((S.nodes.take j).map fun N => sumParts N.loose).sum + sumParts (S.nd j).loose ≤ 4611686018427387904 := by omega
      generalize ((S.nodes.take j).map fun N => sumParts N.loose).sum = acc at *
      generalize sumParts (S.nd j).loose = sp at *
      clear hpc hbl hst hle
      go_wp2_with (go_at_call 80; refine HPC.out.mono ?_; rintro e w1 ⟨rfl, hb1⟩; have HB1 := Lib.hid hb1; clear hb1)
      go_roundw
      case rel => exact ⟨j + 1, by omega, by go_num, by rw [HST.out]; go_num, HBL.out.trans (HB1.out.mono HBL.out.size)⟩
      case measure => simp [intOf]; omega
    · have hjl : j = S.nodes.length := by omega
      subst hjl
      have hall : ((S.nodes.take S.nodes.length).map fun N => sumParts N.loose).sum = S.loose := by rw [List.take_length]; rfl
      rw [hall]
      have HBL := Lib.hid hbl
      clear hbl hall
      go_wp2
      go_ret
      exact ⟨rfl, HBL.out⟩

end Go.Proofs.Ytagjmphmdgklkaa

/- What is always so of a disk (plain). -/
namespace Go.Proofs.Ytagjmphmdgklkaa
open Go.RowKit

def appSum (l : List St) : Nat := (l.map fun s => match s with | .app b => b.length | _ => 0).sum

theorem appSum_append (a b : List St) : appSum (a ++ b) = appSum a + appSum b := by simp [appSum]

theorem act_bytes_le (s : St) (k : Nat) (c : Cont) : (s.act k c).bytes.length ≤ c.bytes.length + appSum [s] := by
  cases s with
  | app b => simp [St.act, appSum]; omega
  | cut n => simp [St.act, appSum]; omega
  | link s i => simp [St.act, appSum]
  | ren a b i => simp [St.act, appSum]
  | unl a => simp [St.act, appSum]

theorem full_cons (s : St) (l : List St) (c : Cont) : full (s :: l) c = full l (s.act s.parts c) := rfl
theorem full_append (a b : List St) (c : Cont) : full (a ++ b) c = full b (full a c) := by simp [full]
theorem full_snoc (a : List St) (s : St) (c : Cont) : full (a ++ [s]) c = s.act s.parts (full a c) := by rw [full_append]; rfl

theorem full_bytes_le (l : List St) (c : Cont) : (full l c).bytes.length ≤ c.bytes.length + appSum l := by
  induction l generalizing c with
  | nil => simp [full, appSum]
  | cons s l ih =>
    rw [full_cons]
    have h1 := ih (s.act s.parts c)
    have h2 := act_bytes_le s s.parts c
    have h3 : appSum (s :: l) = appSum [s] + appSum l := appSum_append [s] l
    omega

theorem replay_bytes_le (l : List St) (k : Int) (c : Cont) : (replay l k c).bytes.length ≤ c.bytes.length + appSum l := by
  induction l generalizing c k with
  | nil => simp [replay, appSum]
  | cons s l ih =>
    unfold replay
    split
    · omega
    · have h1 := ih (k - s.parts) (s.act (min k s.parts).toNat c)
      have h2 := act_bytes_le s (min k s.parts).toNat c
      have h3 : appSum (s :: l) = appSum [s] + appSum l := appSum_append [s] l
      omega

/-- a directory's steps have one part each: a crash leaves some of the first ones -/
theorem replay_dir (l : List St) (hl : ∀ s ∈ l, s.fits true = true) (k : Nat) (c : Cont) : replay l (k : Int) c = full (l.take k) c := by
  induction l generalizing c k with
  | nil => simp [replay, full]
  | cons s l ih =>
    have hs := hl s (by simp)
    have h1 : s.parts = 1 := by cases s <;> simp_all [St.fits, St.parts]
    unfold replay
    cases k with
    | zero => simp [full]
    | succ k =>
      rw [if_neg (by omega), h1]
      have e : (((k + 1 : Nat) : Int) - ((1 : Nat) : Int)) = (k : Int) := by omega
      have e2 : (min ((k + 1 : Nat) : Int) ((1 : Nat) : Int)).toNat = 1 := by omega
      rw [e, e2, ih (fun x hx => hl x (by simp [hx]))]
      rw [List.take_succ_cons, full_cons, h1]

/-- a file's steps leave its entries, a directory's its bytes -/
theorem act_file (s : St) (h : s.fits false = true) (k : Nat) (c : Cont) : (s.act k c).ents = c.ents := by cases s <;> simp_all [St.fits, St.act]
theorem act_dir (s : St) (h : s.fits true = true) (k : Nat) (c : Cont) : (s.act k c).bytes = c.bytes := by cases s <;> simp_all [St.fits, St.act]
theorem full_file (l : List St) (h : ∀ s ∈ l, s.fits false = true) (c : Cont) : (full l c).ents = c.ents := by
  induction l generalizing c with
  | nil => rfl
  | cons s l ih => rw [full_cons, ih (fun x hx => h x (by simp [hx])), act_file s (h s (by simp))]
theorem full_dir (l : List St) (h : ∀ s ∈ l, s.fits true = true) (c : Cont) : (full l c).bytes = c.bytes := by
  induction l generalizing c with
  | nil => rfl
  | cons s l ih => rw [full_cons, ih (fun x hx => h x (by simp [hx])), act_dir s (h s (by simp))]
theorem replay_file (l : List St) (h : ∀ s ∈ l, s.fits false = true) (k : Int) (c : Cont) : (replay l k c).ents = c.ents := by
  induction l generalizing c k with
  | nil => rfl
  | cons s l ih =>
    unfold replay
    split
    · rfl
    · rw [ih (fun x hx => h x (by simp [hx])), act_file s (h s (by simp))]

theorem nodup_map_inj {α β : Type} (f : α → β) : ∀ (l : List α), (l.map f).Nodup → ∀ x ∈ l, ∀ y ∈ l, f x = f y → x = y := by
  intro l
  induction l with
  | nil => intro _ x hx; simp at hx
  | cons a l ih =>
    intro h x hx y hy e
    rw [List.map_cons, List.nodup_cons] at h
    rcases List.mem_cons.1 hx with hx | hx <;> rcases List.mem_cons.1 hy with hy | hy
    · rw [hx, hy]
    · exact absurd (List.mem_map.2 ⟨y, hy, by rw [← e, hx]⟩) h.1
    · exact absurd (List.mem_map.2 ⟨x, hx, by rw [e, hy]⟩) h.1
    · exact ih h.2 x hx y hy e

/-- entries of directory k (counted from 0), on a disk of L nodes -/
structure EOK (par : Nat → Nat) (L k : Nat) (m : Ents) : Prop where
  ok : ∀ e ∈ m, k + 1 < e.2 ∧ e.2 ≤ L ∧ par e.2 = k
  vals : (m.map (·.2)).Nodup
  keys : (m.map (·.1)).Nodup

theorem EOK.nil (par : Nat → Nat) (L k : Nat) : EOK par L k [] := ⟨by simp, by simp, by simp⟩

theorem EOK.mono {par par' : Nat → Nat} {L L' k : Nat} {m : Ents} (h : EOK par L k m) (hL : L ≤ L') (hp : ∀ i, i ≤ L → par' i = par i) : EOK par' L' k m :=
  ⟨fun e he => ⟨(h.ok e he).1, by have := (h.ok e he).2.1; omega, by rw [hp _ (h.ok e he).2.1]; exact (h.ok e he).2.2⟩, h.vals, h.keys⟩

theorem edel_sub (m : Ents) (a : ByteArray) : (edel m a).Sublist m := List.filter_sublist

theorem EOK.edel {par : Nat → Nat} {L k : Nat} {m : Ents} (h : EOK par L k m) (a : ByteArray) : EOK par L k (edel m a) :=
  ⟨fun e he => h.ok e ((edel_sub m a).mem he), h.vals.sublist ((edel_sub m a).map _), h.keys.sublist ((edel_sub m a).map _)⟩

theorem ehas_keys {m : Ents} {s : ByteArray} : ehas m s = true ↔ s ∈ m.map (·.1) := by
  unfold ehas
  rw [List.any_eq_true]
  constructor
  · rintro ⟨e, he, h⟩
    have : e.1 = s := by simpa using h
    exact List.mem_map.2 ⟨e, he, this⟩
  · intro h
    obtain ⟨e, he, rfl⟩ := List.mem_map.1 h
    exact ⟨e, he, by simp⟩

/-- a name that leads to a node to which none led -/
theorem EOK.eset {par : Nat → Nat} {L k : Nat} {m : Ents} (h : EOK par L k m) (s : ByteArray) {i : Nat} (hi : k + 1 < i ∧ i ≤ L ∧ par i = k) (hn : i ∉ m.map (·.2)) : EOK par L k (eset m s i) := by
  unfold Go.Proofs.Ytagjmphmdgklkaa.eset
  split
  · rename_i hs
    refine ⟨?_, ?_, ?_⟩
    · intro e he
      obtain ⟨x, hx, rfl⟩ := List.mem_map.1 he
      split
      · exact hi
      · exact h.ok x hx
    · have hv := h.vals
      have hk := h.keys
      clear hs h
      induction m with
      | nil => simp
      | cons a m ih =>
        simp only [List.map_cons, List.nodup_cons] at hv hk ⊢
        simp only [List.map_cons, List.mem_cons, not_or] at hn
        refine ⟨?_, ih hn.2 hv.2 hk.2⟩
        intro hmem
        simp only [List.map_map, List.mem_map, Function.comp] at hmem
        obtain ⟨x, hx, hxe⟩ := hmem
        by_cases h1 : (a.1 == s) = true
        · rw [if_pos h1] at hxe
          by_cases h2 : (x.1 == s) = true
          · have e1 : a.1 = s := by simpa using h1
            have e2 : x.1 = s := by simpa using h2
            exact hk.1 (List.mem_map.2 ⟨x, hx, by rw [e1, e2]⟩)
          · rw [if_neg h2] at hxe
            exact hn.2 (List.mem_map.2 ⟨x, hx, hxe⟩)
        · rw [if_neg h1] at hxe
          by_cases h2 : (x.1 == s) = true
          · rw [if_pos h2] at hxe
            exact hn.1 hxe
          · rw [if_neg h2] at hxe
            exact hv.1 (List.mem_map.2 ⟨x, hx, hxe⟩)
    · have e : (m.map fun e => if (e.1 == s) = true then (s, i) else e).map (·.1) = m.map (·.1) := by
        rw [List.map_map]
        apply List.map_congr_left
        intro x _
        simp only [Function.comp]
        split
        · rename_i h1
          exact (by simpa using h1 : x.1 = s).symm
        · rfl
      rw [e]; exact h.keys
  · rename_i hs
    have hk : s ∉ m.map (·.1) := fun hm => hs (ehas_keys.2 hm)
    refine ⟨?_, ?_, ?_⟩
    · intro e he
      rcases List.mem_append.1 he with he | he
      · exact h.ok e he
      · have : e = (s, i) := by simpa using he
        subst this
        exact hi
    · rw [List.map_append, List.nodup_append]
      refine ⟨h.vals, by simp, fun x hx y hy => ?_⟩
      have : y = i := by simpa using hy
      subst this
      exact fun e => hn (e ▸ hx)
    · rw [List.map_append, List.nodup_append]
      refine ⟨h.keys, by simp, fun x hx y hy => ?_⟩
      have : y = s := by simpa using hy
      subst this
      exact fun e => hk (e ▸ hx)

/-- what a rename leaves -/
theorem EOK.ren {par : Nat → Nat} {L k : Nat} {m : Ents} (h : EOK par L k m) {a : ByteArray} {i : Nat} (ha : (a, i) ∈ m) (b : ByteArray) : EOK par L k (Go.Proofs.Ytagjmphmdgklkaa.eset (Go.Proofs.Ytagjmphmdgklkaa.edel m a) b i) := by
  refine (h.edel a).eset b (h.ok _ ha) ?_
  intro hm
  obtain ⟨x, hx, hxi⟩ := List.mem_map.1 hm
  have hx1 := (edel_sub m a).mem hx
  have hx2 : x.1 ≠ a := by
    unfold Go.Proofs.Ytagjmphmdgklkaa.edel at hx
    simpa using (List.mem_filter.1 hx).2
  have : x = (a, i) := by
    have hv := h.vals
    exact nodup_map_inj (·.2) m hv x hx1 (a, i) ha hxi
  rw [this] at hx2
  exact hx2 rfl

/-- what is so of node k (counted from 0) of a disk with L nodes, W bytes of appends and B calls -/
structure NInv (par : Nat → Nat) (L W B k : Nat) (N : Nd) : Prop where
  seen : N.seen = full N.loose N.safe
  steps : ∀ j (h : j < N.loose.length), N.loose[j].ok (full (N.loose.take j) N.safe) ∧ 0 < N.loose[j].parts
  fits : ∀ s ∈ N.loose, s.fits N.dir = true
  dirB : N.dir = true → N.safe.bytes = []
  fileE : N.dir = false → N.safe.ents = []
  pre : ∀ q, EOK par L k (full (N.loose.take q) N.safe).ents
  weight : N.safe.bytes.length + appSum N.loose ≤ W
  len : N.loose.length ≤ B

theorem sumParts_le (l : List St) : sumParts l ≤ l.length + appSum l := by
  induction l with
  | nil => simp [sumParts, appSum]
  | cons s l ih =>
    have h3 : appSum (s :: l) = appSum [s] + appSum l := appSum_append [s] l
    have h4 : sumParts (s :: l) = s.parts + sumParts l := by simp [sumParts]
    have h5 : s.parts ≤ 1 + appSum [s] := by cases s <;> simp [St.parts, appSum]
    simp only [List.length_cons]
    omega

section
variable {par : Nat → Nat} {L W B k : Nat} {N : Nd}

theorem NInv.seenE (h : NInv par L W B k N) : EOK par L k N.seen.ents := by
  have := h.pre N.loose.length
  rw [List.take_length, ← h.seen] at this
  exact this
theorem NInv.seenB (h : NInv par L W B k N) : N.seen.bytes.length ≤ W := by
  rw [h.seen]
  have := full_bytes_le N.loose N.safe
  have := h.weight
  omega
theorem NInv.seenDir (h : NInv par L W B k N) (hd : N.dir = true) : N.seen.bytes = [] := by
  rw [h.seen, full_dir _ (fun s hs => by have := h.fits s hs; rw [hd] at this; exact this), h.dirB hd]
theorem NInv.seenFile (h : NInv par L W B k N) (hd : N.dir = false) : N.seen.ents = [] := by
  rw [h.seen, full_file _ (fun s hs => by have := h.fits s hs; rw [hd] at this; exact this), h.fileE hd]
theorem NInv.sum (h : NInv par L W B k N) : sumParts N.loose ≤ B + W := by
  have := sumParts_le N.loose
  have := h.weight
  have := h.len
  omega
theorem NInv.replayB (h : NInv par L W B k N) (q : Int) : (replay N.loose q N.safe).bytes.length ≤ W := by
  have := replay_bytes_le N.loose q N.safe
  have := h.weight
  omega
theorem NInv.nok (h : NInv par L W B k N) (hW : W ≤ 1000000) (hB : B ≤ 1000000) : NOK N :=
  ⟨h.seen, h.steps, by have := h.weight; omega, by have := h.seenB; omega, by have := h.sum; omega, by have := h.len; omega⟩

theorem NInv.mono (h : NInv par L W B k N) {par' : Nat → Nat} {L' W' B' : Nat} (hL : L ≤ L') (hp : ∀ i, i ≤ L → par' i = par i) (hW : W ≤ W') (hB : B ≤ B') : NInv par' L' W' B' k N :=
  ⟨h.seen, h.steps, h.fits, h.dirB, h.fileE, fun q => (h.pre q).mono hL hp, Nat.le_trans h.weight hW, Nat.le_trans h.len hB⟩

theorem NInv.new (par : Nat → Nat) (L W B k : Nat) (d : Bool) : NInv par L W B k (newNd d) :=
  ⟨rfl, fun j hj => by simp [newNd] at hj, by simp [newNd], fun _ => rfl, fun _ => rfl, fun q => by simp [newNd, full]; exact EOK.nil _ _ _, by simp [newNd, appSum], by simp [newNd]⟩

/-- a step more -/
theorem NInv.step (h : NInv par L W B k N) {s : St} (hf : s.fits N.dir = true) (hok : s.ok N.seen) (hpos : 0 < s.parts) (he : EOK par L k (s.act s.parts N.seen).ents) : NInv par L (W + appSum [s]) (B + 1) k (N.step s) := by
  have hfull : full (N.loose ++ [s]) N.safe = s.act s.parts N.seen := by rw [full_snoc, ← h.seen]
  refine ⟨hfull.symm, ?_, ?_, h.dirB, h.fileE, ?_, ?_, ?_⟩
  · intro j hj
    simp only [Nd.step] at hj ⊢
    have hj' : j < N.loose.length + 1 := by simpa using hj
    by_cases hlt : j < N.loose.length
    · rw [List.getElem_append_left hlt, List.take_append_of_le_length (by omega)]
      exact h.steps j hlt
    · have : j = N.loose.length := by omega
      subst this
      rw [List.getElem_append_right (Nat.le_refl _), List.take_left']
      · simp only [Nat.sub_self, List.getElem_cons_zero]
        rw [← h.seen]
        exact ⟨hok, hpos⟩
      · rfl
  · intro x hx
    rcases List.mem_append.1 hx with hx | hx
    · exact h.fits x hx
    · have : x = s := by simpa using hx
      subst this
      exact hf
  · intro q
    show EOK par L k (full ((N.loose ++ [s]).take q) N.safe).ents
    by_cases hq : q ≤ N.loose.length
    · rw [List.take_append_of_le_length hq]; exact h.pre q
    · rw [List.take_of_length_le (by simp; omega), hfull]; exact he
  · show N.safe.bytes.length + appSum (N.loose ++ [s]) ≤ _
    rw [appSum_append]
    have := h.weight
    omega
  · show (N.loose ++ [s]).length ≤ _
    have := h.len
    simp
    exact this

theorem NInv.synced (h : NInv par L W B k N) : NInv par L W B k N.synced :=
  ⟨rfl, fun j hj => by simp [Nd.synced] at hj, by simp [Nd.synced], h.seenDir, h.seenFile, fun q => by simp [Nd.synced, full]; exact h.seenE, by have := h.seenB; simpa [Nd.synced, appSum] using this, by simp [Nd.synced]⟩

theorem NInv.replayE (h : NInv par L W B k N) (q : Int) (hq : 0 ≤ q) : EOK par L k (replay N.loose q N.safe).ents := by
  cases hd : N.dir with
  | true =>
    obtain ⟨m, rfl⟩ : ∃ m : Nat, q = (m : Int) := ⟨q.toNat, by omega⟩
    rw [replay_dir _ (fun s hs => by have := h.fits s hs; rw [hd] at this; exact this)]
    exact h.pre m
  | false =>
    rw [replay_file _ (fun s hs => by have := h.fits s hs; rw [hd] at this; exact this), h.fileE hd]
    exact EOK.nil _ _ _
theorem replay_dirB (l : List St) (hl : ∀ s ∈ l, s.fits true = true) (k : Int) (c : Cont) : (replay l k c).bytes = c.bytes := by
  induction l generalizing c k with
  | nil => rfl
  | cons s l ih =>
    unfold replay
    split
    · rfl
    · rw [ih (fun x hx => hl x (by simp [hx])), act_dir s (hl s (by simp))]

theorem NInv.crashed (h : NInv par L W B k N) (q : Int) (hq : 0 ≤ q) : NInv par L W B k (N.crashed q) :=
  ⟨rfl, fun j hj => by simp [Nd.crashed] at hj, by simp [Nd.crashed], fun hd => by
      show (replay N.loose q N.safe).bytes = []
      rw [replay_dirB _ (fun s hs => by have := h.fits s hs; rw [show N.dir = true from hd] at this; exact this)]; exact h.dirB hd, fun hd => by
      show (replay N.loose q N.safe).ents = []
      rw [replay_file _ (fun s hs => by have := h.fits s hs; rw [show N.dir = false from hd] at this; exact this)]; exact h.fileE hd, fun r => by simp [Nd.crashed, full]; exact h.replayE q hq,
    by have := h.replayB q; simpa [Nd.crashed, appSum] using this, by simp [Nd.crashed]⟩
end

end Go.Proofs.Ytagjmphmdgklkaa

/- What is always so of a disk, and stays so with every call (plain). -/
namespace Go.Proofs.Ytagjmphmdgklkaa
open Go.RowKit

structure Inv (S : DS) (W B : Nat) : Prop where
  nodes : ∃ par, ∀ k, k < S.nodes.length → NInv par S.nodes.length W B k (S.nd k)
  one : 1 ≤ S.nodes.length
  few : S.nodes.length ≤ B + 1
  root : (S.nd 0).dir = true
  ops0 : 0 ≤ S.ops
  ops : S.ops ≤ B
  ch0 : 0 ≤ S.changes
  ch : S.changes ≤ B
  fa : S.failAfter ≤ 9223372036854775807
  fu : S.fullAfter ≤ 9223372036854775807
  cap0 : 0 ≤ S.capacity
  cap : S.capacity ≤ 9223372036854775807

section
variable {S : DS} {W B : Nat}

theorem Inv.small (h : Inv S W B) (hB : B ≤ 1000000) : DSmall S := ⟨h.ops0, by have := h.ops; omega, h.ch0, by have := h.ch; omega, h.fa, h.fu⟩
theorem Inv.loose (h : Inv S W B) (hB : B ≤ 1000000) : ∀ k, k < S.nodes.length → (S.nd k).loose.length ≤ 1000000 := fun k hk => by
  obtain ⟨par, hn⟩ := h.nodes
  have := (hn k hk).len
  omega
theorem Inv.nok (h : Inv S W B) (hW : W ≤ 1000000) (hB : B ≤ 1000000) : ∀ k, k < S.nodes.length → NOK (S.nd k) := fun k hk => by
  obtain ⟨par, hn⟩ := h.nodes
  exact (hn k hk).nok hW hB
theorem Inv.leads (h : Inv S W B) : Leads S := fun k hk e he => by
  obtain ⟨par, hn⟩ := h.nodes
  exact ⟨((hn k hk).seenE.ok e he).1, ((hn k hk).seenE.ok e he).2.1⟩
theorem Inv.bytes (h : Inv S W B) : ∀ k, k < S.nodes.length → (S.nd k).seen.bytes.length ≤ W := fun k hk => by
  obtain ⟨par, hn⟩ := h.nodes
  exact (hn k hk).seenB
theorem Inv.replays (h : Inv S W B) : ∀ k, k < S.nodes.length → ∀ q, (replay (S.nd k).loose q (S.nd k).safe).bytes.length ≤ W := fun k hk q => by
  obtain ⟨par, hn⟩ := h.nodes
  exact (hn k hk).replayB q
theorem Inv.fine (h : Inv S W B) (hB : B ≤ 1000000) : Fine S := ⟨h.small hB, h.loose hB, h.leads, h.root, h.one, h.cap0, h.cap⟩

theorem Inv.mono (h : Inv S W B) {W' B' : Nat} (hW : W ≤ W') (hB : B ≤ B') : Inv S W' B' := by
  obtain ⟨⟨par, hn⟩, h1, h2, h3, h4, h5, h6, h7, h8, h9, h10, h11⟩ := h
  exact ⟨⟨par, fun k hk => (hn k hk).mono (Nat.le_refl _) (fun _ _ => rfl) hW hB⟩, h1, by omega, h3, h4, by omega, h6, by omega, h8, h9, h10, h11⟩

/-- a disk with the same nodes -/
theorem Inv.same (h : Inv S W B) {T : DS} (hn : T.nodes = S.nodes) (o0 : 0 ≤ T.ops) (o1 : T.ops ≤ B) (c0 : 0 ≤ T.changes) (c1 : T.changes ≤ B) (fa : T.failAfter ≤ 9223372036854775807) (fu : T.fullAfter ≤ 9223372036854775807) (hc : T.capacity = S.capacity) : Inv T W B := by
  have e : ∀ k, T.nd k = S.nd k := fun k => by unfold DS.nd; rw [hn]
  obtain ⟨⟨par, hp⟩, h1, h2, h3, h4, h5, h6, h7, h8, h9, h10, h11⟩ := h
  exact ⟨⟨par, fun k hk => by rw [e, hn]; rw [hn] at hk; exact hp k hk⟩, by rw [hn]; exact h1, by rw [hn]; exact h2, by rw [e]; exact h3, o0, o1, c0, c1, fa, fu, by rw [hc]; exact h10, by rw [hc]; exact h11⟩

theorem tAfter_le {b : Bool} {a : Int} (h : a ≤ 9223372036854775807) : tAfter b a ≤ 9223372036854775807 := by
  unfold tAfter
  split <;> omega

theorem Inv.ticked (h : Inv S W B) (c : Bool) : Inv (S.ticked c) W (B + 1) := by
  have h' := h.mono (Nat.le_refl W) (Nat.le_succ B)
  have := h.ops0
  have := h.ops
  have := h.ch0
  have := h.ch
  refine h'.same rfl ?_ ?_ ?_ ?_ (tAfter_le h.fa) h.fu rfl
  · show 0 ≤ S.ops + 1; omega
  · show S.ops + 1 ≤ ((B + 1 : Nat) : Int); omega
  · show 0 ≤ (if c then S.changes + 1 else S.changes); split <;> omega
  · show (if c then S.changes + 1 else S.changes) ≤ ((B + 1 : Nat) : Int); split <;> omega

theorem Inv.fulled (h : Inv S W B) : Inv S.fulled W B := h.same rfl h.ops0 h.ops h.ch0 h.ch h.fa (tAfter_le h.fu) rfl
theorem Inv.downed (h : Inv S W B) (b : Bool) : Inv { S with down := b } W B := h.same rfl h.ops0 h.ops h.ch0 h.ch h.fa h.fu rfl

theorem nd_set {k : Nat} (hk : k < S.nodes.length) (N : Nd) (j : Nat) : ({ S with nodes := S.nodes.set k N } : DS).nd j = if j = k then N else S.nd j := by
  simp only [DS.nd, List.getD_eq_getElem?_getD, List.getElem?_set]
  by_cases h : k = j
  · subst h
    simp [hk]
  · rw [if_neg h, if_neg (fun e => h e.symm)]

/-- one node has become another one -/
theorem Inv.set (h : Inv S W B) {k : Nat} (hk : k < S.nodes.length) {N : Nd} {W' B' : Nat} (hW : W ≤ W') (hB : B ≤ B') (hd : N.dir = (S.nd k).dir) (hN : ∀ par, NInv par S.nodes.length W B k (S.nd k) → NInv par S.nodes.length W' B' k N) :
    Inv { S with nodes := S.nodes.set k N } W' B' := by
  obtain ⟨⟨par, hp⟩, h1, h2, h3, h4, h5, h6, h7, h8, h9, h10, h11⟩ := h
  have el : ({ S with nodes := S.nodes.set k N } : DS).nodes.length = S.nodes.length := by simp
  refine ⟨⟨par, fun j hj => ?_⟩, by rw [el]; exact h1, by rw [el]; omega, ?_, h4, by show S.ops ≤ _; omega, h6, by show S.changes ≤ _; omega, h8, h9, h10, h11⟩
  · rw [el] at hj ⊢
    rw [nd_set hk]
    split
    · rename_i e; subst e; exact hN par (hp j hk)
    · exact (hp j hj).mono (Nat.le_refl _) (fun _ _ => rfl) hW hB
  · rw [nd_set hk]
    split
    · rename_i e; subst e; rw [hd]; exact h3
    · exact h3

theorem Inv.step (h : Inv S W B) {k : Nat} (hk : k < S.nodes.length) {s : St} (hf : s.fits (S.nd k).dir = true) (hok : s.ok (S.nd k).seen) (hpos : 0 < s.parts) (he : ∀ par, EOK par S.nodes.length k (S.nd k).seen.ents → EOK par S.nodes.length k (s.act s.parts (S.nd k).seen).ents) :
    Inv (S.step k s) (W + appSum [s]) (B + 1) :=
  h.set hk (by omega) (by omega) rfl (fun par hn => hn.step hf hok hpos (he par hn.seenE))

theorem Inv.grown (h : Inv S W B) (d : Bool) (i : Nat) (hi : i < S.nodes.length) : Inv (S.grown d) W (B + 1) ∧ ∃ par, (∀ k, k < S.nodes.length + 1 → NInv par (S.nodes.length + 1) W (B + 1) k ((S.grown d).nd k)) ∧ par (S.nodes.length + 1) = i := by
  obtain ⟨⟨par, hp⟩, h1, h2, h3, h4, h5, h6, h7, h8, h9, h10, h11⟩ := h
  have el : (S.grown d).nodes.length = S.nodes.length + 1 := by simp [DS.grown]
  have e0 : ∀ k, k < S.nodes.length → (S.grown d).nd k = S.nd k := fun k hk => grown_nd hk d
  have e1 : (S.grown d).nd S.nodes.length = newNd d := by simp [DS.nd, DS.grown]
  let par' : Nat → Nat := fun x => if x = S.nodes.length + 1 then i else par x
  have hN : ∀ k, k < S.nodes.length + 1 → NInv par' (S.nodes.length + 1) W (B + 1) k ((S.grown d).nd k) := fun k hk => by
    by_cases hlt : k < S.nodes.length
    · rw [e0 k hlt]
      exact (hp k hlt).mono (Nat.le_succ _) (fun x hx => if_neg (by omega)) (Nat.le_refl _) (Nat.le_succ _)
    · have : k = S.nodes.length := by omega
      subst this
      rw [e1]
      exact NInv.new _ _ _ _ _ _
  refine ⟨⟨⟨par', fun k hk => by rw [el] at hk ⊢; exact hN k hk⟩, by rw [el]; omega, by rw [el]; omega, by rw [e0 0 (by omega)]; exact h3, h4, by show S.ops ≤ _; omega, h6, by show S.changes ≤ _; omega, h8, h9, h10, h11⟩, par', hN, if_pos rfl⟩
end

end Go.Proofs.Ytagjmphmdgklkaa

/- What is always so of a disk stays so with every call (plain). -/
namespace Go.Proofs.Ytagjmphmdgklkaa
open Go.RowKit

section
variable {S : DS} {W B : Nat}

theorem Inv.linked (h : Inv S W B) {k : Nat} (hk : k < S.nodes.length) (hdir : (S.nd k).dir = true) (s : ByteArray) (d : Bool) : Inv (S.linked k s d) W (B + 2) := by
  obtain ⟨hg, par, hN, hpar⟩ := h.grown d k hk
  have hl := h.leads
  have el : (S.grown d).nodes.length = S.nodes.length + 1 := by simp [DS.grown]
  have ek : (S.grown d).nd k = S.nd k := grown_nd hk d
  have hk' : k < (S.grown d).nodes.length := by rw [el]; omega
  have hks := hN k (by omega)
  rw [ek] at hks
  have he : EOK par (S.nodes.length + 1) k ((St.link s (S.nodes.length + 1)).act 1 (S.nd k).seen).ents :=
    hks.seenE.eset s ⟨by omega, Nat.le_refl _, hpar⟩ (fun hm => by
      obtain ⟨e, he, hi⟩ := List.mem_map.1 hm
      have := (hl k hk e he).2
      omega)
  have hst := hks.step (s := .link s (S.nodes.length + 1)) (by rw [hdir]; rfl) trivial (by simp [St.parts]) he
  have el2 : (S.linked k s d).nodes.length = S.nodes.length + 1 := by simp [DS.linked, DS.step, DS.grown]
  have hnd : ∀ j, (S.linked k s d).nd j = if j = k then (S.nd k).step (.link s (S.nodes.length + 1)) else (S.grown d).nd j := fun j => by
    unfold DS.linked DS.step
    rw [ek]
    exact nd_set (S := S.grown d) hk' _ j
  obtain ⟨_, h1, h2, h3, h4, h5, h6, h7, h8, h9, h10, h11⟩ := hg
  refine ⟨⟨par, fun j hj => ?_⟩, by rw [el2]; omega, by rw [el2]; rw [el] at h2; omega, ?_, h4, by show S.ops ≤ _; have : S.ops ≤ ((B + 1 : Nat) : Int) := h5; omega, h6, by show S.changes ≤ _; have : S.changes ≤ ((B + 1 : Nat) : Int) := h7; omega, h8, h9, h10, h11⟩
  · rw [el2] at hj ⊢
    rw [hnd]
    split
    · rename_i e; subst e
      exact hst.mono (Nat.le_refl _) (fun _ _ => rfl) (by simp [appSum]) (by omega)
    · exact (hN j hj).mono (Nat.le_refl _) (fun _ _ => rfl) (Nat.le_refl _) (by omega)
  · rw [hnd]
    split
    · exact hdir
    · exact h3

theorem Inv.after {S T : DS} (h : Inv T W B) : Inv (S.after T) W B := by
  unfold DS.after
  split
  · exact h.downed true
  · exact h

theorem Inv.opped (h : Inv S W B) (c : Bool) {work : DS → DS} {W' B' : Nat} (hW : W ≤ W') (hB : B + 1 ≤ B') (hw : Inv (S.ticked c) W (B + 1) → Inv (work (S.ticked c)) W' B') : Inv (S.opped c work).1 W' B' := by
  unfold DS.opped
  simp only
  split
  · exact (hw (h.ticked c)).after
  · exact ((h.ticked c).mono hW hB).downed true

theorem Inv.make (h : Inv S W B) (i : Int) (s : ByteArray) (d : Bool) : Inv (S.make i s d).1 W (B + 3) := by
  have h3 := h.mono (Nat.le_refl W) (show B ≤ B + 3 by omega)
  unfold DS.make
  split
  · exact h3
  · rename_i h0
    have h0' : ofErr S i true = 0 := by simpa using h0
    obtain ⟨hdn, k, rfl, hk, hdir⟩ := ofErr_zero h0'
    have e3 : ((k : Int) + 1 - 1).toNat = k := by omega
    rw [e3]
    split
    · exact h3
    split
    · exact h3
    split
    · exact h3
    split
    · exact h3.fulled
    · split
      · exact ((h.fulled.ticked true).linked (k := k) hk hdir s d).after
      · exact ((h.fulled.ticked true).mono (Nat.le_refl _) (by omega)).downed true

theorem Inv.cut (h : Inv S W B) (i n : Int) : Inv (S.cut i n).1 W (B + 2) := by
  have h3 := h.mono (Nat.le_refl W) (show B ≤ B + 2 by omega)
  unfold DS.cut
  split
  · exact h3
  · rename_i h0
    have h0' : ofErr S i false = 0 := by simpa using h0
    obtain ⟨hdn, k, rfl, hk, hdir⟩ := ofErr_zero h0'
    have e3 : ((k : Int) + 1 - 1).toNat = k := by omega
    rw [e3]
    split
    · exact h3
    · rename_i hb
      exact h.opped true (Nat.le_refl _) (by omega) (fun ht => (ht.step (k := k) (s := .cut n.toNat) hk (by show St.fits (S.nd k).dir _ = true; rw [hdir]; rfl) (show n.toNat ≤ (S.nd k).seen.bytes.length by omega) (by simp [St.parts]) (fun par he => he)))

theorem Inv.append (h : Inv S W B) (i : Int) (l : List UInt8) (hW : W + l.length ≤ 1000000) : Inv (S.append i l).1 (W + l.length) (B + 2) := by
  have h3 := h.mono (show W ≤ W + l.length by omega) (show B ≤ B + 2 by omega)
  unfold DS.append
  split
  · exact h3
  · rename_i h0
    have h0' : ofErr S i false = 0 := by simpa using h0
    obtain ⟨hdn, k, rfl, hk, hdir⟩ := ofErr_zero h0'
    have e3 : ((k : Int) + 1 - 1).toNat = k := by omega
    rw [e3]
    split
    · exact h3
    split
    · exact h3.fulled
    · split
      · refine Inv.after ?_
        unfold DS.appended
        split
        · exact (h.fulled.ticked true).mono (by omega) (by omega)
        · rename_i hl
          have hpos : 0 < l.length := by cases l with
            | nil => exact absurd rfl hl
            | cons x t => simp
          have hb := h.bytes k hk
          exact ((h.fulled.ticked true).step (k := k) (s := .app l) hk (by show St.fits (S.nd k).dir _ = true; rw [hdir]; rfl) (show (S.nd k).seen.bytes.length + l.length ≤ 140737488355328 by omega) hpos (fun par he => he)).mono (by simp [appSum]) (Nat.le_refl _)
      · exact ((h.fulled.ticked true).mono (by omega) (by omega)).downed true

theorem Inv.unlink (h : Inv S W B) (i : Int) (s : ByteArray) : Inv (S.unlink i s).1 W (B + 2) := by
  have h3 := h.mono (Nat.le_refl W) (show B ≤ B + 2 by omega)
  unfold DS.unlink
  split
  · exact h3
  · rename_i h0
    have h0' : findErr S i s = 0 := by simpa using h0
    obtain ⟨h1, _⟩ := findErr_zero h0'
    obtain ⟨hdn, k, rfl, hk, hdir⟩ := ofErr_zero h1
    have e3 : ((k : Int) + 1 - 1).toNat = k := by omega
    split
    · exact h3
    · rw [e3]
      exact h.opped true (Nat.le_refl _) (by omega) (fun ht => (ht.step (k := k) (s := .unl s) hk (by show St.fits (S.nd k).dir _ = true; rw [hdir]; rfl) trivial (by simp [St.parts]) (fun par he => he.edel s)))

theorem Inv.rename (h : Inv S W B) (i : Int) (s u : ByteArray) : Inv (S.rename i s u).1 W (B + 2) := by
  have h3 := h.mono (Nat.le_refl W) (show B ≤ B + 2 by omega)
  unfold DS.rename
  split
  · exact h3
  · rename_i h0
    have h0' : ofErr S i true = 0 := by simpa using h0
    split
    · exact h3
    split
    · exact h3
    · rename_i h2
      have hfe : findErr S i s = 0 := by unfold findErr; rw [if_pos h0']; simpa using h2
      obtain ⟨_, n, hmem, hv⟩ := findErr_zero hfe
      obtain ⟨hdn, k, rfl, hk, hdir⟩ := ofErr_zero h0'
      have e3 : ((k : Int) + 1 - 1).toNat = k := by omega
      rw [e3] at hmem ⊢
      split
      · exact h3
      split
      · exact h3
      · rw [hv]
        exact h.opped true (Nat.le_refl _) (by omega) (fun ht => (ht.step (k := k) (s := .ren s u n) hk (by show St.fits (S.nd k).dir _ = true; rw [hdir]; rfl) trivial (by simp [St.parts]) (fun par he => he.ren hmem u)))

theorem Inv.sync (h : Inv S W B) (i : Int) : Inv (S.sync i).1 W (B + 1) := by
  unfold DS.sync
  split
  · rename_i h0
    obtain ⟨hdn, k, rfl, hk⟩ := anyErr_zero h0
    have e3 : ((k : Int) + 1 - 1).toNat = k := by omega
    rw [e3]
    exact h.opped false (Nat.le_refl _) (Nat.le_refl _) (fun ht => ht.set (k := k) hk (Nat.le_refl _) (Nat.le_refl _) rfl (fun par hn => hn.synced))
  · exact h.mono (Nat.le_refl _) (by omega)

theorem Inv.fail (h : Inv S W B) (a : Int) (ha : a ≤ 9223372036854775807) (d : Bool) : Inv (S.fail a d).1 W B := by
  unfold DS.fail
  split
  · exact h
  split
  · exact h
  · exact h.same rfl h.ops0 h.ops h.ch0 h.ch ha h.fu rfl
theorem Inv.fullAt (h : Inv S W B) (a : Int) (ha : a ≤ 9223372036854775807) : Inv (S.fullAt a).1 W B := by
  unfold DS.fullAt
  split
  · exact h
  split
  · exact h
  · exact h.same rfl h.ops0 h.ops h.ch0 h.ch h.fa ha rfl

theorem crashAll_at (l : List Nd) (keep : List UInt8) : (crashAll l keep).length = l.length ∧ ∀ k (hk : k < l.length), ∃ q : Int, 0 ≤ q ∧ (crashAll l keep)[k]? = some (l[k].crashed q) := by
  induction l generalizing keep with
  | nil => exact ⟨rfl, fun k hk => by simp at hk⟩
  | cons n r ih =>
    unfold crashAll
    split
    · refine ⟨by simp [(ih _).1], fun k hk => ?_⟩
      cases k with
      | zero => exact ⟨((keep.getD 0 0).toNat : Int) % ((sumParts n.loose : Int) + 1), Int.emod_nonneg _ (by omega), rfl⟩
      | succ k => simpa using (ih (keep.drop 1)).2 k (by simpa using hk)
    · refine ⟨by simp [(ih _).1], fun k hk => ?_⟩
      cases k with
      | zero => exact ⟨0, Int.le_refl _, by simp⟩
      | succ k => simpa using (ih keep).2 k (by simpa using hk)

theorem Inv.crash (h : Inv S W B) (keep : List UInt8) : Inv (S.crash keep) W B := by
  obtain ⟨hl, hat⟩ := crashAll_at S.nodes keep
  obtain ⟨⟨par, hp⟩, h1, h2, h3, h4, h5, h6, h7, h8, h9, h10, h11⟩ := h
  have el : (S.crash keep).nodes.length = S.nodes.length := hl
  have en : ∀ k, k < S.nodes.length → ∃ q : Int, 0 ≤ q ∧ (S.crash keep).nd k = (S.nd k).crashed q := fun k hk => by
    obtain ⟨q, hq, e⟩ := hat k hk
    refine ⟨q, hq, ?_⟩
    rw [S.nd_at hk]
    unfold DS.nd
    rw [List.getD_eq_getElem?_getD]
    show ((crashAll S.nodes keep)[k]?).getD _ = _
    rw [e]; rfl
  refine ⟨⟨par, fun k hk => ?_⟩, by rw [el]; exact h1, by rw [el]; exact h2, ?_, h4, h5, h6, h7, by show (0 : Int) ≤ _; omega, by show (0 : Int) ≤ _; omega, h10, h11⟩
  · rw [el] at hk ⊢
    obtain ⟨q, hq, e⟩ := en k hk
    rw [e]
    exact (hp k hk).crashed q hq
  · obtain ⟨q, hq, e⟩ := en 0 (by omega)
    rw [e]; exact h3

theorem Inv.new (c : Int) (hc : c ≤ 9223372036854775807) : Inv (newDS c) 0 0 :=
  ⟨⟨fun _ => 0, fun k hk => by
      have : k = 0 := by simp [newDS] at hk; omega
      subst this
      exact NInv.new _ _ _ _ _ _⟩, by simp [newDS], by simp [newDS], rfl, by simp [newDS], by simp [newDS], by simp [newDS], by simp [newDS], by simp [newDS], by simp [newDS], by simp [newDS]; omega, by simp [newDS]; omega⟩
end

end Go.Proofs.Ytagjmphmdgklkaa

/- How much the files can have that entries lead to (plain). -/
namespace Go.Proofs.Ytagjmphmdgklkaa
open Go.RowKit

/-- the nodes that are visited, in an order -/
def vlist (S : DS) : Nat → Nat → List Nat
  | 0, _ => []
  | n + 1, d => (S.nd (d - 1)).seen.ents.flatMap fun e => e.2 :: if (S.nd (e.2 - 1)).dir then vlist S n e.2 else []

theorem rsum_vlist (S : DS) (i : Int) (lb : Nat) : ∀ n d, rsum S i lb n d = ((vlist S n d).map (vcost S i lb)).sum := by
  intro n
  induction n with
  | zero => intro d; rfl
  | succ n ih =>
    intro d
    rw [rsum_step]
    show _ = (((S.nd (d - 1)).seen.ents.flatMap fun e => e.2 :: if (S.nd (e.2 - 1)).dir then vlist S n e.2 else []).map (vcost S i lb)).sum
    induction (S.nd (d - 1)).seen.ents with
    | nil => rfl
    | cons e m ihm =>
      simp only [List.map_cons, List.sum_cons, List.flatMap_cons, List.map_append, List.sum_append]
      rw [ihm]
      congr 1
      unfold ecost
      congr 1
      split
      · exact ih e.2
      · rfl

section
variable {S : DS} {par : Nat → Nat}

theorem vlist_mem (H : ∀ k, k < S.nodes.length → EOK par S.nodes.length k (S.nd k).seen.ents) : ∀ n d, 1 ≤ d → d ≤ S.nodes.length → ∀ x ∈ vlist S n d, d < x ∧ x ≤ S.nodes.length ∧ par x + 1 < x := by
  intro n
  induction n with
  | zero => intro d _ _ x hx; simp [vlist] at hx
  | succ n ih =>
    intro d h1 h2 x hx
    obtain ⟨k, rfl⟩ : ∃ k, d = k + 1 := ⟨d - 1, by omega⟩
    obtain ⟨e, he, hx⟩ := List.mem_flatMap.1 hx
    have hk := (H k (by omega)).ok e (by simpa using he)
    rcases List.mem_cons.1 hx with rfl | hx
    · exact ⟨hk.1, hk.2.1, by rw [hk.2.2]; exact hk.1⟩
    · split at hx
      · have := ih e.2 (by omega) hk.2.1 x hx
        exact ⟨by omega, this.2.1, this.2.2⟩
      · simp at hx

theorem sum_zero {m : Ents} {f : ByteArray × Nat → Nat} (h : ∀ e ∈ m, f e = 0) : (m.map f).sum = 0 := by
  induction m with
  | nil => rfl
  | cons e m ih => rw [List.map_cons, List.sum_cons, h e (by simp), ih (fun y hy => h y (by simp [hy]))]

theorem nodup_len : ∀ (n : Nat) (l : List Nat), l.Nodup → (∀ x ∈ l, x < n) → l.length ≤ n := by
  intro n
  induction n with
  | zero =>
    intro l _ h
    cases l with
    | nil => simp
    | cons a l => have := h a (by simp); omega
  | succ n ih =>
    intro l hd h
    have h1 := ih (l.erase n) (hd.erase n) (fun x hx => by
      have hm := (hd.mem_erase_iff).1 hx
      have := h x hm.2
      have := hm.1
      omega)
    have h2 := List.length_erase (a := n) (l := l)
    split at h2 <;> omega

theorem count_vals {m : Ents} {k x : Nat} {L : Nat} (h : EOK par L k m) : (m.map fun e => if e.2 = x then 1 else 0).sum ≤ if par x = k then 1 else 0 := by
  have hv := h.vals
  have ho := h.ok
  clear h
  induction m with
  | nil => simp
  | cons e m ih =>
    rw [List.map_cons, List.nodup_cons] at hv
    have ih' := ih hv.2 (fun y hy => ho y (by simp [hy]))
    rw [List.map_cons, List.sum_cons]
    by_cases hx : e.2 = x
    · have hz : (m.map fun e => if e.2 = x then 1 else 0).sum = 0 := by
        have : ∀ y ∈ m, (if y.2 = x then 1 else 0) = 0 := fun y hy => if_neg (fun hh => hv.1 (List.mem_map.2 ⟨y, hy, by rw [hh, hx]⟩))
        exact sum_zero this
      have hp := (ho e (by simp)).2.2
      rw [hx] at hp
      rw [hz, if_pos hx, if_pos hp]; omega
    · rw [if_neg hx]; omega

theorem count_flat (m : Ents) (f : ByteArray × Nat → List Nat) (x : Nat) : (m.flatMap fun e => e.2 :: f e).count x = (m.map fun e => (if e.2 = x then 1 else 0) + (f e).count x).sum := by
  induction m with
  | nil => rfl
  | cons e m ih =>
    rw [List.flatMap_cons, List.count_append, ih, List.map_cons, List.sum_cons, List.count_cons]
    by_cases h : e.2 = x
    · simp [h]; omega
    · simp [h]

theorem sum_le_sum {m : Ents} {f g : ByteArray × Nat → Nat} (h : ∀ e ∈ m, f e ≤ g e) : (m.map f).sum ≤ (m.map g).sum := by
  induction m with
  | nil => simp
  | cons e m ih =>
    have h1 := h e (by simp)
    have h2 := ih (fun y hy => h y (by simp [hy]))
    simp only [List.map_cons, List.sum_cons]
    omega
theorem sum_add (m : Ents) (f g : ByteArray × Nat → Nat) : (m.map fun e => f e + g e).sum = (m.map f).sum + (m.map g).sum := by
  induction m with
  | nil => rfl
  | cons e m ih => simp only [List.map_cons, List.sum_cons, ih]; omega

theorem vlist_par (H : ∀ k, k < S.nodes.length → EOK par S.nodes.length k (S.nd k).seen.ents) (x : Nat) : ∀ n d, 1 ≤ d → d ≤ S.nodes.length → (vlist S n d).count x ≤ (if par x + 1 = d then 1 else 0) + (vlist S n d).count (par x + 1) := by
  intro n
  induction n with
  | zero => intro d _ _; simp [vlist]
  | succ n ih =>
    intro d h1 h2
    obtain ⟨k, rfl⟩ : ∃ k, d = k + 1 := ⟨d - 1, by omega⟩
    have hE := H k (by omega)
    show ((S.nd k).seen.ents.flatMap fun e => e.2 :: if (S.nd (e.2 - 1)).dir then vlist S n e.2 else []).count x ≤ _ + ((S.nd k).seen.ents.flatMap fun e => e.2 :: if (S.nd (e.2 - 1)).dir then vlist S n e.2 else []).count (par x + 1)
    rw [count_flat, count_flat, sum_add]
    have h3 := count_vals (x := x) hE
    have h4 : ((S.nd k).seen.ents.map fun e => (if (S.nd (e.2 - 1)).dir then vlist S n e.2 else []).count x).sum ≤ ((S.nd k).seen.ents.map fun e => (if e.2 = par x + 1 then 1 else 0) + (if (S.nd (e.2 - 1)).dir then vlist S n e.2 else []).count (par x + 1)).sum := by
      refine sum_le_sum fun e he => ?_
      have ho := hE.ok e he
      split
      · have := ih e.2 (by omega) ho.2.1
        have e1 : (if par x + 1 = e.2 then 1 else 0) = (if e.2 = par x + 1 then 1 else 0) := by
          by_cases h : e.2 = par x + 1
          · rw [if_pos h, if_pos h.symm]
          · rw [if_neg h, if_neg (fun q => h q.symm)]
        rw [e1] at this
        exact this
      · simp
    have e2 : (if par x = k then 1 else 0) = (if par x + 1 = k + 1 then 1 else 0) := by
      by_cases h : par x = k
      · rw [if_pos h, if_pos (by omega)]
      · rw [if_neg h, if_neg (by omega)]
    rw [e2] at h3
    omega

theorem vlist_once (H : ∀ k, k < S.nodes.length → EOK par S.nodes.length k (S.nd k).seen.ents) (n d : Nat) (h1 : 1 ≤ d) (h2 : d ≤ S.nodes.length) : ∀ x, (vlist S n d).count x ≤ 1 := by
  intro x
  induction x using Nat.strongRecOn with
  | _ x ih =>
    by_cases hx : x ∈ vlist S n d
    · have hm := vlist_mem H n d h1 h2 x hx
      have hp := vlist_par H x n d h1 h2
      by_cases hd : par x + 1 = d
      · have hz : (vlist S n d).count (par x + 1) = 0 := List.count_eq_zero.2 (fun hmem => by have := (vlist_mem H n d h1 h2 _ hmem).1; omega)
        rw [hz, if_pos hd] at hp
        exact hp
      · have := ih (par x + 1) hm.2.2
        rw [if_neg hd] at hp
        omega
    · rw [List.count_eq_zero.2 hx]; omega

theorem sum_nodup {l : List Nat} {f : Nat → Nat} {c L : Nat} (hd : l.Nodup) (hl : ∀ x ∈ l, x ≤ L) (hc : ∀ x ∈ l, f x ≤ c) : (l.map f).sum ≤ (L + 1) * c := by
  have h1 : l.length ≤ L + 1 := by
    exact nodup_len (L + 1) l hd (fun x hx => by have := hl x hx; omega)
  have h2 : (l.map f).sum ≤ l.length * c := by
    clear h1 hd hl
    induction l with
    | nil => simp
    | cons a l ih =>
      have h3 := hc a (by simp)
      have h4 := ih (fun x hx => hc x (by simp [hx]))
      simp only [List.map_cons, List.sum_cons, List.length_cons, Nat.add_mul, Nat.one_mul]
      omega
  exact Nat.le_trans h2 (Nat.mul_le_mul_right _ h1)

end

theorem Inv.total {S : DS} {W B : Nat} (h : Inv S W B) (hB : B ≤ 1000000) (hW : W ≤ 1000000) (i : Int) (lb : Nat) (hlb : lb ≤ 1000000) : S.total i lb + lb ≤ 4611686018427387904 := by
  obtain ⟨par, hp⟩ := h.nodes
  have H : ∀ k, k < S.nodes.length → EOK par S.nodes.length k (S.nd k).seen.ents := fun k hk => (hp k hk).seenE
  have h1 := h.one
  have h2 := h.few
  unfold DS.total
  rw [rsum_vlist]
  have hn : (vlist S S.nodes.length 1).Nodup := List.nodup_iff_count.2 (fun x => vlist_once H _ 1 (Nat.le_refl _) h1 x)
  have hs := sum_nodup (f := vcost S i lb) (c := W + lb) (L := S.nodes.length) hn (fun x hx => (vlist_mem H _ 1 (Nat.le_refl _) h1 x hx).2.1) (fun x hx => by
    have hm := vlist_mem H _ 1 (Nat.le_refl _) h1 x hx
    have := h.bytes (x - 1) (by omega)
    unfold vcost
    split <;> omega)
  have hle : (S.nodes.length + 1) * (W + lb) ≤ 1000002 * 2000000 := Nat.mul_le_mul (by omega) (by omega)
  omega

end Go.Proofs.Ytagjmphmdgklkaa

/- Walks: what every right program keeps of one file ('awake'). -/
namespace Go.Proofs.Ytagjmphmdgklkaa
open Go.RowKit

/-! the states that awake goes through -/
def aw0 : DS := newDS 100
def aw1 : DS := (aw0.make 1 ⟨#[97]⟩ false).1
def aw2 : DS := (aw1.append 2 [120, 121, 122]).1
def aw3 : DS := (aw2.sync 1).1
def aw4 : DS := aw3.crash [2]

theorem aw1_v : (aw0.make 1 ⟨#[97]⟩ false).2 = (2, 0) := by decide +kernel
theorem aw2_v : (aw1.append 2 [120, 121, 122]).2 = 0 := by decide +kernel
theorem aw3_v : (aw2.sync 1).2 = 0 := by decide +kernel
theorem aw3_l : aw3.loose = 3 := by decide +kernel
theorem aw4_r : readErr aw4 2 0 2 = 0 := by decide +kernel
theorem aw4_b : readVal aw4 2 0 2 = [120, 121] := by decide +kernel
theorem aw4_s : sizeOfFile aw4 2 = 2 := by decide +kernel
theorem aw4_o : aw4.ops = 3 := by decide +kernel
theorem aw4_c : aw4.changes = 2 := by decide +kernel

theorem aw0_i : Inv aw0 0 0 := Inv.new 100 (by omega)
theorem aw1_i : Inv aw1 0 3 := aw0_i.make _ _ _
theorem aw2_i : Inv aw2 3 5 := aw1_i.append 2 [120, 121, 122] (by simp)
theorem aw3_i : Inv aw3 3 6 := aw2_i.sync 1
theorem aw4_i : Inv aw4 3 6 := aw3_i.crash [2]

end Go.Proofs.Ytagjmphmdgklkaa

/- The calls on a disk that owns its blocks, in short. -/
namespace Go.Proofs.Ytagjmphmdgklkaa
open Go.RowKit

/-- a disk whose blocks are new since B -/
def Own (B : Nat) (w : World) (p : Nat) (S : DS) : Prop := B ≤ w.heap.size ∧ ∃ P, DAt w p S P ∧ ∀ k, P k → B ≤ k

theorem Own.of_leaves {B : Nat} {w w' : World} {p : Nat} {S2 : DS} {P : Nat → Prop} (hB : B ≤ w.heap.size) (hP : ∀ k, P k → B ≤ k) (h : Leaves w w' p S2 P) : Own B w' p S2 ∧ Below B w w' := by
  obtain ⟨hk, P2, hd, hg⟩ := h
  have hs := hk.size
  refine ⟨⟨by omega, P2, hd, fun k hk => ?_⟩, ⟨hk.os, hk.tape, hk.output, hk.size, fun k hlt => hk.block k (by omega) (fun q => by have := hP k q; omega)⟩⟩
  rcases hg k hk with h1 | h1
  · exact hP k h1
  · have := h1.1; omega

theorem Own.below {B : Nat} {w w' : World} {p : Nat} {S : DS} (h : Own B w p S) (hb : Below w.heap.size w w') : Own B w' p S ∧ Below B w w' := by
  obtain ⟨h1, P, hd, hP⟩ := h
  exact ⟨⟨by have := hb.size; omega, P, hd.below hb, hP⟩, hb.mono h1⟩

theorem own_new (c : Int) (B : Nat) (w : World) (hB : B ≤ w.heap.size) : Calls Try.prog 13 #[.int .i64 c] w fun e w' => ∃ p, e = .returned (ptr p) ∧ Own B w' p (newDS c) ∧ Below B w w' := by
  refine (disk_New c w).mono ?_
  rintro e w' ⟨p, rfl, hd, hb⟩
  exact ⟨p, rfl, ⟨by have := hb.size; omega, _, hd, fun k hk => by omega⟩, hb.mono hB⟩

section
variable {B : Nat} {w : World} {p : Nat} {S : DS} {W b : Nat}

theorem own_create (h : Own B w p S) (hi : Inv S W b) (hb : b ≤ 1000000) (i : Int) (s : ByteArray) :
    Calls Try.prog 36 #[ptr p, .int .i64 i, .string s] w fun e w' => e = .returned (.tuple #[.int .i64 (S.make i s false).2.1, .int .i64 (S.make i s false).2.2]) ∧ Own B w' p (S.make i s false).1 ∧ Below B w w' := by
  obtain ⟨hB, P, hd, hP⟩ := h
  refine (create_any hd (hi.small hb) (hi.loose hb) i s).mono ?_
  rintro e w' ⟨rfl, hl⟩
  exact ⟨rfl, Own.of_leaves hB hP hl⟩

theorem own_append {w0 : World} (h : Own B w0 p S) (hw : Below w0.heap.size w0 w) (hi : Inv S W b) (hb : b ≤ 1000000) (hW : W ≤ 1000000) (i : Int) {v : Value} {l : List UInt8} (hl : l.length ≤ 1000000) (hv : Src w v l (fun k => B ≤ k ∧ k < w0.heap.size)) :
    Calls Try.prog 39 #[ptr p, .int .i64 i, v] w fun e w' => e = .returned (.int .i64 (S.append i l).2) ∧ Own B w' p (S.append i l).1 ∧ Below B w w' := by
  obtain ⟨hB, P, hd, hP⟩ := h
  have hv' : Src w v l P := by
    rcases hv with hv | ⟨a, n, c, h1, h2, h3, h4, h5⟩
    · exact .inl hv
    · exact .inr ⟨a, n, c, h1, h2, h3, fun h0 q => h4 h0 ⟨hP _ q, hd.lt _ q⟩, h5⟩
  refine (append_any (hd.below hw) (hi.fine hb) i hv' (fun k hk => by have := hi.bytes k hk; omega) (hi.total hb hW i l.length hl)).mono ?_
  rintro e w' ⟨rfl, hl⟩
  exact ⟨rfl, Own.of_leaves (by have := hw.size; omega) hP hl⟩

theorem own_sync (h : Own B w p S) (hi : Inv S W b) (hb : b ≤ 1000000) (hW : W ≤ 1000000) (i : Int) :
    Calls Try.prog 40 #[ptr p, .int .i64 i] w fun e w' => e = .returned (.int .i64 (S.sync i).2) ∧ Own B w' p (S.sync i).1 ∧ Below B w w' := by
  obtain ⟨hB, P, hd, hP⟩ := h
  refine (sync_op_any hd (hi.small hb) (fun k hk => by have := hi.bytes k hk; omega) i).mono ?_
  rintro e w' ⟨rfl, hl⟩
  exact ⟨rfl, Own.of_leaves hB hP hl⟩

theorem own_rename (h : Own B w p S) (hi : Inv S W b) (hb : b ≤ 1000000) (i : Int) (s u : ByteArray) :
    Calls Try.prog 41 #[ptr p, .int .i64 i, .string s, .string u] w fun e w' => e = .returned (.int .i64 (S.rename i s u).2) ∧ Own B w' p (S.rename i s u).1 ∧ Below B w w' := by
  obtain ⟨hB, P, hd, hP⟩ := h
  refine (ren_any hd (hi.small hb) (hi.loose hb) hi.leads i s u).mono ?_
  rintro e w' ⟨rfl, hl⟩
  exact ⟨rfl, Own.of_leaves hB hP hl⟩

theorem own_loose (h : Own B w p S) (hs : S.loose ≤ 4611686018427387904) :
    Calls Try.prog 43 #[ptr p] w fun e w' => e = .returned (.int .i64 (S.loose : Int)) ∧ Own B w' p S ∧ Below B w w' := by
  have h' := h
  obtain ⟨hB, P, ⟨vn, nb, t, hd⟩, hP⟩ := h
  refine (loose_any hd hs).mono ?_
  rintro e w' ⟨rfl, hb⟩
  exact ⟨rfl, h'.below hb⟩

theorem own_crash {w0 : World} (h : Own B w0 p S) (hw : Below w0.heap.size w0 w) (hi : Inv S W b) (hb : b ≤ 1000000) (hW : W ≤ 1000000) {v : Value} {l : List UInt8} (hv : KeepAt w v l (fun k => B ≤ k ∧ k < w0.heap.size)) :
    Calls Try.prog 37 #[ptr p, v] w fun e w' => e = .returned (.tuple #[]) ∧ Own B w' p (S.crash l) ∧ Below B w w' := by
  obtain ⟨hB, P, hd, hP⟩ := h
  have hv' : KeepAt w v l P := by
    obtain ⟨a, c, h1, h2, h3, h4⟩ := hv.shape
    refine ⟨a, c, h1, h2, h3, fun j u hu => ?_⟩
    obtain ⟨b1, o, e, hc, hp⟩ := h4 j u hu
    exact ⟨b1, o, e, hc, fun q => hp ⟨hP _ q, hd.lt _ q⟩⟩
  refine (crash_disk (hd.below hw) (hi.nok hW hb) (fun k hk q => by have := hi.replays k hk q; omega) hv').mono ?_
  rintro e w' ⟨rfl, hl⟩
  exact ⟨rfl, Own.of_leaves (by have := hw.size; omega) hP hl⟩

theorem own_read (h : Own B w p S) (hi : Inv S W b) (hW : W ≤ 1000000) (i a n : Int) (ha0 : -9223372036854775808 ≤ a) (ha1 : a ≤ 9223372036854775807) :
    Calls Try.prog 16 #[ptr p, .int .i64 i, .int .i64 a, .int .i64 n] w fun e w' => ∃ v, e = .returned (.tuple #[v, .int .i64 (readErr S i a n)]) ∧ Given w w' v (readVal S i a n) ∧ Own B w' p S ∧ Below B w w' := by
  have h' := h
  obtain ⟨hB, P, ⟨vn, nb, t, hd⟩, hP⟩ := h
  refine (read_any hd i a n (fun k hk => by have := hi.bytes k hk; omega) ha0 ha1).mono ?_
  rintro e w' ⟨v, rfl, hg⟩
  exact ⟨v, rfl, hg, h'.below hg.2.1⟩

theorem own_size (h : Own B w p S) (i : Int) : Calls Try.prog 42 #[ptr p, .int .i64 i] w fun e w' => e = .returned (.int .i64 (sizeOfFile S i : Int)) ∧ w = w' := by
  obtain ⟨hB, P, ⟨vn, nb, t, hd⟩, hP⟩ := h
  exact size_any hd i
theorem own_ops (h : Own B w p S) : Calls Try.prog 44 #[ptr p] w fun e w' => e = .returned (.int .i64 S.ops) ∧ w = w' := by
  obtain ⟨hB, P, ⟨vn, nb, t, hd⟩, hP⟩ := h
  exact ops_any hd
theorem own_changes (h : Own B w p S) : Calls Try.prog 45 #[ptr p] w fun e w' => e = .returned (.int .i64 S.changes) ∧ w = w' := by
  obtain ⟨hB, P, ⟨vn, nb, t, hd⟩, hP⟩ := h
  exact changes_any hd
theorem own_find (h : Own B w p S) (i : Int) (s : ByteArray) : Calls Try.prog 18 #[ptr p, .int .i64 i, .string s] w fun e w' => e = .returned (.tuple #[.int .i64 (findVal S i s : Int), .int .i64 (findErr S i s)]) ∧ w = w' := by
  obtain ⟨hB, P, ⟨vn, nb, t, hd⟩, hP⟩ := h
  exact find_any hd i s
end

end Go.Proofs.Ytagjmphmdgklkaa
