/- Parts of the proof, one behind the other: Dawake2 Dlaws App0 Bytes Post Keep. -/
import Derived.Test.YtagjmphmdgklkaaG4
import Derived.Test.YtagjmphmdgklkaaG1
import Derived.Lib.SlBytesConst
import Derived.Lib.SlBytesRow
import Derived.Lib.BufferRead
import Derived.OpenShut
import Derived.Test.YtagjmphmdgklkaaRows
import Derived.ProofKit
import Derived.Below
import Derived.ChangeSame
import Derived.ChangeReads
/- Walks: 'awake' is always true. -/
namespace Go.Proofs.Ytagjmphmdgklkaa
open Go.RowKit

theorem tU8 : Try.prog.underlying 5 = some (.int .u8) := by kernel_rfl

theorem src_fresh {w0 w : World} {B : Nat} (hw : w0.heap.size ≤ w.heap.size) (l : List UInt8) (cs : Array Value) (h : cs.toList = bcells l) (T : TypeId) (fr : Nat × Nat) : Src (w.alloc (.cells cs T fr)) (.slice (some ⟨w.heap.size, 0, none⟩) l.length l.length) l (fun k => B ≤ k ∧ k < w0.heap.size) := by
  refine .inr ⟨_, _, _, rfl, rfl, fun _ => by simp, fun _ q => by have := q.2; simp at this; omega, fun j u hu => ?_⟩
  have e : ((⟨w.heap.size, 0, none⟩ : Addr).add j) = ⟨w.heap.size, j, none⟩ := by unfold Addr.add; split <;> simp_all
  rw [e, World.cell?_alloc_mark, ← Array.getElem?_toList, h]
  exact hu

theorem keep_fresh {w0 w : World} {B : Nat} (hw : w0.heap.size ≤ w.heap.size) (l : List UInt8) (cs : Array Value) (h : cs.toList = bcells l) (T : TypeId) (fr : Nat × Nat) (hl : l.length ≤ maxLen) : KeepAt (w.alloc (.cells cs T fr)) (.slice (some ⟨w.heap.size, 0, none⟩) l.length l.length) l (fun k => B ≤ k ∧ k < w0.heap.size) := by
  refine ⟨_, _, rfl, Nat.le_refl _, hl, fun j u hu => ⟨_, _, rfl, ?_, fun q => by have := q.2; omega⟩⟩
  rw [Nat.zero_add, World.cell?_alloc_mark, ← Array.getElem?_toList, h]
  exact hu

/-- string(b) of a row of bytes -/
theorem row_string {w : World} {v : Value} {l : List UInt8} (h : Row w 5 1 v l.length (bcells l)) : (convert 34 9 v).run Try.prog w = .ok (.string ⟨l.toArray⟩) w := by
  rcases h.shape with ⟨rfl, hn⟩ | ⟨g, cap, rfl, hn, hm, hg⟩
  · have : l = [] := List.eq_nil_of_length_eq_zero hn
    subst this
    exact Lib.run_convert_nil_bytes w _ _ _ 0 tBytes tU8 tStr
  · have e : l.length = (⟨l.toArray⟩ : ByteArray).size := by simp [ByteArray.size]
    rw [e]
    refine Lib.run_convert_whole w _ _ _ tBytes tU8 tStr g 0 ⟨l.toArray⟩ (fun i hi => ?_) cap
    have hi' : i < l.length := by rw [e]; exact hi
    rw [Nat.zero_add, h.cellAt i (by omega)]
    simp [bcells, bcell, hi']
    rfl

set_option maxRecDepth 100000 in
set_option maxHeartbeats 1000000 in
theorem awake_walk (w : World) : Calls Try.prog 12 #[] w fun e w' => e = .returned (.bool true) ∧ Below w.heap.size w w' := by
  have n1 := own_new 100 w.heap.size w (Nat.le_refl _)
  have N1 := Lib.hid n1
  clear n1
  go_enter Try.func12, Try.ntmps12
  go_wp2_with (first | (go_at_call 13; refine N1.out.mono ?_; rintro e w1 ⟨p, rfl, ho, hb⟩; have O1 := Lib.hid ho; have B1 := Lib.hid hb; have C1 := Lib.hid (own_create ho aw0_i (by omega) 1 ⟨#[97]⟩); clear ho hb; unfold ptr) |
    (go_at_call 36; refine C1.out.mono ?_; rintro e w2 ⟨rfl, ho, hb⟩; have O2 := Lib.hid (show Own w.heap.size w2 p aw1 from ho); have B2 := Lib.hid hb; clear ho hb; have hcv := Lib.run_convert_bytes_const (P := Try.prog) w2 34 5 #[.int .u8 120, .int .u8 121, .int .u8 122] 3 3 tBytes tU8; have v1 := aw1_v; simp only [aw0] at v1; rw [v1]) |
    (go_at_call 39; have hs := src_fresh (B := w.heap.size) (Nat.le_refl w2.heap.size) [120, 121, 122] #[.int .u8 120, .int .u8 121, .int .u8 122] rfl 5 (3, 4); refine (own_append O2.out ((Below.refl _ _).alloc (Nat.le_refl _) _) aw1_i (by omega) (by omega) 2 (by simp) hs).mono ?_; rintro e w3 ⟨rfl, ho, hb⟩; have O3 := Lib.hid (show Own w.heap.size w3 p aw2 from ho); have B3 := Lib.hid hb; have S3 := Lib.hid (own_sync (show Own w.heap.size w3 p aw2 from ho) aw2_i (by omega) (by omega) 1); clear ho hb hs; rw [aw2_v]) |
    (go_at_call 40; refine S3.out.mono ?_; rintro e w4 ⟨rfl, ho, hb⟩; have O4 := Lib.hid (show Own w.heap.size w4 p aw3 from ho); have B4 := Lib.hid hb; have L4 := Lib.hid (own_loose (show Own w.heap.size w4 p aw3 from ho) (by rw [aw3_l]; omega)); clear ho hb; rw [aw3_v]) |
    (go_at_call 43; refine L4.out.mono ?_; rintro e w5 ⟨rfl, ho, hb⟩; have O5 := Lib.hid ho; have B5 := Lib.hid hb; have C5 := Lib.hid (own_crash (show Own w.heap.size w5 p aw3 from ho) ((Below.refl _ _).alloc (Nat.le_refl _) _) aw3_i (by omega) (by omega) (keep_fresh (B := w.heap.size) (Nat.le_refl w5.heap.size) [2] #[.int .u8 2] rfl 5 (0, 0) (by simp [maxLen]))); clear ho hb; rw [aw3_l]) |
    (go_at_call 37; refine C5.out.mono ?_; rintro e w6 ⟨rfl, ho, hb⟩; have O6 := Lib.hid (show Own w.heap.size w6 p aw4 from ho); have B6 := Lib.hid hb; have R6 := Lib.hid (own_read (show Own w.heap.size w6 p aw4 from ho) aw4_i (by omega) 2 0 2 (by omega) (by omega)); clear ho hb) |
    (go_at_call 16; refine R6.out.mono ?_; rintro e w7 ⟨v, rfl, hg, ho, hb⟩; have hg1 := hg.1; rw [aw4_b] at hg1; obtain ⟨a7, n7, c7, rfl⟩ := hg1.isSlice; have hst := row_string hg1; have B7 := Lib.hid hb; have Z7 := own_size ho 2; rw [aw4_s] at Z7; have P7 := own_ops ho; rw [aw4_o] at P7; have Q7 := own_changes ho; rw [aw4_c] at Q7; have HZ := Lib.hid Z7; have HP := Lib.hid P7; have HQ := Lib.hid Q7; clear hg hg1 ho hb Z7 P7 Q7; rw [aw4_r]) |
    (go_at_call 42; refine HZ.out.mono ?_; rintro e w8 ⟨rfl, rfl⟩) | (go_at_call 44; refine HP.out.mono ?_; rintro e w8 ⟨rfl, rfl⟩) | (go_at_call 45; refine HQ.out.mono ?_; rintro e w8 ⟨rfl, rfl⟩))
  go_ret
  exact ⟨rfl, B1.out.trans (B2.out.trans (((Below.refl _ _).alloc O2.out.1 _).trans (B3.out.trans (B4.out.trans (B5.out.trans (((Below.refl _ _).alloc O5.out.1 _).trans (B6.out.trans B7.out)))))))⟩

end Go.Proofs.Ytagjmphmdgklkaa

/- Own, the rest: listing. -/
namespace Go.Proofs.Ytagjmphmdgklkaa
open Go.RowKit

theorem Inv.ents {S : DS} {W B : Nat} (h : Inv S W B) : ∀ k, k < S.nodes.length → (S.nd k).seen.ents.length ≤ S.nodes.length + 1 := fun k hk => by
  obtain ⟨par, hn⟩ := h.nodes
  have he := (hn k hk).seenE
  have := nodup_len (S.nodes.length + 1) _ he.vals (fun x hx => by
    obtain ⟨e, hm, rfl⟩ := List.mem_map.1 hx
    have := (he.ok e hm).2.1
    omega)
  simpa using this

theorem own_list {B : Nat} {w : World} {p : Nat} {S : DS} {W b : Nat} (h : Own B w p S) (hi : Inv S W b) (hb : b ≤ 999990) (i : Int) :
    Calls Try.prog 38 #[ptr p, .int .i64 i] w fun e w' => ∃ v, e = .returned (.tuple #[v, .int .i64 (ofErr S i true)]) ∧ GivenS w w' v (listVal S i) ∧ Own B w' p S ∧ Below B w w' := by
  have h' := h
  obtain ⟨hB, P, ⟨vn, nb, t, hd⟩, hP⟩ := h
  refine (list_any hd i (fun k hk => by have := hi.ents k hk; have := hi.few; omega)).mono ?_
  rintro e w' ⟨v, rfl, hg⟩
  exact ⟨v, rfl, hg, h'.below hg.below⟩

end Go.Proofs.Ytagjmphmdgklkaa

/- Rows: append of one element, and of a part of another row. -/
namespace Go.Proofs.Ytagjmphmdgklkaa
open Go.RowKit

/-- cells that are read from an address on -/
def Seg (w : World) (A : Option Addr) (m size : Nat) (news : List Value) : Prop :=
  news.length = m * size ∧ (0 < m → ∃ a, A = some a ∧ ∀ j u, news[j]? = some u → w.cell? (a.add j) = some u)

theorem block_of_add (a : Addr) (n : Nat) : (a.add n).block = a.block := by unfold Addr.add; split <;> rfl

theorem Seg.none (w : World) (size : Nat) : Seg w .none 0 size [] := ⟨by simp, fun h => absurd h (by omega)⟩
theorem Seg.zero (w : World) (A : Option Addr) (size : Nat) : Seg w A 0 size [] := ⟨by simp, fun h => absurd h (by omega)⟩
theorem Row.seg {w : World} {e : TypeId} {size : Nat} {A : Option Addr} {n cap : Nat} {xs : List Value} (h : Row w e size (.slice A n cap) n xs) : Seg w A n size xs := by
  refine ⟨h.1, fun hn => ?_⟩
  rcases h.shape with ⟨e, h0⟩ | ⟨g, cap', e, _⟩
  · omega
  · obtain ⟨rfl, rfl⟩ : A = some ⟨g, 0, .none⟩ ∧ cap = cap' := by
      have := Value.slice.inj e
      exact ⟨this.1, this.2.2⟩
    exact ⟨_, rfl, h.cells (g := g) rfl⟩
theorem Seg.take {w : World} {A : Option Addr} {n size : Nat} {xs : List Value} (h : Seg w A n size xs) (k : Nat) (hk : k ≤ n) : Seg w A k size (xs.take (k * size)) := by
  have hm : k * size ≤ n * size := Nat.mul_le_mul_right _ hk
  refine ⟨by rw [List.length_take, h.1]; omega, fun h0 => ?_⟩
  obtain ⟨a, e, hc⟩ := h.2 (by omega)
  refine ⟨a, e, fun j u hu => hc j u ?_⟩
  rw [List.getElem?_take] at hu
  split at hu
  · exact hu
  · simp at hu
theorem Seg.drop {w : World} {A : Option Addr} {n size : Nat} {xs : List Value} (h : Seg w A n size xs) (k : Nat) (hk : k ≤ n) : Seg w (A.map (·.add (k * size))) (n - k) size (xs.drop (k * size)) := by
  refine ⟨by rw [List.length_drop, h.1, Nat.sub_mul], fun h0 => ?_⟩
  obtain ⟨a, rfl, hc⟩ := h.2 (by omega)
  refine ⟨_, rfl, fun j u hu => ?_⟩
  rw [List.getElem?_drop] at hu
  have := hc _ u hu
  rw [show (a.add (k * size)).add j = a.add (k * size + j) from by
    unfold Addr.add
    by_cases hi : k * size = 0 <;> by_cases hj : j = 0 <;> simp [hi, hj, Nat.add_assoc]]
  exact this
theorem Seg.keep {w w' : World} {A : Option Addr} {n size : Nat} {xs : List Value} (h : Seg w A n size xs) (hk : ∀ a, A = some a → 0 < n → ∀ o, a.block = o.block → w'.cell? o = w.cell? o) : Seg w' A n size xs := by
  refine ⟨h.1, fun h0 => ?_⟩
  obtain ⟨a, e, hc⟩ := h.2 h0
  exact ⟨a, e, fun j u hu => (hk a e h0 _ (block_of_add a j).symm).trans (hc j u hu)⟩

theorem below_drewN {B : Nat} {a b : World} (h : Below B a b) (n : Nat) : Below B a (b.drewN n) := ⟨h.os, h.tape, h.output, h.size, h.block⟩
theorem Seg.below {w w' : World} {A : Option Addr} {n size : Nat} {xs : List Value} (h : Seg w A n size xs) {B : Nat} (hb : Below B w w') (hA : ∀ a, A = some a → 0 < n → a.block < B) : Seg w' A n size xs :=
  h.keep fun a e h0 o ho => World.cell?_of_block (hb.block o.block (by rw [← ho]; exact hA a e h0))
theorem Seg.grown {w w' : World} {A : Option Addr} {n size : Nat} {xs : List Value} (h : Seg w A n size xs) {row : Option Nat} (hg : w.grownBy w' row) (hA : ∀ a, A = some a → 0 < n → a.block < w.heap.size ∧ some a.block ≠ row) : Seg w' A n size xs :=
  h.keep fun a e h0 o ho => World.cell?_of_block (hg.block o.block (by rw [← ho]; exact (hA a e h0).1) (by rw [← ho]; exact (hA a e h0).2))
theorem seg_made (W : World) (cs : Array Value) (T : TypeId) (size : Nat) (h : cs.size = size) : Seg (W.alloc (.cells cs T)) (some ⟨W.heap.size, 0, .none⟩) 1 size cs.toList := by
  refine ⟨by simp [h], fun _ => ⟨_, rfl, fun j u hu => ?_⟩⟩
  have := (Blk.made W cs T).cell j
  rw [Addr.add_lit, hu] at *
  simpa using this

theorem row_app1 {P : Program} {w : World} (t ty e : TypeId) (i : TypeInfo) (z : Value) (size bytes : Nat) (ht : P.underlying t = some (.slice e)) (hi : P.info? e = some i) (hz : i.zero = some z)
    (hsize : i.size = size) (hby : i.bytes = bytes) (hzs : z.cells.size = size) {v : Value} {n : Nat} {xs : List Value} (hr : Row w e size v n xs) (cs : Array Value) (hcs : cs.size = size) (h1 : ∀ u ∈ cs.toList, u.oneCell' = true)
    (hn : n + 1 ≤ maxLen) (hb : (n + 1) * bytes ≤ 140737488355328) :
    ∃ g2 n2 c2 w', (Builtin.append_ #[t, t] ty #[v, .slice (some ⟨w.heap.size, 0, .none⟩) 1 1]).run P (w.alloc (.cells cs e)) = .ok (.slice (some ⟨g2, 0, .none⟩) n2 c2) w' ∧
      Row w' e size (.slice (some ⟨g2, 0, .none⟩) n2 c2) (n + 1) (xs ++ cs.toList) ∧ w.grownBy w' v.ownBlock ∧ (∀ k, (Value.slice (some ⟨g2, 0, .none⟩) n2 c2).ownBlock = some k → v.ownBlock = some k ∨ (w.heap.size ≤ k ∧ k < w'.heap.size)) ∧ n2 = n + 1 := by
  have hr' : Row (w.alloc (.cells cs e)) e size v n xs := hr.of_block fun k hk => Below.heap_alloc _ _ _ (hr.lt k hk)
  obtain ⟨v', w', hrun, hrow, hgr, hown⟩ := run_append_row (P := P) (w.alloc (.cells cs e)) t ty e i z size bytes ht hi hz hsize hby hzs v n xs hr'
    ⟨w.heap.size, 0, .none⟩ 1 1 cs.toList (by simp [hcs]) (fun j u hu => by
      have := (Blk.made w cs e).cell j
      rw [Addr.add_lit, hu] at *
      simpa using this) h1 hn hb (.inl (by omega))
  rcases hrow.shape with ⟨_, h0⟩ | ⟨g2, c2, e2, _⟩
  · omega
  refine ⟨g2, n + 1, c2, w', ?_, ?_, ?_, ?_, rfl⟩
  · rw [hrun, e2]
  · rw [← e2]; exact hrow
  · refine ⟨hgr.os, hgr.tape, hgr.output, ?_, fun k hk hne => ?_⟩
    · have := hgr.size; simp at this; omega
    · rw [hgr.block k (by simp; omega) hne]
      exact Below.heap_alloc _ _ _ hk
  · intro k hk
    rw [← e2] at hk
    rcases hown k hk with h5 | h5
    · exact .inl h5
    · exact .inr ⟨by have := h5.1; simp at this; omega, h5.2⟩

theorem run_app_zero {P : Program} {w : World} (t ty e : TypeId) (i : TypeInfo) (size : Nat) (ht : P.underlying t = some (.slice e)) (hi : P.info? e = some i) (A : Option Addr) (n cap c : Nat) (h : n ≤ cap) (B : Option Addr) :
    (Builtin.append_ #[t, t] ty #[.slice A n cap, .slice B 0 c]).run P w = .ok (.slice A n cap) w := by
  cases A <;> cases B <;> simp [Builtin.append_, run_underlying ht, sizeOf, typeInfo, hi, Builtin.lenOf, Builtin.firstCells, h, storeCells, loadCells, loadCellsFrom]

theorem row_apps {P : Program} {w : World} (t ty e : TypeId) (i : TypeInfo) (z : Value) (size bytes : Nat) (ht : P.underlying t = some (.slice e)) (hi : P.info? e = some i) (hz : i.zero = some z)
    (hsize : i.size = size) (hby : i.bytes = bytes) (hzs : z.cells.size = size) {v : Value} {n : Nat} {xs : List Value} (hr : Row w e size v n xs) {A : Option Addr} {m c : Nat} {news : List Value} (hs : Seg w A m size news) (h1 : ∀ u ∈ news, u.oneCell' = true)
    (hn : n + m ≤ maxLen) (hb : (n + m) * bytes ≤ 140737488355328) :
    ∃ a2 c2 w', (Builtin.append_ #[t, t] ty #[v, .slice A m c]).run P w = .ok (.slice a2 (n + m) c2) w' ∧
      Row w' e size (.slice a2 (n + m) c2) (n + m) (xs ++ news) ∧ w.grownBy w' v.ownBlock ∧ (∀ k, (Value.slice a2 (n + m) c2).ownBlock = some k → v.ownBlock = some k ∨ (w.heap.size ≤ k ∧ k < w'.heap.size)) := by
  rcases Nat.eq_zero_or_pos m with h0 | h0
  · subst h0
    have hnil : news = [] := List.eq_nil_of_length_eq_zero (by simpa using hs.1)
    subst hnil
    rcases hr.shape with ⟨rfl, rfl⟩ | ⟨g, cap, rfl, hc, _⟩
    · exact ⟨_, _, w, run_app_zero t ty e i size ht hi _ _ _ _ (Nat.le_refl _) _, by simpa using hr, World.grownBy.refl w _, fun k hk => .inl hk⟩
    · exact ⟨_, _, w, run_app_zero t ty e i size ht hi _ _ _ _ hc _, by simpa using hr, World.grownBy.refl w _, fun k hk => .inl hk⟩
  · obtain ⟨a, rfl, hc⟩ := hs.2 h0
    obtain ⟨v', w', hrun, hrow, hgr, hown⟩ := run_append_row (P := P) w t ty e i z size bytes ht hi hz hsize hby hzs v n xs hr a m c news hs.1 hc h1 hn hb (.inl h0)
    rcases hrow.shape with ⟨_, h0⟩ | ⟨g2, c2, e2, _⟩
    · omega
    · subst e2
      exact ⟨_, _, w', hrun, hrow, hgr, hown⟩

end Go.Proofs.Ytagjmphmdgklkaa

/- Bytes that came in. -/
namespace Go.Proofs.Ytagjmphmdgklkaa
open Go.RowKit Go.ChangeShapes Go.WideShapes

/-- a slice of bytes that was there -/
structure BytesIn (w : World) (v : Value) (l : List UInt8) : Prop where
  ex : ∃ A n c, v = .slice A n c ∧ l.length = n ∧ n ≤ c ∧ c ≤ maxLen ∧ ((A = none ∧ n = 0 ∧ c = 0) ∨ ∃ a, A = some a ∧ (0 < n → a.block < w.heap.size) ∧ ∀ j u, (bcells l)[j]? = some u → w.cell? (a.add j) = some u)

theorem cell_lt {w : World} {a : Addr} {v : Value} (h : w.cell? a = some v) : a.block < w.heap.size := by
  refine Decidable.byContradiction fun hn => ?_
  have : w.heap[a.block]? = none := by simp; omega
  simp [World.cell?, this] at h

theorem BytesIn.src {w W : World} {A : Option Addr} {n c : Nat} {l : List UInt8} (h : BytesIn w (.slice A n c) l) {B : Nat} (hB : w.heap.size ≤ B) (hb : Below w.heap.size w W) (m : Nat) (hm : m ≤ n) (hi : Nat) : Src W (.slice A m c) (l.take m) (fun k => B ≤ k ∧ k < hi) := by
  obtain ⟨A', n', c', he, hl, hn, hc, hA⟩ := h
  obtain ⟨rfl, rfl, rfl⟩ := Value.slice.inj he
  rcases hA with ⟨rfl, rfl, rfl⟩ | ⟨a, rfl, hlt, hcell⟩
  · left
    have : m = 0 := by omega
    subst this
    exact ⟨rfl, by simp⟩
  · refine .inr ⟨a, m, c, rfl, by rw [List.length_take]; omega, fun h0 => by have := hlt (by omega); have := hb.size; omega, fun h0 q => by have := hlt (by omega); omega, fun j u hu => ?_⟩
    have hu' : (bcells l)[j]? = some u := by
      unfold bcells at hu ⊢
      rw [List.map_take, List.getElem?_take] at hu
      split at hu
      · exact hu
      · simp at hu
    have := hcell j u hu'
    have h0 : 0 < n := by
      have := (List.getElem?_eq_some_iff.1 hu').1
      simp [bcells] at this
      omega
    rw [hb.cell (p := a.add j) (by rw [block_of_add]; exact hlt h0)]
    exact this

section
variable {H : Type} {enc : TypeId × Value → H} {W : World} {base : Nat} {spare : Nat → Bool} {held : Bool}
set_option maxRecDepth 100000 in
theorem cellsU8 : Try.prog.cellsOf 5 = 1 := by kernel_rfl
set_option maxRecDepth 100000 in
theorem open_bytesIn {v : Value} {d : DataW H} {p : List MemPlace} (hval : Value.okWide Try.prog W .any base 34 v) (h : DataW.Trod enc Try.prog W 0 (fun _ => true) true 34 v d p) : ∃ l, BytesIn W v l := by
  obtain ⟨a1, len, cap, rfl⟩ := okWide_slice tBytes hval
  obtain ⟨fuel, hf⟩ := h
  rcases open_ints tBytes tU8 cellsU8 hf with ⟨hcs, hx⟩ | ⟨a, len', cap', zs, hcs, _, hl, hm, hz, hx, hcell, hwz⟩
  · simp [Value.cells] at hcs
    obtain ⟨rfl, rfl, rfl⟩ := hcs
    exact ⟨[], ⟨_, _, _, rfl, rfl, Nat.le_refl _, by simp [maxLen], .inl ⟨rfl, rfl, rfl⟩⟩⟩
  · simp [Value.cells] at hcs
    obtain ⟨rfl, rfl, rfl⟩ := hcs
    simp only [if_true] at hz
    have hbc : ∀ j u, (bcells ((zs.take len).map fun n => UInt8.ofNat n.toNat))[j]? = some u → W.cell? (a.add j) = some u := by
      intro j u hu
      unfold bcells at hu
      rw [List.getElem?_map, List.getElem?_map, List.getElem?_take] at hu
      split at hu
      · rename_i hj
        have hj2 : j < zs.length := by omega
        rw [List.getElem?_eq_getElem hj2] at hu
        simp only [Option.map_some, Option.some.injEq] at hu
        have hb := bounds_u8 (hwz _ (List.getElem_mem hj2))
        rw [hcell j (by omega), ← hu]
        unfold bcell
        rw [List.getD_eq_getElem?_getD, List.getElem?_eq_getElem hj2, UInt8.toNat_ofNat']
        congr 2
        simp
        omega
      · simp at hu
    refine ⟨(zs.take len).map fun n => UInt8.ofNat n.toNat, ⟨some a, len, cap, rfl, by simp; omega, hl, hm, ?_⟩⟩
    exact .inr ⟨a, rfl, fun h0 => by have := cell_lt (hcell 0 (by omega)); rwa [block_of_add] at this, hbc⟩
end

end Go.Proofs.Ytagjmphmdgklkaa

/- The last step of a law's row: the call returned true, and what was there lies as it lay. -/
namespace Go.Proofs.Ytagjmphmdgklkaa
open Go.RowKit Go.WideShapes Go.ChangeShapes

theorem law_post {H : Type} {enc : TypeId × Value → H} {P : Program} {f : Func} {s : ChangeSpec} {apart fresh handsOn again : Bool} {W W' : World} {args : Array Value} {v : Value} {ds gs : List (DataW H)} {before pa : List MemPlace}
    (whole : DataW.Whole enc P f.params.toList s.vars apart W args.toList ds gs before) (b : Below W.heap.size W W')
    (res : ∀ (n : Nat) (sp : Nat → Bool) (hd : Bool), DataW.TrodAll enc P W' n sp hd f.resultTypes.toList (v.resultList f.resultTypes.size) (s.fn H (ds ++ gs)).results [])
    (arg : ∀ sp : Nat → Bool, (∀ p ∈ before, sp p.block = true) → DataW.TrodAll enc P W' 0 sp true f.params.toList args.toList (s.fn H (ds ++ gs)).args pa)
    (var : ∀ sp : Nat → Bool, (∀ p ∈ before, sp p.block = true) → DataW.TrodVars enc P W' sp s.vars (s.fn H (ds ++ gs)).vars [])
    (same : before = pa)
    (ok : ∀ (j : Nat) (t : TypeId) (r : Value), f.resultTypes[j]? = some t → (v.resultList f.resultTypes.size)[j]? = some r → Value.okWide P W' .any 0 t r) :
    s.post enc P f apart fresh handsOn again W args v W' := by
  subst same
  have lt : ∀ p ∈ before, p.block < W.heap.size := fun p hp => whole.lt p hp
  have old : ∀ p ∈ before, (fun k => decide (k < W.heap.size)) p.block = true := fun p hp => by simpa using lt p hp
  refine ⟨ds, gs, before, [], before, [], whole, res _ _ _, arg _ old, var _ old, World.keptBut_mono (fun p hp => ⟨hp, ?_⟩) (b.frame (· ∈ before)), fun _ => ?_⟩
  · exact Or.inr (Or.inl hp)
  · obtain ⟨_, _, _, _, _, froz, nodup⟩ := whole
    refine ⟨ok, _, _, ([] ++ before) ++ [], ⟨[] ++ before, [], trodAll_append (arg _ (fun _ _ => rfl)) (res _ _ _), var _ (fun _ _ => rfl), rfl, ?_, ?_⟩, ?_⟩
    · intro k off hp
      have hin : MemPlace.cell k off ∈ before := by simpa using hp
      rw [b.frozen (lt _ hin)]
      exact froz k off hin
    · intro ha
      simpa using nodup ha
    · intro p hp _
      simpa using hp

end Go.Proofs.Ytagjmphmdgklkaa

/- What was read of the arguments is read again behind a call that left all old blocks as they were. -/
namespace Go.Proofs.Ytagjmphmdgklkaa
open Go.RowKit Go.WideShapes Go.ChangeShapes

/-- types that hold plain data alone, with all that they are made of -/
def plainTypes (P : Program) (S : List TypeId) : Bool := S.all fun t => match P.underlying t with
  | some (.slice e) => S.contains e && P.cellsOf e != 0
  | some (.pointer e) => S.contains e
  | some (.struct fs) => fs.toList.all fun f => S.contains f.type
  | some (.array _ e) => S.contains e
  | some .bool => true
  | some (.int _) => true
  | some (.float _) => true
  | some .string => true
  | _ => false

theorem mapM_keep {α β : Type} {f g : α → Option β} : ∀ {l : List α} {ys : List β}, l.mapM f = some ys → (∀ a ∈ l, ∀ y ∈ ys, f a = some y → g a = some y) → l.mapM g = some ys
  | [], ys, h, _ => by simpa using h
  | a :: l, ys, h, hk => by
    rw [List.mapM_cons] at h ⊢
    simp only [Option.bind_eq_bind, Option.pure_def, Option.bind_eq_some_iff] at h
    obtain ⟨y, hy, ys', hys, he⟩ := h
    injection he with he
    subst he
    have h1 : g a = some y := hk a (by simp) y (by simp) hy
    have h2 : l.mapM g = some ys' := mapM_keep hys (fun a ha y hy h => hk a (by simp [ha]) y (by simp [hy]) h)
    simp [h1, h2]

theorem mapM_len {α β : Type} {f : α → Option β} : ∀ {l : List α} {ys : List β}, l.mapM f = some ys → ys.length = l.length
  | [], ys, h => by
    have : ys = [] := by simpa using h.symm
    rw [this]; rfl
  | a :: l, ys, h => by
    rw [List.mapM_cons] at h
    simp only [Option.bind_eq_bind, Option.pure_def, Option.bind_eq_some_iff] at h
    obtain ⟨y, hy, ys', hys, he⟩ := h
    injection he with he
    subst he
    simp [mapM_len hys]

section
variable {H : Type} {enc : TypeId × Value → H} {P : Program} {W W' : World} (hb : ∀ k, k < W.heap.size → W'.heap[k]? = W.heap[k]?)
include hb

theorem cell_keep {a : Addr} {v : Value} (h : W.cell? a = some v) : W'.cell? a = some v := by
  obtain ⟨b, j, q⟩ := a
  have hl : b < W.heap.size := by
    refine Decidable.byContradiction fun hn => ?_
    have : W.heap[b]? = none := by simp; omega
    simp [World.cell?, this] at h
  rw [World.cell?_of_block (w := W) (hb b hl)]
  exact h

theorem cells_keep {base : Nat} {a : Addr} {n : Nat} {l : List Value} (h : W.cells? base a n = some l) : W'.cells? base a n = some l := by
  unfold World.cells? at h ⊢
  split at h
  · rename_i hl
    rw [if_pos hl]
    exact mapM_keep h fun i _ y _ hy => cell_keep hb hy
  · cases h

theorem step_keep {S : List TypeId} (hS : plainTypes P S = true) {base : Nat} {held : Bool} {sp : Nat → Bool} {r r' : TypeId → List Value → Option (DataW H × List MemPlace)}
    (hr : ∀ t ∈ S, ∀ cs x, r t cs = some x → (∀ p ∈ x.2, sp p.block = true) → r' t cs = some x) (t : TypeId) (ht : t ∈ S) (cs : List Value) (x : DataW H × List MemPlace)
    (h : DataW.trodStep enc P W base (fun _ => true) held r t cs = some x) (hp : ∀ p ∈ x.2, sp p.block = true) : DataW.trodStep enc P W' base sp held r' t cs = some x := by
  have ht' := List.all_eq_true.1 hS t ht
  unfold DataW.trodStep at h ⊢
  cases hu : P.underlying t with
  | none => rw [hu] at h; simp at h
  | some d =>
    rw [hu] at h ht'
    cases d with
    | bool => rcases cs with _ | ⟨c, _ | ⟨c2, cs⟩⟩ <;> first | (cases h; done) | (cases c <;> first | exact h | (cases h; done))
    | int k => rcases cs with _ | ⟨c, _ | ⟨c2, cs⟩⟩ <;> first | (cases h; done) | (cases c <;> first | exact h | (cases h; done))
    | float k => rcases cs with _ | ⟨c, _ | ⟨c2, cs⟩⟩ <;> first | (cases h; done) | (cases c <;> first | exact h | (cases h; done))
    | string => rcases cs with _ | ⟨c, _ | ⟨c2, cs⟩⟩ <;> first | (cases h; done) | (cases c <;> first | exact h | (cases h; done))
    | pointer e =>
      have he : e ∈ S := by simpa using ht'
      match cs, h with
      | [.pointer none], h => simpa using h
      | [.pointer (some a)], h =>
        simp only [Option.map_eq_some_iff, Option.bind_eq_some_iff] at h ⊢
        obtain ⟨y, ⟨l, hl, hy⟩, hx⟩ := h
        refine ⟨y, ⟨l, cells_keep hb hl, hr e he l y hy fun p hq => hp p ?_⟩, hx⟩
        rw [← hx]
        exact List.mem_append_right _ hq
    | slice e =>
      have he : e ∈ S ∧ P.cellsOf e ≠ 0 := by simpa using ht'
      match cs, h with
      | [.slice none 0 0], h => simpa using h
      | [.slice (some a) len cap], h =>
        simp only at h ⊢
        split at h
        · rename_i hc
          rw [if_pos hc]
          simp only [if_true, Option.map_eq_some_iff, Option.bind_eq_some_iff] at h ⊢
          obtain ⟨el, hel, rest, hrest, hx⟩ := h
          subst hx
          have hlen : el.length = len := by have := mapM_len hel; simpa using this
          have hlenr : rest.length = cap - len := by have := mapM_len hrest; simpa using this
          have each : ∀ (n : Nat) (y : DataW H × List MemPlace), (y ∈ el ∨ y ∈ rest) → ((W.cells? base (a.add (n * P.cellsOf e)) (P.cellsOf e)).bind (r e)) = some y → ((W'.cells? base (a.add (n * P.cellsOf e)) (P.cellsOf e)).bind (r' e)) = some y := by
            intro n y hy h1
            simp only [Option.bind_eq_some_iff] at h1 ⊢
            obtain ⟨l, hl, hy2⟩ := h1
            refine ⟨l, cells_keep hb hl, hr e he.1 l y hy2 fun p hq => hp p ?_⟩
            refine List.mem_append_right _ (List.mem_flatMap.2 ⟨y, ?_, hq⟩)
            rcases hy with hy | hy
            · exact List.mem_append_left _ hy
            · exact List.mem_append_right _ hy
          refine ⟨el, mapM_keep hel (fun i _ y hy h1 => each i y (.inl hy) h1), rest, ?_, rfl⟩
          by_cases hcap : cap = 0
          · have hl0 : cap - len = 0 := by omega
            have hr0 : rest = [] := List.eq_nil_of_length_eq_zero (by omega)
            subst hr0
            rw [hl0]
            split <;> simp
          · have hsp : sp a.block = true := by
              refine hp (.cell a.block (a.off + 0)) (List.mem_append_left _ ?_)
              unfold MemPlace.row
              refine List.mem_map.2 ⟨0, ?_, rfl⟩
              rw [List.mem_range]
              have h0 := he.2
              exact Nat.mul_pos (by omega) (by omega)
            rw [if_pos hsp]
            exact mapM_keep hrest (fun j _ y hy h1 => each (len + j) y (.inr hy) h1)
        · cases h
    | struct fs =>
      have he : ∀ f ∈ fs.toList, f.type ∈ S := by
        have := List.all_eq_true.1 ht'
        exact fun f hf => by simpa using this f hf
      simp only at h ⊢
      split at h
      · rename_i hc
        rw [if_pos hc]
        simp only [Option.map_eq_some_iff] at h ⊢
        obtain ⟨xs, hxs, hx⟩ := h
        subst hx
        exact ⟨xs, mapM_keep hxs (fun f hf y hy h1 => hr f.type (he f hf) _ y h1 fun p hq => hp p (List.mem_flatMap.2 ⟨y, hy, hq⟩)), rfl⟩
      · cases h
    | array n e =>
      have he : e ∈ S := by simpa using ht'
      simp only at h ⊢
      split at h
      · rename_i hc
        rw [if_pos hc]
        simp only [Option.map_eq_some_iff] at h ⊢
        obtain ⟨xs, hxs, hx⟩ := h
        subst hx
        exact ⟨xs, mapM_keep hxs (fun i hi y hy h1 => hr e he _ y h1 fun p hq => hp p (List.mem_flatMap.2 ⟨y, hy, hq⟩)), rfl⟩
      · cases h
    | _ => simp at ht'

theorem trod_keep {S : List TypeId} (hS : plainTypes P S = true) {base : Nat} {held : Bool} {sp : Nat → Bool} (n : Nat) : ∀ t ∈ S, ∀ cs (x : DataW H × List MemPlace), DataW.trod enc P W base (fun _ => true) held n t cs = some x → (∀ p ∈ x.2, sp p.block = true) → DataW.trod enc P W' base sp held n t cs = some x := by
  induction n with
  | zero => intro t _ cs x h; cases h
  | succ n ih =>
    intro t ht cs x h hp
    rw [DataW.trod_step] at h ⊢
    exact step_keep hb hS ih t ht cs x h hp

theorem trodAll_keep {S : List TypeId} (hS : plainTypes P S = true) {base : Nat} {held : Bool} {sp : Nat → Bool} : ∀ (ts : List TypeId) (vs : List Value) (ds : List (DataW H)) (ps : List MemPlace), (∀ t ∈ ts, t ∈ S) →
    DataW.TrodAll enc P W base (fun _ => true) held ts vs ds ps → (∀ p ∈ ps, sp p.block = true) → DataW.TrodAll enc P W' base sp held ts vs ds ps
  | [], [], [], ps, _, h, _ => h
  | t :: ts, v :: vs, d :: ds, ps, ht, h, hp => by
    obtain ⟨p, q, ⟨fuel, h1⟩, h2, rfl⟩ := h
    exact ⟨p, q, ⟨fuel, trod_keep hb hS fuel t (ht t (by simp)) _ _ h1 fun x hx => hp x (List.mem_append_left _ hx)⟩, trodAll_keep hS ts vs ds q (fun t h => ht t (by simp [h])) h2 fun x hx => hp x (List.mem_append_right _ hx), rfl⟩
  | [], _ :: _, _, _, _, h, _ => h.elim
  | [], [], _ :: _, _, _, h, _ => h.elim
  | _ :: _, [], _, _, _, h, _ => h.elim
  | _ :: _, _ :: _, [], _, _, h, _ => h.elim
end

theorem law_done {H : Type} {enc : TypeId × Value → H} {P : Program} {f : Func} {s : ChangeSpec} {apart fresh handsOn again : Bool} {W W' : World} {args : Array Value} {v : Value} {ds gs : List (DataW H)} {before : List MemPlace} {S : List TypeId}
    (whole : DataW.Whole enc P f.params.toList s.vars apart W args.toList ds gs before) (b : Below W.heap.size W W') (hS : plainTypes P S = true) (hT : ∀ t ∈ f.params.toList, t ∈ S) (hv : s.vars = []) (hargs : (s.fn H (ds ++ gs)).args = ds)
    (res : ∀ (n : Nat) (sp : Nat → Bool) (hd : Bool), DataW.TrodAll enc P W' n sp hd f.resultTypes.toList (v.resultList f.resultTypes.size) (s.fn H (ds ++ gs)).results [])
    (vars : (s.fn H (ds ++ gs)).vars = [])
    (ok : ∀ (j : Nat) (t : TypeId) (r : Value), f.resultTypes[j]? = some t → (v.resultList f.resultTypes.size)[j]? = some r → Value.okWide P W' .any 0 t r) :
    s.post enc P f apart fresh handsOn again W args v W' := by
  have hw := whole
  obtain ⟨p, q, hA, hV, he, _, _⟩ := hw
  rw [hv] at hV
  obtain ⟨rfl, rfl⟩ := trodVars_none hV
  have hbp : before = p := by rw [he, List.append_nil]
  subst hbp
  refine law_post whole b res (pa := before) (fun sp hs => ?_) (fun sp hs => ?_) rfl ok
  · rw [hargs]
    exact trodAll_keep b.block hS _ _ _ _ hT hA hs
  · rw [vars, hv]; rfl

end Go.Proofs.Ytagjmphmdgklkaa
