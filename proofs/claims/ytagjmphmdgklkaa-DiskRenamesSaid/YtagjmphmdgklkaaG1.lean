/- Parts of the proof, one behind the other: Dbase Dmem Dwalka Dmap Drow Dsteps Dclone Dsync Dparts Dadd Dadd2 Dcrash. -/
import Derived.Test.YtagjmphmdgklkaaRows
import Derived.WalkKit
import Derived.WalkSpells
import Derived.WalkLawsBesides
import Derived.Lib.Hide
import Derived.Carry
import Derived.StillTailTactics
import Derived.Deep.RegionLaw
import Derived.BigRegion
import Derived.Shelf.Abstract
import Derived.Maps.OwnOps
import Derived.Maps.OwnSet
import Derived.Laws.Externs
import Derived.Deep.RegionWith
import Derived.LoopTactic
import Derived.Laws.EntriesVeiled
import Derived.Deep.LoopGhost
/- The model of the stand-in disk as plain data, and what it is in memory: definitions and their first laws. -/
namespace Go.Proofs.Ytagjmphmdgklkaa
open Go.RowKit

instance lawfulBytes : LawfulBEq ByteArray where
  rfl := (MapKept.bytes_beq _ _).2 rfl
  eq_of_beq h := (MapKept.bytes_beq _ _).1 h

/-! ### plain data -/
inductive St where
  | link (s : ByteArray) (i : Nat)
  | app (b : List UInt8)
  | cut (n : Nat)
  | ren (a b : ByteArray) (i : Nat)
  | unl (a : ByteArray)

def St.parts : St → Nat
  | .app b => b.length
  | _ => 1

abbrev Ents := List (ByteArray × Nat)
def eget (m : Ents) (s : ByteArray) : Option Nat := (m.find? (fun e => e.1 == s)).map (·.2)
def ehas (m : Ents) (s : ByteArray) : Bool := m.any (fun e => e.1 == s)
def eset (m : Ents) (s : ByteArray) (i : Nat) : Ents := if ehas m s then m.map (fun e => if e.1 == s then (s, i) else e) else m ++ [(s, i)]
def edel (m : Ents) (s : ByteArray) : Ents := m.filter (fun e => !(e.1 == s))

structure Cont where
  bytes : List UInt8
  ents : Ents

def St.act (k : Nat) : St → Cont → Cont
  | .link s i, c => { c with ents := eset c.ents s i }
  | .app b, c => { c with bytes := c.bytes ++ b.take k }
  | .cut n, c => { c with bytes := c.bytes.take n }
  | .ren a b i, c => { c with ents := eset (edel c.ents a) b i }
  | .unl a, c => { c with ents := edel c.ents a }

structure Nd where
  dir : Bool
  safe : Cont
  seen : Cont
  loose : List St

def sumParts (l : List St) : Nat := (l.map St.parts).sum

structure DS where
  nodes : List Nd
  capacity : Int
  ops : Int
  changes : Int
  down : Bool
  done : Bool
  failIs : Bool
  failAfter : Int
  fullIs : Bool
  fullAfter : Int

/-! ### memory -/
/-- outside P the world w' is as w was -/
structure Keeps (w w' : World) (P : Nat → Prop) : Prop where
  os : w'.os = w.os
  tape : w'.tape = w.tape
  output : w'.output = w.output
  size : w.heap.size ≤ w'.heap.size
  block : ∀ k, k < w.heap.size → ¬ P k → w'.heap[k]? = w.heap[k]?

def grow (P : Nat → Prop) (w w' : World) : Nat → Prop := fun k => P k ∨ (w.heap.size ≤ k ∧ k < w'.heap.size)

def Blk (w : World) (b : Nat) (cs : List Value) : Prop := ∃ T, w.heap[b]? = some (.cells cs.toArray T (0, 0))

/-- a row of elements of type e, size cells each: n of them are in use, they are xs -/
def Row (w : World) (e : TypeId) (size : Nat) (v : Value) (n : Nat) (xs : List Value) : Prop :=
  xs.length = n * size ∧ ((v = .slice none 0 0 ∧ n = 0) ∨
   ∃ g cap cur, v = .slice (some ⟨g, 0, none⟩) n cap ∧ w.heap[g]? = some (.cells cur e (0, 0)) ∧ n ≤ cap ∧ cap ≤ maxLen ∧ cap * size ≤ cur.size ∧ cur.toList.take (n * size) = xs)

def bcell (x : UInt8) : Value := .int .u8 (x.toNat : Int)
def bcells (l : List UInt8) : List Value := l.map bcell

/-- the block that a value owns, if any, is in P -/
def BlkIn (v : Value) (P : Nat → Prop) : Prop := ∀ k, v.ownBlock = some k → P k

def MapAt (w : World) (b : Nat) (m : Ents) : Prop :=
  ∃ es clock, w.heap[b]? = some (.map es clock) ∧ es.toList.map (fun e => (e.key, e.val)) = m.map (fun e => (Value.string e.1, Value.int .i64 (e.2 : Int))) ∧
    (es.toList.map (·.born)).Nodup ∧ (∀ e ∈ es.toList, e.born < clock) ∧ (m.map (·.1)).Nodup

theorem Keeps.refl (w : World) (P : Nat → Prop) : Keeps w w P := ⟨rfl, rfl, rfl, Nat.le_refl _, fun _ _ _ => rfl⟩
theorem Keeps.trans {a b c : World} {P Q : Nat → Prop} (h : Keeps a b P) (k : Keeps b c Q) (hQ : ∀ x, x < a.heap.size → Q x → P x) : Keeps a c P :=
  ⟨k.os.trans h.os, k.tape.trans h.tape, k.output.trans h.output, Nat.le_trans h.size k.size,
   fun i hi hp => (k.block i (Nat.lt_of_lt_of_le hi h.size) (fun q => hp (hQ i hi q))).trans (h.block i hi hp)⟩
theorem Keeps.mono {a b : World} {P Q : Nat → Prop} (h : Keeps a b P) (hQ : ∀ x, P x → Q x) : Keeps a b Q :=
  ⟨h.os, h.tape, h.output, h.size, fun i hi hp => h.block i hi (fun q => hp (hQ i q))⟩
theorem Keeps.drew {a b : World} {P : Nat → Prop} (h : Keeps a b P) : Keeps a b.drew P := ⟨h.os, h.tape, h.output, h.size, h.block⟩
theorem Keeps.drewN {a b : World} {P : Nat → Prop} (h : Keeps a b P) (n : Nat) : Keeps a (b.drewN n) P := ⟨h.os, h.tape, h.output, h.size, h.block⟩
theorem Keeps.alloc {a b : World} {P : Nat → Prop} (h : Keeps a b P) (o : Obj) : Keeps a (b.alloc o) P :=
  h.trans (Q := fun _ => False) ⟨rfl, rfl, rfl, by simp, fun k hk _ => Below.heap_alloc _ _ _ hk⟩ (fun _ _ q => q.elim)
theorem Keeps.setCell {a b : World} {P : Nat → Prop} (h : Keeps a b P) {p : Addr} (hp : a.heap.size ≤ p.block ∨ P p.block) (u : Value) : Keeps a (b.setCell p u) P :=
  h.trans (Q := fun k => k = p.block) ⟨rfl, rfl, rfl, by simp [World.setCell], fun k _ hk => Below.heap_setCell _ _ _ _ hk⟩
    (fun x hx q => by rcases hp with hp | hp; · omega
                      · exact q ▸ hp)
theorem Keeps.grownBy {a b c : World} {P : Nat → Prop} {row : Option Nat} (h : Keeps a b P) (hg : b.grownBy c row) (hr : ∀ k, row = some k → a.heap.size ≤ k ∨ P k) : Keeps a c P :=
  h.trans (Q := fun k => row = some k) ⟨hg.os, hg.tape, hg.output, hg.size, fun k hk hn => hg.block k hk (fun e => hn e.symm)⟩
    (fun x hx q => by rcases hr x q with hp | hp; · omega
                      · exact hp)
theorem Keeps.below {a b : World} {P : Nat → Prop} (h : Keeps a b P) (hP : ∀ k, P k → a.heap.size ≤ k) : Below a.heap.size a b :=
  ⟨h.os, h.tape, h.output, h.size, fun k hk => h.block k hk (fun p => by have := hP k p; omega)⟩
theorem Keeps.of_below {a b : World} (h : Below a.heap.size a b) (P : Nat → Prop) : Keeps a b P := ⟨h.os, h.tape, h.output, h.size, fun k hk _ => h.block k hk⟩

theorem Blk.cell {w : World} {b : Nat} {cs : List Value} (h : Blk w b cs) (j : Nat) : w.cell? ⟨b, j, none⟩ = cs[j]? := by
  obtain ⟨T, h⟩ := h
  simp [World.cell?, h]
theorem Blk.frozen {w : World} {b : Nat} {cs : List Value} (h : Blk w b cs) (j : Nat) : w.frozen? ⟨b, j, none⟩ = false := by
  obtain ⟨T, h⟩ := h
  simp [World.frozen?, h]
theorem Blk.lt {w : World} {b : Nat} {cs : List Value} (h : Blk w b cs) : b < w.heap.size := by
  obtain ⟨T, h⟩ := h
  exact (Array.getElem?_eq_some_iff.1 h).1
theorem Blk.of_block {w w' : World} {b : Nat} {cs : List Value} (h : Blk w b cs) (e : w'.heap[b]? = w.heap[b]?) : Blk w' b cs := by
  obtain ⟨T, h⟩ := h
  exact ⟨T, e.trans h⟩
theorem Blk.set {w : World} {b : Nat} {cs : List Value} (h : Blk w b cs) (j : Nat) (u : Value) : Blk (w.setCell ⟨b, j, none⟩ u) b (cs.set j u) := by
  obtain ⟨T, h⟩ := h
  refine ⟨T, ?_⟩
  simp [World.setCell, Array.getElem?_modify, h]
theorem Blk.made (w : World) (cs : Array Value) (T : TypeId) : Blk (w.alloc (.cells cs T)) w.heap.size cs.toList := ⟨T, by
  show (w.heap.push _)[w.heap.size]? = _
  simp⟩
theorem Keeps.blk {w w' : World} {P : Nat → Prop} (h : Keeps w w' P) {b : Nat} {cs : List Value} (hb : Blk w b cs) (hp : ¬ P b) : Blk w' b cs := hb.of_block (h.block b hb.lt hp)

end Go.Proofs.Ytagjmphmdgklkaa

/- The disk in memory. -/
namespace Go.Proofs.Ytagjmphmdgklkaa
open Go.RowKit

def ptr (b : Nat) : Value := .pointer (some ⟨b, 0, none⟩)

def EntsAt (w : World) (dir : Bool) (v : Value) (m : Ents) (Q : Nat → Prop) : Prop :=
  if dir then ∃ b, v = .map (some b) ∧ Q b ∧ MapAt w b m else v = .map none ∧ m = []

/-- a content's bytes (a directory has none) -/
structure BytesAt (w : World) (dir : Bool) (v : Value) (l : List UInt8) (Q : Nat → Prop) : Prop where
  row : Row w 5 1 v l.length (bcells l)
  inQ : BlkIn v Q
  nilD : dir = true → v = .slice none 0 0

/-- the value of a step's function -/
def StepVal (w : World) (v : Value) (st : St) (Q : Nat → Prop) : Prop :=
  match st with
  | .link s i => ∃ b1 b2, v = .func (.func 134) #[] #[ptr b1, ptr b2] ∧ Blk w b1 [.int .i64 (i : Int)] ∧ Blk w b2 [.string s] ∧ Q b1 ∧ Q b2
  | .app bs => ∃ b1 vb, v = .func (.func 89) #[] #[ptr b1] ∧ Blk w b1 [vb] ∧ Row w 5 1 vb bs.length (bcells bs) ∧ Q b1 ∧ BlkIn vb Q ∧ 0 < bs.length
  | .cut n => ∃ b1, v = .func (.func 100) #[] #[ptr b1] ∧ Blk w b1 [.int .i64 (n : Int)] ∧ Q b1
  | .ren a b i => ∃ b1 b2 b3, v = .func (.func 94) #[] #[ptr b1, ptr b2, ptr b3] ∧ Blk w b1 [.string a] ∧ Blk w b2 [.int .i64 (i : Int)] ∧ Blk w b3 [.string b] ∧ Q b1 ∧ Q b2 ∧ Q b3
  | .unl a => ∃ b1, v = .func (.func 102) #[] #[ptr b1] ∧ Blk w b1 [.string a] ∧ Q b1

def looseCells (l : List St) (f : Nat → Value) : List Value := (List.range l.length).flatMap fun j => [.int .i64 ((l.getD j (.cut 0)).parts : Int), f j]

/-- a file's steps are appends and cuts, a directory's are the others -/
def St.fits (dir : Bool) : St → Bool
  | .app _ => !dir
  | .cut _ => !dir
  | _ => dir

def NodeAt (w : World) (b : Nat) (N : Nd) (P : Nat → Prop) : Prop :=
  ∃ (vsb vsm veb vem vl : Value) (f : Nat → Value) (t : Nat → Nat),
    Blk w b [.bool N.dir, vsb, vsm, veb, vem, vl] ∧ t b = 1 ∧
    BytesAt w N.dir vsb N.safe.bytes (fun k => t k = 2) ∧
    EntsAt w N.dir vsm N.safe.ents (fun k => t k = 3) ∧
    BytesAt w N.dir veb N.seen.bytes (fun k => t k = 4) ∧
    EntsAt w N.dir vem N.seen.ents (fun k => t k = 5) ∧
    Row w 135 2 vl N.loose.length (looseCells N.loose f) ∧ BlkIn vl (fun k => t k = 6) ∧
    (∀ j (h : j < N.loose.length), StepVal w (f j) N.loose[j] (fun k => t k = j + 7) ∧ N.loose[j].fits N.dir = true) ∧
    (∀ k, t k ≠ 0 → P k)

/-- what is fixed: the disk's own cells -/
def dcells (vn : Value) (S : DS) : List Value :=
  [vn, .int .i64 S.capacity, .int .i64 S.ops, .int .i64 S.changes, .bool S.down, .bool S.done, .bool S.failIs, .int .i64 S.failAfter, .bool S.fullIs, .int .i64 S.fullAfter]

def ptrs (nb : Nat → Nat) (n : Nat) : List Value := (List.range n).map fun i => ptr (nb i)

def DiskAt (w : World) (p : Nat) (S : DS) (P : Nat → Prop) : Prop :=
  ∃ (vn : Value) (nb : Nat → Nat) (t : Nat → Nat),
    Blk w p (dcells vn S) ∧ t p = 1 ∧
    Row w 98 1 vn S.nodes.length (ptrs nb S.nodes.length) ∧ BlkIn vn (fun k => t k = 2) ∧
    (∀ i (h : i < S.nodes.length), NodeAt w (nb i) S.nodes[i] (fun k => t k = i + 3)) ∧
    (∀ k, t k ≠ 0 → P k) ∧ (∀ k, P k → k < w.heap.size) ∧ S.nodes.length ≤ 4096

theorem Row.nil (w : World) (e : TypeId) (size : Nat) : Row w e size (.slice none 0 0) 0 [] := ⟨by simp, .inl ⟨rfl, rfl⟩⟩
theorem Row.cellAt {w : World} {e : TypeId} {size : Nat} {g : Nat} {n cap : Nat} {xs : List Value} (h : Row w e size (.slice (some ⟨g, 0, none⟩) n cap) n xs) (j : Nat) (hj : j < n * size) : w.cell? ⟨g, j, none⟩ = xs[j]? := by
  obtain ⟨hl, h | ⟨g', cap', cur, hv, hg, hn, hm, hc, ht⟩⟩ := h
  · simp at h
  · simp only [Value.slice.injEq, Option.some.injEq, Addr.mk.injEq, and_true, true_and] at hv
    obtain ⟨rfl, rfl⟩ := hv
    have hsz : n * size ≤ cur.size := Nat.le_trans (Nat.mul_le_mul_right _ hn) hc
    have e1 : xs[j]? = cur[j]? := by
      rw [← ht, List.getElem?_take, if_pos hj]; simp
    simp [World.cell?, hg, e1]

theorem Row.shape {w : World} {e : TypeId} {size : Nat} {v : Value} {n : Nat} {xs : List Value} (h : Row w e size v n xs) :
    (v = .slice none 0 0 ∧ n = 0) ∨ ∃ g cap, v = .slice (some ⟨g, 0, none⟩) n cap ∧ n ≤ cap ∧ cap ≤ maxLen ∧ g < w.heap.size := by
  obtain ⟨hl, h | ⟨g', cap', cur, hv, hg, hn, hm, hc, ht⟩⟩ := h
  · exact .inl h
  · exact .inr ⟨g', cap', hv, hn, hm, (Array.getElem?_eq_some_iff.1 hg).1⟩

theorem Row.isSlice {w : World} {e : TypeId} {size : Nat} {v : Value} {n : Nat} {xs : List Value} (h : Row w e size v n xs) : ∃ a m c, v = .slice a m c := by
  rcases h.shape with ⟨rfl, _⟩ | ⟨g, cap, rfl, _⟩
  · exact ⟨_, _, _, rfl⟩
  · exact ⟨_, _, _, rfl⟩

theorem Row.lt {w : World} {e : TypeId} {size : Nat} {v : Value} {n : Nat} {xs : List Value} (h : Row w e size v n xs) : ∀ k, v.ownBlock = some k → k < w.heap.size := by
  intro k hk
  rcases h.shape with ⟨rfl, _⟩ | ⟨g, cap, rfl, _, _, hg⟩
  · simp [Value.ownBlock] at hk
  · simp [Value.ownBlock] at hk; omega

theorem Row.of_block {w w' : World} {e : TypeId} {size : Nat} {v : Value} {n : Nat} {xs : List Value} (h : Row w e size v n xs) (hb : ∀ k, v.ownBlock = some k → w'.heap[k]? = w.heap[k]?) : Row w' e size v n xs := by
  obtain ⟨hl, h | ⟨g', cap', cur, hv, hg, hn, hm, hc, ht⟩⟩ := h
  · exact ⟨hl, .inl h⟩
  · refine ⟨hl, .inr ⟨g', cap', cur, hv, ?_, hn, hm, hc, ht⟩⟩
    rw [hb g' (by rw [hv]; rfl), hg]

theorem Keeps.row {w w' : World} {P : Nat → Prop} (hk : Keeps w w' P) {e : TypeId} {size : Nat} {v : Value} {n : Nat} {xs : List Value} (h : Row w e size v n xs) (hp : ∀ k, v.ownBlock = some k → ¬ P k) : Row w' e size v n xs :=
  h.of_block fun k hv => hk.block k (h.lt k hv) (hp k hv)

theorem MapAt.lt {w : World} {b : Nat} {m : Ents} (h : MapAt w b m) : b < w.heap.size := by
  obtain ⟨es, clock, hb, _⟩ := h
  exact (Array.getElem?_eq_some_iff.1 hb).1
theorem MapAt.of_block {w w' : World} {b : Nat} {m : Ents} (h : MapAt w b m) (e : w'.heap[b]? = w.heap[b]?) : MapAt w' b m := by
  obtain ⟨es, clock, hb, r⟩ := h
  exact ⟨es, clock, e.trans hb, r⟩

/-- what a value in memory hangs on: it is so in every world that has the same blocks in Q -/
def Same (w w' : World) (Q : Nat → Prop) : Prop := ∀ k, k < w.heap.size → Q k → w'.heap[k]? = w.heap[k]?
theorem Keeps.same {w w' : World} {P Q : Nat → Prop} (h : Keeps w w' P) (hq : ∀ k, Q k → ¬ P k) : Same w w' Q := fun k hk q => h.block k hk (hq k q)

theorem Blk.same {w w' : World} {Q : Nat → Prop} {b : Nat} {cs : List Value} (h : Blk w b cs) (hs : Same w w' Q) (q : Q b) : Blk w' b cs := h.of_block (hs b h.lt q)
theorem Row.same {w w' : World} {Q : Nat → Prop} {e : TypeId} {size : Nat} {v : Value} {n : Nat} {xs : List Value} (h : Row w e size v n xs) (hs : Same w w' Q) (q : BlkIn v Q) : Row w' e size v n xs :=
  h.of_block fun k hv => hs k (h.lt k hv) (q k hv)
theorem EntsAt.same {w w' : World} {Q : Nat → Prop} {dir : Bool} {v : Value} {m : Ents} (h : EntsAt w dir v m Q) (hs : Same w w' Q) : EntsAt w' dir v m Q := by
  unfold EntsAt at *
  split at h <;> rename_i hd
  · rw [if_pos hd]
    obtain ⟨b, h1, h2, h3⟩ := h
    exact ⟨b, h1, h2, h3.of_block (hs b h3.lt h2)⟩
  · rw [if_neg hd]; exact h
theorem EntsAt.mono {w : World} {Q Q' : Nat → Prop} {dir : Bool} {v : Value} {m : Ents} (h : EntsAt w dir v m Q) (hq : ∀ k, Q k → Q' k) : EntsAt w dir v m Q' := by
  unfold EntsAt at *
  split at h <;> rename_i hd
  · rw [if_pos hd]
    obtain ⟨b, h1, h2, h3⟩ := h
    exact ⟨b, h1, hq _ h2, h3⟩
  · rw [if_neg hd]; exact h
theorem StepVal.same {w w' : World} {Q : Nat → Prop} {v : Value} {st : St} (h : StepVal w v st Q) (hs : Same w w' Q) : StepVal w' v st Q := by
  cases st <;> simp only [StepVal] at h ⊢
  · obtain ⟨b1, b2, h1, h2, h3, h4, h5⟩ := h
    exact ⟨b1, b2, h1, h2.same hs h4, h3.same hs h5, h4, h5⟩
  · obtain ⟨b1, vb, h1, h2, h3, h4, h5, h6⟩ := h
    exact ⟨b1, vb, h1, h2.same hs h4, h3.same hs h5, h4, h5, h6⟩
  · obtain ⟨b1, h1, h2, h3⟩ := h
    exact ⟨b1, h1, h2.same hs h3, h3⟩
  · obtain ⟨b1, b2, b3, h1, h2, h3, h4, h5, h6, h7⟩ := h
    exact ⟨b1, b2, b3, h1, h2.same hs h5, h3.same hs h6, h4.same hs h7, h5, h6, h7⟩
  · obtain ⟨b1, h1, h2, h3⟩ := h
    exact ⟨b1, h1, h2.same hs h3, h3⟩
theorem StepVal.mono {w : World} {Q Q' : Nat → Prop} {v : Value} {st : St} (h : StepVal w v st Q) (hq : ∀ k, Q k → Q' k) : StepVal w v st Q' := by
  cases st <;> simp only [StepVal] at h ⊢
  · obtain ⟨b1, b2, h1, h2, h3, h4, h5⟩ := h
    exact ⟨b1, b2, h1, h2, h3, hq _ h4, hq _ h5⟩
  · obtain ⟨b1, vb, h1, h2, h3, h4, h5, h6⟩ := h
    exact ⟨b1, vb, h1, h2, h3, hq _ h4, fun k hk => hq _ (h5 k hk), h6⟩
  · obtain ⟨b1, h1, h2, h3⟩ := h
    exact ⟨b1, h1, h2, hq _ h3⟩
  · obtain ⟨b1, b2, b3, h1, h2, h3, h4, h5, h6, h7⟩ := h
    exact ⟨b1, b2, b3, h1, h2, h3, h4, hq _ h5, hq _ h6, hq _ h7⟩
  · obtain ⟨b1, h1, h2, h3⟩ := h
    exact ⟨b1, h1, h2, hq _ h3⟩

theorem Same.mono {w w' : World} {Q Q' : Nat → Prop} (h : Same w w' Q) (hq : ∀ k, Q' k → Q k) : Same w w' Q' := fun k hk q => h k hk (hq k q)

theorem BytesAt.same {w w' : World} {Q : Nat → Prop} {dir : Bool} {v : Value} {l : List UInt8} (h : BytesAt w dir v l Q) (hs : Same w w' Q) : BytesAt w' dir v l Q := ⟨h.row.same hs h.inQ, h.inQ, h.nilD⟩
theorem BytesAt.mono {w : World} {Q Q' : Nat → Prop} {dir : Bool} {v : Value} {l : List UInt8} (h : BytesAt w dir v l Q) (hq : ∀ k, Q k → Q' k) : BytesAt w dir v l Q' := ⟨h.row, fun k hk => hq k (h.inQ k hk), h.nilD⟩

theorem NodeAt.same {w w' : World} {Q : Nat → Prop} {b : Nat} {N : Nd} (h : NodeAt w b N Q) (hs : Same w w' Q) : NodeAt w' b N Q := by
  obtain ⟨vsb, vsm, veb, vem, vl, f, t, h1, h2, h3, h4, h5, h6, h7, h8, h9, h10⟩ := h
  have s : ∀ n, n ≠ 0 → Same w w' (fun k => t k = n) := fun n hn => hs.mono fun k hk => h10 k (by omega)
  exact ⟨vsb, vsm, veb, vem, vl, f, t, h1.same (s 1 (by omega)) h2, h2, h3.same (s 2 (by omega)), h4.same (s 3 (by omega)), h5.same (s 4 (by omega)), h6.same (s 5 (by omega)),
    h7.same (s 6 (by omega)) h8, h8, fun j hj => ⟨(h9 j hj).1.same (s (j + 7) (by omega)), (h9 j hj).2⟩, h10⟩
theorem NodeAt.mono {w : World} {Q Q' : Nat → Prop} {b : Nat} {N : Nd} (h : NodeAt w b N Q) (hq : ∀ k, Q k → Q' k) : NodeAt w b N Q' := by
  obtain ⟨vsb, vsm, veb, vem, vl, f, t, h1, h2, h3, h4, h5, h6, h7, h8, h9, h10⟩ := h
  exact ⟨vsb, vsm, veb, vem, vl, f, t, h1, h2, h3, h4, h5, h6, h7, h8, h9, fun k hk => hq k (h10 k hk)⟩
theorem NodeAt.inP {w : World} {Q : Nat → Prop} {b : Nat} {N : Nd} (h : NodeAt w b N Q) : Q b := by
  obtain ⟨vsb, vsm, veb, vem, vl, f, t, h1, h2, h3, h4, h5, h6, h7, h8, h9, h10⟩ := h
  exact h10 b (by omega)
theorem NodeAt.lt {w : World} {Q : Nat → Prop} {b : Nat} {N : Nd} (h : NodeAt w b N Q) : b < w.heap.size := by
  obtain ⟨vsb, vsm, veb, vem, vl, f, t, h1, h2, h3, h4, h5, h6, h7, h8, h9, h10⟩ := h
  exact h1.lt

end Go.Proofs.Ytagjmphmdgklkaa

/- Walks: the small readers of the disk. -/
namespace Go.Proofs.Ytagjmphmdgklkaa
open Go.RowKit

theorem dcell {w : World} {p : Nat} {vn : Value} {S : DS} (h : Blk w p (dcells vn S)) :
    w.cell? ⟨p, 0, none⟩ = some vn ∧ w.cell? ⟨p, 1, none⟩ = some (.int .i64 S.capacity) ∧ w.cell? ⟨p, 2, none⟩ = some (.int .i64 S.ops) ∧ w.cell? ⟨p, 3, none⟩ = some (.int .i64 S.changes) ∧
    w.cell? ⟨p, 4, none⟩ = some (.bool S.down) ∧ w.cell? ⟨p, 5, none⟩ = some (.bool S.done) ∧ w.cell? ⟨p, 6, none⟩ = some (.bool S.failIs) ∧ w.cell? ⟨p, 7, none⟩ = some (.int .i64 S.failAfter) ∧
    w.cell? ⟨p, 8, none⟩ = some (.bool S.fullIs) ∧ w.cell? ⟨p, 9, none⟩ = some (.int .i64 S.fullAfter) := by
  refine ⟨?_, ?_, ?_, ?_, ?_, ?_, ?_, ?_, ?_, ?_⟩ <;> exact h.cell _

set_option maxHeartbeats 400000 in
theorem up_nil (w : World) : Calls Try.prog 103 #[.pointer none] w fun e w' => e = .returned (.int .i64 1) ∧ w = w' := by
  go_enter Try.func103, Try.ntmps103
  go_wp2
  go_ret
  exact ⟨rfl, rfl⟩

def upErr (S : DS) : Int := if S.down then 12 else 0

set_option maxHeartbeats 400000 in
theorem up_any {w : World} {p : Nat} {S : DS} {P : Nat → Prop} (hd : DiskAt w p S P) : Calls Try.prog 103 #[ptr p] w fun e w' => e = .returned (.int .i64 (upErr S)) ∧ w = w' := by
  obtain ⟨vn, nb, t, h1, h2, h3, h4, h5, h6, h7⟩ := hd
  obtain ⟨c0, c1, c2, c3, c4, c5, c6, c7, c8, c9⟩ := dcell h1
  clear h2 h3 h4 h5 h6 h7 h1 c0 c1 c2 c3 c5 c6 c7 c8 c9
  unfold ptr upErr
  cases hx : S.down <;> rw [hx] at c4
  all_goals
    clear hx
    go_enter Try.func103, Try.ntmps103
    go_wp2
    go_ret
    exact ⟨rfl, rfl⟩

/-- the disk's own two blocks -/
structure DBase (w : World) (p : Nat) (S : DS) (vn : Value) (nb : Nat → Nat) : Prop where
  blk : Blk w p (dcells vn S)
  row : Row w 98 1 vn S.nodes.length (ptrs nb S.nodes.length)
  len : S.nodes.length ≤ 4096

def anyErr (S : DS) (i : Int) : Int := if S.down then 12 else if 1 ≤ i ∧ i ≤ S.nodes.length then 0 else 8
def anyPtr (S : DS) (nb : Nat → Nat) (i : Int) : Value := if anyErr S i = 0 then ptr (nb (i - 1).toNat) else .pointer none

theorem up_base {w : World} {p : Nat} {S : DS} {vn : Value} {nb : Nat → Nat} (hd : DBase w p S vn nb) : Calls Try.prog 103 #[ptr p] w fun e w' => e = .returned (.int .i64 (upErr S)) ∧ w = w' := by
  obtain ⟨c0, c1, c2, c3, c4, c5, c6, c7, c8, c9⟩ := dcell hd.blk
  clear hd c0 c1 c2 c3 c5 c6 c7 c8 c9
  unfold ptr upErr
  cases hx : S.down <;> rw [hx] at c4
  all_goals
    clear hx
    go_enter Try.func103, Try.ntmps103
    go_wp2
    go_ret
    exact ⟨rfl, rfl⟩

set_option maxHeartbeats 400000 in
theorem any_nil (i : Int) (w : World) : Calls Try.prog 90 #[.pointer none, .int .i64 i] w fun e w' => e = .returned (.tuple #[.pointer none, .int .i64 1]) ∧ w = w' := by
  go_enter Try.func90, Try.ntmps90
  go_wp2_with (go_at_call 103; refine (up_nil _).mono ?_; rintro e w' ⟨rfl, rfl⟩)
  go_ret2
  exact ⟨rfl, rfl⟩

theorem any_down {S : DS} {nb : Nat → Nat} {i : Int} (h : S.down = true) : anyErr S i = 12 ∧ anyPtr S nb i = .pointer none := by simp [anyErr, anyPtr, h]
theorem any_out {S : DS} {nb : Nat → Nat} {i : Int} (h : S.down = false) (h2 : ¬ (1 ≤ i ∧ i ≤ S.nodes.length)) : anyErr S i = 8 ∧ anyPtr S nb i = .pointer none := by
  have e : anyErr S i = 8 := by unfold anyErr; rw [if_neg (by simp [h]), if_neg h2]
  exact ⟨e, by simp [anyPtr, e]⟩
theorem any_ok {S : DS} {nb : Nat → Nat} {k : Nat} (h : S.down = false) (h2 : k < S.nodes.length) : anyErr S ((k : Int) + 1) = 0 ∧ anyPtr S nb ((k : Int) + 1) = ptr (nb k) := by
  have e : anyErr S ((k : Int) + 1) = 0 := by unfold anyErr; rw [if_neg (by simp [h]), if_pos (by omega)]
  have e3 : ((k : Int) + 1 - 1).toNat = k := by omega
  exact ⟨e, by simp [anyPtr, e]⟩
theorem ptrs_at {nb : Nat → Nat} {n k : Nat} (h : k < n) : (ptrs nb n)[k]? = some (ptr (nb k)) := by simp [ptrs, h]
theorem upErr_eq {S : DS} {b : Bool} (h : S.down = b) : upErr S = if b then 12 else 0 := by simp [upErr, h]

set_option maxHeartbeats 400000 in
theorem any_base {w : World} {p : Nat} {S : DS} {vn : Value} {nb : Nat → Nat} (hd : DBase w p S vn nb) (i : Int) :
    Calls Try.prog 90 #[ptr p, .int .i64 i] w fun e w' => e = .returned (.tuple #[anyPtr S nb i, .int .i64 (anyErr S i)]) ∧ w = w' := by
  obtain ⟨c0, c1, c2, c3, c4, c5, c6, c7, c8, c9⟩ := dcell hd.blk
  have hu := up_base hd
  have hl := hd.len
  have hr := hd.row
  clear hd c1 c2 c3 c4 c5 c6 c7 c8 c9
  cases hx : S.down with
  | true =>
    rw [upErr_eq hx, if_pos rfl] at hu
    rw [(any_down (nb := nb) hx).1, (any_down hx).2]
    unfold ptr at hu ⊢
    have HU := Lib.hid hu
    clear hu hx c0 hr hl
    go_enter Try.func90, Try.ntmps90
    go_wp2_with (go_at_call 103; refine (HU.out).mono ?_; rintro e w' ⟨rfl, rfl⟩)
    go_ret2
    exact ⟨rfl, rfl⟩
  | false =>
    rw [upErr_eq hx, if_neg (by simp)] at hu
    by_cases h0 : 1 ≤ i ∧ i ≤ S.nodes.length
    · obtain ⟨k, rfl⟩ : ∃ k : Nat, i = (k : Int) + 1 := ⟨(i - 1).toNat, by omega⟩
      have hk : k < S.nodes.length := by omega
      rw [(any_ok (nb := nb) hx hk).1, (any_ok hx hk).2]
      rcases hr.shape with ⟨rfl, hn⟩ | ⟨g, cap, rfl, hn, hm, hg⟩
      · omega
      have hc := hr.cellAt k (by omega)
      rw [ptrs_at hk] at hc
      unfold ptr at hu hc ⊢
      have HU := Lib.hid hu
      clear hu hx hr h0
      go_enter Try.func90, Try.ntmps90
      go_wp2_with (go_at_call 103; refine (HU.out).mono ?_; rintro e w' ⟨rfl, rfl⟩)
      go_ret2
      exact ⟨rfl, rfl⟩
    · rw [(any_out (nb := nb) hx h0).1, (any_out hx h0).2]
      unfold ptr at hu ⊢
      have HU := Lib.hid hu
      clear hu hx
      rcases hr.shape with ⟨rfl, hn⟩ | ⟨g, cap, rfl, hn, hm, hg⟩
      · clear hr
        have h0' : i < 1 ∨ 0 < i := by omega
        rcases h0' with h1 | h1
        all_goals
          clear h0
          go_enter Try.func90, Try.ntmps90
          go_wp2_with (go_at_call 103; refine (HU.out).mono ?_; rintro e w' ⟨rfl, rfl⟩)
          go_ret2
          exact ⟨rfl, rfl⟩
      · clear hr
        have h0' : i < 1 ∨ (S.nodes.length : Int) < i := by omega
        rcases h0' with h1 | h1
        all_goals
          clear h0
          go_enter Try.func90, Try.ntmps90
          go_wp2_with (go_at_call 103; refine (HU.out).mono ?_; rintro e w' ⟨rfl, rfl⟩)
          go_ret2
          exact ⟨rfl, rfl⟩

end Go.Proofs.Ytagjmphmdgklkaa

/- Maps from names to numbers: what the operations on them do. -/
namespace Go.Proofs.Ytagjmphmdgklkaa
open Go.RowKit

section
variable {P : Program} {K E T : TypeId}

theorem run_check_str (hK : P.underlying K = some .string) (c : Bool) (s : ByteArray) (w : World) : (Instr.checkKey c 10000 K (.string s)).run P w = .ok () w := by
  show (Instr.checkKey c (9999 + 1) K (.string s)).run P w = _
  rw [Instr.checkKey]
  simp [run_underlying hK, Result.andThen]

/-- where a name stands, and its number -/
def fpos (s : ByteArray) : Ents → Nat → Option (Nat × Nat)
  | [], _ => none
  | e :: r, i => if e.1 == s then some (i, e.2) else fpos s r (i + 1)

def encE (e : ByteArray × Nat) : Value × Value := (Value.string e.1, Value.int .i64 (e.2 : Int))

theorem findNow_str (s : ByteArray) : ∀ (l : List MapEntry) (m : Ents) (i : Nat), l.map (fun e => (e.key, e.val)) = m.map encE →
    Instr.findNow .string (.string s) l i = some ((fpos s m i).map fun x => (x.1, Value.int .i64 (x.2 : Int)))
  | [], m, i, h => by
    cases m with
    | nil => rfl
    | cons => simp at h
  | e :: l, m, i, h => by
    cases m with
    | nil => simp at h
    | cons x m =>
      simp only [List.map_cons, List.cons.injEq, encE, Prod.mk.injEq] at h
      obtain ⟨⟨hk, hv⟩, hr⟩ := h
      have ih := findNow_str s l m (i + 1) hr
      have e1 : (s == x.1) = (x.1 == s) := by rw [Bool.eq_iff_iff, beq_iff_eq, beq_iff_eq]; exact ⟨Eq.symm, Eq.symm⟩
      unfold Instr.findNow
      rw [hk]
      simp only [Instr.sameNow, e1]
      cases hx : (x.1 == s) with
      | true => simp [fpos, hx, hv]
      | false => simp [fpos, hx, ih]

theorem run_find_str (hK : P.underlying K = some .string) (s : ByteArray) (l : List MapEntry) (m : Ents) (h : l.map (fun e => (e.key, e.val)) = m.map encE) (w : World) :
    (Instr.findKey K (.string s) l).run P w = .ok ((fpos s m 0).map fun x => (x.1, Value.int .i64 (x.2 : Int))) w := by
  have hn := findNow_str s l m 0 h
  unfold Instr.findKey
  simp only [Sem.run_bind, run_underlying hK, Result.andThen]
  rw [hn]
  rfl

theorem fpos_eget (s : ByteArray) : ∀ (m : Ents) (i : Nat), (fpos s m i).map (·.2) = eget m s
  | [], i => rfl
  | e :: r, i => by
    simp only [fpos, eget, List.find?]
    cases hx : (e.1 == s) with
    | true => simp
    | false => simpa [eget] using fpos_eget s r (i + 1)

theorem fpos_some {s : ByteArray} : ∀ {m : Ents} {i j n : Nat}, fpos s m i = some (j, n) → i ≤ j ∧ m[j - i]? = some (s, n) ∧ ∀ k, k < j - i → ∀ e, m[k]? = some e → e.1 ≠ s
  | [], i, j, n, h => by simp [fpos] at h
  | e :: r, i, j, n, h => by
    simp only [fpos] at h
    cases hx : (e.1 == s) with
    | true =>
      simp only [hx, if_true, Option.some.injEq, Prod.mk.injEq] at h
      obtain ⟨rfl, rfl⟩ := h
      refine ⟨Nat.le_refl _, ?_, fun k hk => by omega⟩
      have : e.1 = s := by simpa using hx
      simp [← this]
    | false =>
      simp only [hx, Bool.false_eq_true, if_false] at h
      obtain ⟨h1, h2, h3⟩ := fpos_some h
      have e1 : j - i = (j - (i + 1)) + 1 := by omega
      refine ⟨by omega, by rw [e1]; simpa using h2, fun k hk e' he' => ?_⟩
      cases k with
      | zero =>
        simp at he'
        subst he'
        simpa using hx
      | succ k => exact h3 k (by omega) e' (by simpa using he')

theorem fpos_none {s : ByteArray} : ∀ {m : Ents} {i : Nat}, fpos s m i = none → ∀ e ∈ m, e.1 ≠ s
  | [], i, h => by simp
  | e :: r, i, h => by
    simp only [fpos] at h
    cases hx : (e.1 == s) with
    | true => simp [hx] at h
    | false =>
      simp only [hx, Bool.false_eq_true, if_false] at h
      intro e' he'
      rcases List.mem_cons.1 he' with rfl | h'
      · simpa using hx
      · exact fpos_none h e' h'

theorem ehas_of_none {s : ByteArray} {m : Ents} (h : ∀ e ∈ m, e.1 ≠ s) : ehas m s = false := by
  unfold ehas
  rw [List.any_eq_false]
  intro e he
  simpa using h e he
theorem ehas_eget (m : Ents) (s : ByteArray) : ehas m s = (eget m s).isSome := by
  simp only [ehas, eget, Option.isSome_map]
  rw [Bool.eq_iff_iff, List.find?_isSome]
  simp
theorem edel_none {s : ByteArray} {m : Ents} (h : ∀ e ∈ m, e.1 ≠ s) : edel m s = m := by
  unfold edel
  rw [List.filter_eq_self]
  intro e he
  simpa using h e he

theorem fpos_split {s : ByteArray} {m : Ents} {j n : Nat} (h : fpos s m 0 = some (j, n)) (hn : (m.map (·.1)).Nodup) : ∃ a b, m = a ++ (s, n) :: b ∧ a.length = j ∧ (∀ e ∈ a, e.1 ≠ s) ∧ (∀ e ∈ b, e.1 ≠ s) := by
  obtain ⟨_, h2, h3⟩ := fpos_some h
  simp only [Nat.sub_zero] at h2 h3
  have hlt : j < m.length := (List.getElem?_eq_some_iff.1 h2).1
  have he : m[j] = (s, n) := (List.getElem?_eq_some_iff.1 h2).2
  have hm : m = m.take j ++ m[j] :: m.drop (j + 1) := by
    rw [List.getElem_cons_drop, List.take_append_drop]
  refine ⟨m.take j, m.drop (j + 1), by rw [← he]; exact hm, by simp; omega, ?_, ?_⟩
  · intro e hmem
    obtain ⟨k, hk, rfl⟩ := List.mem_iff_getElem.1 hmem
    simp only [List.length_take] at hk
    exact h3 k (by omega) _ (by simp [List.getElem?_eq_getElem (show k < m.length by omega)])
  · intro e hmem heq
    rw [hm, he] at hn
    simp only [List.map_append, List.map_cons] at hn
    have := (List.nodup_append.1 hn).2.1
    rw [List.nodup_cons] at this
    exact this.1 (List.mem_map.2 ⟨e, hmem, heq⟩)

theorem run_lookup_map (hT : P.underlying T = some (.map K E)) (hK : P.underlying K = some .string) {w : World} (hz : (zeroValue E).run P w = .ok (.int .i64 0) w) {b : Nat} {m : Ents} (h : MapAt w b m) (s : ByteArray) :
    (Instr.lookup T (.map (some b)) (.string s) true).run P w = .ok (.tuple #[.int .i64 (((eget m s).getD 0 : Nat) : Int), .bool (ehas m s)]) w := by
  obtain ⟨es, clock, hb, he, _⟩ := h
  have hf := run_find_str (P := P) hK s es.toList m he w
  have hg := fpos_eget s m 0
  cases hx : fpos s m 0 with
  | none =>
    rw [hx] at hg hf
    simp only [Option.map_none] at hg hf
    rw [ehas_eget, ← hg]
    simp [Instr.lookup, run_underlying hT, MapKept.run_getObj_map hb, run_check_str hK, hf, hz, Result.andThen]
  | some x =>
    rw [hx] at hg hf
    simp only [Option.map_some] at hg hf
    rw [ehas_eget, ← hg]
    simp [Instr.lookup, run_underlying hT, MapKept.run_getObj_map hb, run_check_str hK, hf, Result.andThen]

/-- the world with another map in a block -/
def World.mapSet (w : World) (b : Nat) (o : Obj) : World := { w with heap := w.heap.setIfInBounds b o }

theorem mapSet_heap {w : World} {b : Nat} (hb : b < w.heap.size) (o : Obj) : (World.mapSet w b o).heap[b]? = some o := by
  simp [World.mapSet, hb]
theorem mapSet_other {w : World} {b k : Nat} (h : k ≠ b) (o : Obj) : (World.mapSet w b o).heap[k]? = w.heap[k]? := by
  simp [World.mapSet, Array.getElem?_setIfInBounds, Ne.symm h]
theorem mapSet_size {w : World} {b : Nat} (o : Obj) : (World.mapSet w b o).heap.size = w.heap.size := by simp [World.mapSet]

theorem keyStays (s : ByteArray) (w : World) : (Instr.keyThatStays (.string s) (.string s)).run P w = .ok (.string s) w := by
  unfold Instr.keyThatStays
  have : Instr.sameBits 10000 (.string s) (.string s) = true := by
    show Instr.sameBits (9999 + 1) _ _ = true
    simp [Instr.sameBits]
  simp [this]

theorem run_update_map (hT : P.underlying T = some (.map K E)) (hK : P.underlying K = some .string) {w : World} {b : Nat} {m : Ents} (h : MapAt w b m) (s : ByteArray) (i : Nat) :
    ∃ o, (Instr.mapUpdate T (.map (some b)) (.string s) (.int .i64 (i : Int))).run P w = .ok () (World.mapSet w b o) ∧ MapAt (World.mapSet w b o) b (eset m s i) := by
  have hlt := h.lt
  obtain ⟨es, clock, hb, he, hnd, hborn, hkeys⟩ := h
  have hf := run_find_str (P := P) hK s es.toList m he w
  have hsz : es.size = m.length := by have := congrArg List.length he; simpa using this
  cases hx : fpos s m 0 with
  | none =>
    rw [hx] at hf
    simp only [Option.map_none] at hf
    have hno := fpos_none hx
    refine ⟨.map (es.push { key := .string s, val := .int .i64 (i : Int), born := clock }) (clock + 1), ?_, ?_⟩
    · simp [Instr.mapUpdate, run_underlying hT, MapKept.run_getObj_map hb, run_check_str hK, hf, MapKept.run_setObj_map _ hb, Result.andThen, World.mapSet]
    · refine ⟨_, _, mapSet_heap hlt _, ?_, ?_, ?_, ?_⟩
      · simp only [eset, ehas_of_none hno, Bool.false_eq_true, if_false, Array.toList_push, List.map_append, he, List.map_cons, List.map_nil]
      · simp only [Array.toList_push, List.map_append, List.map_cons, List.map_nil]
        rw [List.nodup_append]
        refine ⟨hnd, by simp, ?_⟩
        intro x hx1 y hy
        simp at hy
        subst hy
        obtain ⟨e, he1, rfl⟩ := List.mem_map.1 hx1
        have := hborn e he1
        omega
      · intro e he1
        simp only [Array.toList_push, List.mem_append, List.mem_singleton] at he1
        rcases he1 with he1 | rfl
        · have := hborn e he1; omega
        · simp
      · simp only [eset, ehas_of_none hno, Bool.false_eq_true, if_false, List.map_append, List.map_cons, List.map_nil]
        rw [List.nodup_append]
        refine ⟨hkeys, by simp, ?_⟩
        intro x hx1 y hy
        simp at hy
        subst hy
        obtain ⟨e, he1, rfl⟩ := List.mem_map.1 hx1
        exact hno e he1
  | some x =>
    obtain ⟨j, n⟩ := x
    rw [hx] at hf
    simp only [Option.map_some] at hf
    obtain ⟨a, c, hmeq, haj, hna, hnc⟩ : ∃ a b, m = a ++ (s, n) :: b ∧ a.length = j ∧ (∀ e ∈ a, e.1 ≠ s) ∧ (∀ e ∈ b, e.1 ≠ s) := fpos_split hx hkeys
    have hjm : j < m.length := by rw [hmeq]; simp; omega
    have hje : j < es.size := by omega
    have hkj : es[j].key = .string s := by
      have h1 : (es.toList.map (fun e => (e.key, e.val)))[j]? = (m.map encE)[j]? := by rw [he]; rfl
      rw [hmeq] at h1
      have h2 : (a ++ (s, n) :: c)[j]? = some (s, n) := by rw [← haj]; simp
      have h3 : es.toList[j]? = some es[j] := by simp [hje]
      rw [List.getElem?_map, List.getElem?_map, h2, h3] at h1
      simp only [Option.map_some, Option.some.injEq, encE, Prod.mk.injEq] at h1
      exact h1.1
    have hset : eset m s i = a ++ (s, i) :: c := by
      have hh : ehas m s = true := by unfold ehas; rw [hmeq]; simp
      unfold eset
      rw [if_pos hh, hmeq]
      simp only [List.map_append, List.map_cons, beq_self_eq_true, if_true]
      congr 1
      · rw [List.map_congr_left (g := id)]
        · simp
        · intro e he1; simp [hna e he1]
      · congr 1
        rw [List.map_congr_left (g := id)]
        · simp
        · intro e he1; simp [hnc e he1]
    refine ⟨.map (es.modify j fun e => { e with key := .string s, val := .int .i64 (i : Int) }) clock, ?_, ?_⟩
    · simp [Instr.mapUpdate, run_underlying hT, MapKept.run_getObj_map hb, run_check_str hK, hf, MapKept.run_setObj_map _ hb, Result.andThen, World.mapSet, hje, hkj, keyStays]
    · have hmod : (es.modify j fun e => { e with key := .string s, val := .int .i64 (i : Int) }).toList = es.toList.modify j (fun e => { e with key := .string s, val := .int .i64 (i : Int) }) := by simp
      refine ⟨_, _, mapSet_heap hlt _, ?_, ?_, ?_, ?_⟩
      · rw [hset, hmod]
        apply List.ext_getElem?
        intro q
        have h1 : (es.toList.map (fun e => (e.key, e.val)))[q]? = (m.map encE)[q]? := by rw [he]; rfl
        simp only [List.getElem?_map, List.getElem?_modify] at h1 ⊢
        by_cases hq : j = q
        · subst hq
          have h3 : es.toList[j]? = some es[j] := by simp [hje]
          have h4 : (a ++ (s, i) :: c)[j]? = some (s, i) := by rw [← haj]; simp
          rw [h3, h4]
          simp
        · simp only [if_neg hq]
          have e2 : (a ++ (s, i) :: c)[q]? = m[q]? := by
            rw [hmeq]
            simp only [List.getElem?_append]
            split
            · rfl
            · rename_i h5
              have h6 : q - a.length ≠ 0 := by omega
              obtain ⟨r, hr⟩ : ∃ r, q - a.length = r + 1 := ⟨q - a.length - 1, by omega⟩
              rw [hr]; simp
          rw [e2]
          have h5 : (fun e : ByteArray × Nat => (Value.string e.1, Value.int .i64 (e.2 : Int))) = encE := rfl
          rw [h5]
          simpa using h1
      · rw [hmod]
        have : (es.toList.modify j (fun e => { e with key := .string s, val := .int .i64 (i : Int) })).map (·.born) = es.toList.map (·.born) := by
          apply List.ext_getElem?
          intro q
          simp only [List.getElem?_map, List.getElem?_modify]
          split <;> cases es.toList[q]? <;> simp
        rw [this]; exact hnd
      · intro e he1
        rw [hmod] at he1
        obtain ⟨q, hq, rfl⟩ := List.mem_iff_getElem.1 he1
        rw [List.getElem_modify]
        simp at hq
        have hb0 := hborn es[q] (by simp)
        split
        · exact hb0
        · exact hb0
      · rw [hset]
        rw [hmeq] at hkeys
        simpa using hkeys

theorem map_eraseIdx_of {α β : Type} (g : α → β) : ∀ (l : List α) (j : Nat), (l.eraseIdx j).map g = (l.map g).eraseIdx j
  | [], _ => rfl
  | _ :: _, 0 => rfl
  | _ :: l, j + 1 => by simp [map_eraseIdx_of g l j]
theorem map_eraseIdx_enc (l : List MapEntry) (m : Ents) (h : l.map (fun e => (e.key, e.val)) = m.map encE) (j : Nat) : (l.eraseIdx j).map (fun e => (e.key, e.val)) = (m.eraseIdx j).map encE := by
  rw [map_eraseIdx_of, map_eraseIdx_of, h]

theorem run_delete_map (hT : P.underlying T = some (.map K E)) (hK : P.underlying K = some .string) {w : World} {b : Nat} {m : Ents} (h : MapAt w b m) (s : ByteArray) (T' ty : TypeId) :
    ∃ o, (Builtin.delete_ #[T, T'] ty #[.map (some b), .string s]).run P w = .ok (.tuple #[]) (World.mapSet w b o) ∧ MapAt (World.mapSet w b o) b (edel m s) := by
  have hlt := h.lt
  obtain ⟨es, clock, hb, he, hnd, hborn, hkeys⟩ := h
  have hf := run_find_str (P := P) hK s es.toList m he w
  have hsz : es.size = m.length := by have := congrArg List.length he; simpa using this
  cases hx : fpos s m 0 with
  | none =>
    rw [hx] at hf
    simp only [Option.map_none] at hf
    have hno := fpos_none hx
    refine ⟨.map es clock, ?_, ?_⟩
    · simp [Builtin.delete_, run_underlying hT, MapKept.run_getObj_map hb, run_check_str hK, hf, MapKept.run_setObj_map _ hb, Result.andThen, World.mapSet]
    · rw [edel_none hno]
      exact ⟨_, _, mapSet_heap hlt _, he, hnd, hborn, hkeys⟩
  | some x =>
    obtain ⟨j, n⟩ := x
    rw [hx] at hf
    simp only [Option.map_some] at hf
    obtain ⟨a, c, hmeq, haj, hna, hnc⟩ : ∃ a b, m = a ++ (s, n) :: b ∧ a.length = j ∧ (∀ e ∈ a, e.1 ≠ s) ∧ (∀ e ∈ b, e.1 ≠ s) := fpos_split hx hkeys
    have hjm : j < m.length := by rw [hmeq]; simp; omega
    have hje : j < es.size := by omega
    have hdel : edel m s = m.eraseIdx j := by
      have e1 : edel m s = a ++ c := by
        unfold edel
        rw [hmeq, List.filter_append, List.filter_cons]
        simp only [beq_self_eq_true, Bool.not_true, Bool.false_eq_true, if_false]
        congr 1
        · rw [List.filter_eq_self]; intro e he1; simpa using hna e he1
        · rw [List.filter_eq_self]; intro e he1; simpa using hnc e he1
      rw [e1, hmeq, ← haj, List.eraseIdx_append_of_length_le (by omega)]
      simp
    refine ⟨.map (es.eraseIdxIfInBounds j) clock, ?_, ?_⟩
    · simp [Builtin.delete_, run_underlying hT, MapKept.run_getObj_map hb, run_check_str hK, hf, MapKept.run_setObj_map _ hb, Result.andThen, World.mapSet]
    · have hto : (es.eraseIdxIfInBounds j).toList = es.toList.eraseIdx j := by simp
      have hsub : (es.toList.eraseIdx j).Sublist es.toList := List.eraseIdx_sublist _ _
      have hsub2 : (m.eraseIdx j).Sublist m := List.eraseIdx_sublist _ _
      refine ⟨_, _, mapSet_heap hlt _, ?_, ?_, ?_, ?_⟩
      · rw [hto, hdel]; exact map_eraseIdx_enc _ _ he j
      · rw [hto]; exact hnd.sublist (hsub.map _)
      · rw [hto]; intro e he1; exact hborn e (hsub.subset he1)
      · rw [hdel]; exact hkeys.sublist (hsub2.map _)

end
end Go.Proofs.Ytagjmphmdgklkaa

/- Rows: append to a row whose block may be longer than its capacity. -/
namespace Go.Proofs.Ytagjmphmdgklkaa
open Go.RowKit

theorem Row.cells {w : World} {e : TypeId} {size : Nat} {v : Value} {n : Nat} {xs : List Value} (h : Row w e size v n xs) {g : Nat} (hg : v.ownBlock = some g) : ∀ j u, xs[j]? = some u → w.cell? ((⟨g, 0, none⟩ : Addr).add j) = some u := by
  intro j u hu
  have hl := h.1
  rcases h.shape with ⟨rfl, _⟩ | ⟨g', cap, rfl, _, _, _⟩
  · simp [Value.ownBlock] at hg
  · simp [Value.ownBlock] at hg
    subst hg
    have hj : j < n * size := by rw [← hl]; exact (List.getElem?_eq_some_iff.1 hu).1
    have := h.cellAt j hj
    rw [Addr.add_lit]
    simpa [hu] using this

section
variable {P : Program} (w : World)
theorem run_append_row (t ty e : TypeId) (i : TypeInfo) (z : Value) (size bytes : Nat) (ht : P.underlying t = some (.slice e)) (hi : P.info? e = some i) (hz : i.zero = some z)
    (hsize : i.size = size) (hby : i.bytes = bytes) (hzs : z.cells.size = size)
    (v : Value) (n : Nat) (xs : List Value) (hown : Row w e size v n xs)
    (a : Addr) (m c : Nat) (news : List Value) (hl : news.length = m * size) (hnews : ∀ j u, news[j]? = some u → w.cell? (a.add j) = some u) (h1 : ∀ u ∈ news, u.oneCell' = true)
    (h63 : n + m ≤ maxLen) (hbytes : (n + m) * bytes ≤ 140737488355328) (hm0 : 0 < m ∨ v ≠ .slice none 0 0) :
    ∃ v' w', (Builtin.append_ #[t, t] ty #[v, .slice (some a) m c]).run P w = .ok v' w' ∧ Row w' e size v' (n + m) (xs ++ news) ∧ w.grownBy w' v.ownBlock ∧
      (∀ k, v'.ownBlock = some k → v.ownBlock = some k ∨ (w.heap.size ≤ k ∧ k < w'.heap.size)) := by
  subst hsize
  subst hby
  have hsmall : n + m ≤ 9223372036854775807 := by simp only [maxLen] at h63; omega
  have hlen : (xs ++ news).length = (n + m) * i.size := by rw [List.length_append, hown.1, hl, Nat.add_mul]
  have grown : ∀ (old : Nat), old < n + m → ∀ (row : Option Nat),
      Row (w.drew.alloc (.cells (xs.toArray ++ news.toArray ++ Builtin.zeroCells z.cells (grownCap w (n + m) old e - (n + m))) e)) e i.size
        (.slice (some ⟨w.heap.size, 0, none⟩) (n + m) (grownCap w (n + m) old e)) (n + m) (xs ++ news) ∧
      w.grownBy (w.drew.alloc (.cells (xs.toArray ++ news.toArray ++ Builtin.zeroCells z.cells (grownCap w (n + m) old e - (n + m))) e)) row := by
    intro old ho row
    have hge := grownCap_ge w (n + m) old e
    have hcm : grownCap w (n + m) old e ≤ maxLen := grownCap_le_maxLen w (n + m) old e h63
    refine ⟨⟨hlen, .inr ⟨w.heap.size, _, _, rfl, heap_alloc_new w.drew _, hge, hcm, ?_, ?_⟩⟩, ⟨rfl, rfl, rfl, by simp, fun k hk _ => Below.heap_alloc w.drew _ k hk⟩⟩
    · simp only [Array.size_append, List.size_toArray, size_zeroCells, hzs, hown.1, hl, ← Nat.add_mul]
      apply Nat.mul_le_mul_right
      omega
    · simp only [Array.toList_append, List.append_assoc]
      rw [← List.append_assoc, ← hlen]
      exact List.take_left
  have newBlk : ∀ (o : Obj) (k : Nat) (n' cap' : Nat), (Value.slice (some ⟨w.heap.size, 0, none⟩) n' cap').ownBlock = some k → w.heap.size ≤ k ∧ k < (w.drew.alloc o).heap.size := by
    intro o k n' cap' hk
    simp [Value.ownBlock] at hk
    subst hk
    simp
  rcases hown.2 with ⟨rfl, rfl⟩ | ⟨g, cap, cur, rfl, hg, hnc, hcm, hcs, htake⟩
  · have hx : xs = [] := List.eq_nil_of_length_eq_zero (by simpa using hown.1)
    subst hx
    have hm0 : 0 < m := hm0.resolve_right (by simp)
    have hr := run_append_nil (P := P) w t ty e i z ht hi hz a m c news hl hnews (by omega) (by omega) (by have hb := hbytes; simp only [Nat.zero_add] at hb; omega)
    have hgr := grown 0 (by omega) (Value.ownBlock (.slice none 0 0))
    simp only [Nat.zero_add, List.nil_append, Array.empty_append] at hgr ⊢
    exact ⟨_, _, hr, hgr.1, hgr.2, fun k hk => .inr (newBlk _ k _ _ hk)⟩
  · by_cases hroom : n + m ≤ cap
    · have hfit : n * i.size + news.length ≤ cur.size := by rw [hl, ← Nat.add_mul]; exact Nat.le_trans (Nat.mul_le_mul_right _ hroom) hcs
      have hr := run_append_room (P := P) w t ty e i ht hi g n cap cur hg a m c news hl hnews h1 hroom hfit
      refine ⟨_, _, hr, ⟨hlen, .inr ⟨g, cap, _, rfl, setRow_heap w g cur _ e _ hg, hroom, hcm, ?_, ?_⟩⟩, ⟨rfl, rfl, rfl, by simp, fun k _ hk => setRow_other w g k _ (fun e => hk (by simp [Value.ownBlock, e]))⟩, fun k hk => .inl hk⟩
      · simp only [List.size_toArray, List.length_append, List.length_take, List.length_drop, Array.length_toList]
        omega
      · rw [htake, ← hlen]
        exact List.take_left
    · have holds : ∀ j u, xs[j]? = some u → w.cell? ((⟨g, 0, none⟩ : Addr).add j) = some u := hown.cells (g := g) rfl
      have hr := run_append_grow (P := P) w t ty e i z ht hi hz ⟨g, 0, none⟩ n cap xs hown.1 holds a m c news hl hnews (by omega) (by omega) (growslice_fits (by omega) hbytes)
      have hgr := grown cap (by omega) (Value.ownBlock (.slice (some ⟨g, 0, none⟩) n cap))
      exact ⟨_, _, hr, hgr.1, hgr.2, fun k hk => .inr (newBlk _ k _ _ hk)⟩
end

/-- append at the operation, by an equation on its run -/
theorem wpList_append_run {P : Program} {w w' : World} {ops : Array Oper} {rest : List Oper} {o : Oper} {a : Act} {Q : Exit → Act → World → Prop} (hgd : o.guard = none) (s x : Operand) (t t2 : TypeId)
    (ho : o.op = .call { callee := .builtin .append, args := #[s, x], argTypes := #[t, t2] }) (vs vx v' : Value) (hs : a.eval s = vs) (hx : a.eval x = vx)
    (hr : (Builtin.append_ #[t, t2] o.type #[vs, vx]).run P w = .ok v' w') (h : wpList P ops Q rest (a.put o.dst v') w') : wpList P ops Q (o :: rest) a w := by
  refine wpList_plain hgd fun _ hK => ?_
  unfold Oper.wp execOp
  simp only [ho, resolve, invoke, builtin, Sem.run_bind, Sem.run_pure, Result.andThen_ok, List.map_toArray, List.map_cons, List.map_nil, hs, hx, hr]
  exact hK _ _ h

/-- the same inside a region that draws its order ('go_region_law') -/
theorem step_append_run {P : Program} {ops : Array Oper} {o : Oper} {a : Act} {w w' : World} {K : Act → World → Prop} {Q : Exit → Act → World → Prop} {E : Prop}
    (hg : o.guard = none) (s x : Operand) (t t2 : TypeId) (hop : o.op = Op.call { callee := Callee.builtin Builtin.append, args := #[s, x], argTypes := #[t, t2] }) (vs vx v' : Value) (hs : a.eval s = vs) (hx : a.eval x = vx)
    (hr : (Builtin.append_ #[t, t2] o.type #[vs, vx]).run P w = .ok v' w') (hK : K (a.put o.dst v') w') :
    if Region.wanted o (yielded ops a.tmps) = true then Oper.wp P o a w K Q else E := by
  have hw : Region.wanted o (yielded ops a.tmps) = true := by simp [Region.wanted, hg]
  rw [if_pos hw]
  unfold Oper.wp execOp
  simp only [hop, resolve, invoke, builtin, Sem.run_bind, Sem.run_pure, Result.andThen_ok, List.map_toArray, List.map_cons, List.map_nil, hs, hx, hr]
  exact hK

theorem Row.cut {w : World} {e : TypeId} {g n cap : Nat} {xs : List Value} (h : Row w e 1 (.slice (some ⟨g, 0, none⟩) n cap) n xs) (k : Nat) (hk : k ≤ n) : Row w e 1 (.slice (some ⟨g, 0, none⟩) k k) k (xs.take k) := by
  obtain ⟨hl, h | ⟨g', cap', cur, hv, hg, hn, hm, hc, ht⟩⟩ := h
  · simp at h
  · simp only [Value.slice.injEq, Option.some.injEq, Addr.mk.injEq, and_true, true_and] at hv
    obtain ⟨rfl, rfl⟩ := hv
    refine ⟨by simp [hl]; omega, .inr ⟨g, k, cur, rfl, hg, Nat.le_refl _, by omega, by omega, ?_⟩⟩
    rw [← ht, List.take_take]
    congr 1
    omega

end Go.Proofs.Ytagjmphmdgklkaa

/- Walks: the steps' own functions. -/
namespace Go.Proofs.Ytagjmphmdgklkaa
open Go.RowKit

theorem tMap : Try.prog.underlying 101 = some (.map 9 3) := by kernel_rfl
theorem tStr : Try.prog.underlying 9 = some .string := by kernel_rfl
theorem tInt : Try.prog.underlying 3 = some (.int .i64) := by kernel_rfl

/-- a pointer to a content: its bytes' cell is at off, its entries' cell at off + 1 -/
def cptr (b off : Nat) : Value := .pointer (some ⟨b, off, none⟩)

/-- 'go_still_tail' with the world behind the draw folded -/
theorem wp_still_tail {P : Program} {id : Nat} {Q : Exit → Act → World → Prop} {a : Act} {w : World} {l : List Oper} (n : Nat) (hm : P.follows .mixedOrders = true) (hB : Region.lexTailB .any l.toArray n = true)
    (h : wpStill P l.toArray w.drew (fun a' => wpList P l.toArray Q (l.drop n) a' w.drew) (l.take n) a) : (Code.region id l.toArray true).wp P Q a w := wp_region_still_tail n hm hB h

/-- a content where it lies -/
structure ContAt (w : World) (b off : Nat) (cs : List Value) (vb vm : Value) (dir : Bool) (c : Cont) (Qb Qm : Nat → Prop) : Prop where
  blk : Blk w b cs
  atB : cs[off]? = some vb
  atM : cs[off + 1]? = some vm
  row : Row w 5 1 vb c.bytes.length (bcells c.bytes)
  inB : BlkIn vb Qb
  ents : EntsAt w dir vm c.ents Qm
  nb : ¬ Qb b
  nm : ¬ Qm b
  apart : ∀ x, Qb x → ¬ Qm x
  nilD : dir = true → vb = .slice none 0 0

/-- what a step leaves -/
structure Done (w w' : World) (b off : Nat) (cs : List Value) (vm : Value) (dir : Bool) (c : Cont) (Qb Qm : Nat → Prop) (vb : Value) : Prop where
  blk : Blk w' b (cs.set off vb)
  row : Row w' 5 1 vb c.bytes.length (bcells c.bytes)
  inB : BlkIn vb (grow Qb w w')
  ents : EntsAt w' dir vm c.ents Qm
  keeps : Keeps w w' (fun x => x = b ∨ Qb x ∨ Qm x)
  nilD : dir = true → vb = .slice none 0 0

theorem keeps_mapSet (w : World) (b : Nat) (o : Obj) : Keeps w (World.mapSet w b o) (fun x => x = b) :=
  ⟨rfl, rfl, rfl, by rw [mapSet_size]; exact Nat.le_refl _, fun k _ h => mapSet_other h o⟩

theorem set_self {cs : List Value} {i : Nat} {v : Value} (h : cs[i]? = some v) : cs.set i v = cs := by
  apply List.ext_getElem?
  intro j
  rw [List.getElem?_set]
  split
  · rename_i e; subst e; split
    · exact h.symm
    · rename_i h2; simp at h2; rw [List.getElem?_eq_none h2] at h; cases h
  · rfl

/-- a step that writes the map alone -/
theorem done_map {w : World} {b off : Nat} {cs : List Value} {vb : Value} {mb : Nat} {c c' : Cont} {Qb Qm : Nat → Prop} (h : ContAt w b off cs vb (.map (some mb)) true c Qb Qm) (hq : Qm mb)
    {w' : World} (hk : Keeps w w' (fun x => x = mb)) (hb : c'.bytes = c.bytes) (hm : MapAt w' mb c'.ents) : Done w w' b off cs (.map (some mb)) true c' Qb Qm vb where
  blk := by
    rw [set_self h.atB]
    exact hk.blk h.blk (fun e => h.nm (e ▸ hq))
  row := by rw [hb]; exact hk.row h.row (fun k hv e => h.apart k (h.inB k hv) (e ▸ hq))
  inB := fun k hv => .inl (h.inB k hv)
  ents := by simp only [EntsAt, if_true]; exact ⟨mb, rfl, hq, hm⟩
  keeps := hk.mono (fun x e => .inr (.inr (e ▸ hq)))
  nilD := h.nilD

theorem drew_keeps {w w' : World} {P : Nat → Prop} (h : Keeps w.drew w' P) : Keeps w w' P := ⟨h.os, h.tape, h.output, h.size, h.block⟩

set_option maxRecDepth 100000 in
set_option maxHeartbeats 400000 in
theorem do_link0 {w : World} {b off mb : Nat} {m : Ents} (hm : w.cell? ⟨b, off + 1, none⟩ = some (.map (some mb))) (hmap : MapAt w mb m) {b1 b2 : Nat} {s : ByteArray} {i : Nat}
    (h1 : Blk w b1 [.int .i64 (i : Int)]) (h2 : Blk w b2 [.string s]) (k : Int) :
    Calls Try.prog 134 #[cptr b off, .int .i64 k, ptr b1, ptr b2] w fun e w' => e = .returned (.tuple #[]) ∧ Keeps w w' (fun x => x = mb) ∧ MapAt w' mb (eset m s i) := by
  have c1 := h1.cell 0
  have c2 := h2.cell 0
  simp only [List.getElem?_cons_zero] at c1 c2
  obtain ⟨o, hrun, hat⟩ := run_update_map (P := Try.prog) tMap tStr (w := w.drew) hmap s i
  clear h1 h2 hmap
  have HF : Hid (MapAt (World.mapSet w.drew mb o) mb (eset m s i)) := hat
  clear hat
  unfold cptr ptr
  go_enter Try.func134, Try.ntmps134
  go_wp2
  go_still_tail 6, (by kernel_rfl)
  go_wp2
  go_end0
  exact ⟨rfl, drew_keeps (keeps_mapSet _ _ _), HF.out⟩

set_option maxRecDepth 100000 in
set_option maxHeartbeats 400000 in
theorem do_unl0 {w : World} {b off mb : Nat} {m : Ents} (hm : w.cell? ⟨b, off + 1, none⟩ = some (.map (some mb))) (hmap : MapAt w mb m) {b1 : Nat} {s : ByteArray}
    (h1 : Blk w b1 [.string s]) (k : Int) :
    Calls Try.prog 102 #[cptr b off, .int .i64 k, ptr b1] w fun e w' => e = .returned (.tuple #[]) ∧ Keeps w w' (fun x => x = mb) ∧ MapAt w' mb (edel m s) := by
  have c1 := h1.cell 0
  simp only [List.getElem?_cons_zero] at c1
  obtain ⟨o, hrun, hat⟩ := run_delete_map (P := Try.prog) tMap tStr (w := w.drew) hmap s 9 0
  clear h1 hmap
  have HF : Hid (MapAt (World.mapSet w.drew mb o) mb (edel m s)) := hat
  clear hat
  unfold cptr ptr
  go_enter Try.func102, Try.ntmps102
  go_wp2
  go_still_tail 5, (by kernel_rfl)
  go_wp2
  go_end0
  exact ⟨rfl, drew_keeps (keeps_mapSet _ _ _), HF.out⟩

theorem mapSet_cell {w : World} {mb : Nat} (o : Obj) {a : Addr} (h : a.block ≠ mb) : (World.mapSet w mb o).cell? a = w.cell? a := World.cell?_of_block (w := w) (mapSet_other h o)

set_option maxRecDepth 100000 in
set_option maxHeartbeats 400000 in
theorem do_ren0 {w : World} {b off mb : Nat} {m : Ents} (hm : w.cell? ⟨b, off + 1, none⟩ = some (.map (some mb))) (hbm : b ≠ mb) (hmap : MapAt w mb m) {b1 b2 b3 : Nat} {s t : ByteArray} {i : Nat}
    (h1 : Blk w b1 [.string s]) (h2 : Blk w b2 [.int .i64 (i : Int)]) (h3 : Blk w b3 [.string t]) (n1 : b1 ≠ mb) (n2 : b2 ≠ mb) (n3 : b3 ≠ mb) (k : Int) :
    Calls Try.prog 94 #[cptr b off, .int .i64 k, ptr b1, ptr b2, ptr b3] w fun e w' => e = .returned (.tuple #[]) ∧ Keeps w w' (fun x => x = mb) ∧ MapAt w' mb (eset (edel m s) t i) := by
  have c1 := h1.cell 0
  have c2 := h2.cell 0
  have c3 := h3.cell 0
  simp only [List.getElem?_cons_zero] at c1 c2 c3
  obtain ⟨o, hrun, hat⟩ := run_delete_map (P := Try.prog) tMap tStr (w := w.drew) hmap s 9 0
  obtain ⟨o2, hrun2, hat2⟩ := run_update_map (P := Try.prog) tMap tStr (w := (World.mapSet w.drew mb o).drew) hat t i
  have d0 : (World.mapSet w.drew mb o).cell? ⟨b, off + 1, none⟩ = some (.map (some mb)) := (mapSet_cell o hbm).trans hm
  have d2 : (World.mapSet w.drew mb o).cell? ⟨b2, 0, none⟩ = some (.int .i64 (i : Int)) := (mapSet_cell o n2).trans c2
  have d3 : (World.mapSet w.drew mb o).cell? ⟨b3, 0, none⟩ = some (.string t) := (mapSet_cell o n3).trans c3
  clear h1 h2 h3 hmap hat n1 n2 n3 hbm
  have HF : Hid (MapAt (World.mapSet (World.mapSet w.drew mb o).drew mb o2) mb (eset (edel m s) t i)) := hat2
  clear hat2
  unfold cptr ptr
  go_enter Try.func94, Try.ntmps94
  go_wp2
  go_still_tail 5, (by kernel_rfl)
  go_wp2
  go_still_tail 6, (by kernel_rfl)
  go_wp2
  go_end0
  exact ⟨rfl, (drew_keeps (keeps_mapSet _ _ _)).trans (drew_keeps (keeps_mapSet _ _ _)) (fun _ _ q => q), HF.out⟩

theorem tBytes : Try.prog.underlying 34 = some (.slice 5) := by kernel_rfl
theorem infoU8 : (Try.prog.info? 5).map (fun i => (i.zero, i.size, i.bytes)) = some (some (.int .u8 0), 1, 1) := by kernel_rfl
theorem run_cut3 (a : Option Addr) (n cap j : Nat) (hj : j ≤ cap) (W : World) :
    (Instr.slice 34 (.slice a n cap) none (some (.int .i64 (j : Int))) (some (.int .i64 (j : Int)))).run Try.prog W = .ok (.slice a j j) W := by
  obtain ⟨i, hi, _, hs, _⟩ := info_parts infoU8
  simp [Instr.slice, run_underlying tBytes, Instr.sliceBounds, Instr.sliceBound, asIntOf, hj, sizeOf, typeInfo, hi, hs, Result.andThen, Addr.add]

theorem run_cut2 (a : Option Addr) (n cap j : Nat) (hj : j ≤ cap) (W : World) :
    (Instr.slice 34 (.slice a n cap) none (some (.int .i64 (j : Int))) none).run Try.prog W = .ok (.slice a j cap) W := by
  obtain ⟨i, hi, _, hs, _⟩ := info_parts infoU8
  simp [Instr.slice, run_underlying tBytes, Instr.sliceBounds, Instr.sliceBound, asIntOf, hj, sizeOf, typeInfo, hi, hs, Result.andThen, Addr.add]

set_option maxRecDepth 100000 in
set_option maxHeartbeats 400000 in
theorem do_cut0 {w : World} {b off : Nat} {cs : List Value} (hb : Blk w b cs) {g n cap : Nat} (hv : cs[off]? = some (.slice (some ⟨g, 0, none⟩) n cap)) (hn : n ≤ cap) (hcap : cap ≤ maxLen) {b1 j : Nat} (h1 : Blk w b1 [.int .i64 (j : Int)]) (hj : j ≤ n) (k : Int) :
    Calls Try.prog 100 #[cptr b off, .int .i64 k, ptr b1] w fun e w' => e = .returned (.tuple #[]) ∧ w' = w.drew.setCell ⟨b, off, none⟩ (.slice (some ⟨g, 0, none⟩) j j) := by
  have c1 := h1.cell 0
  simp only [List.getElem?_cons_zero] at c1
  have c0 := (hb.cell off).trans hv
  have f0 := hb.frozen off
  have hs := run_cut3 (some ⟨g, 0, none⟩) n cap j (by omega)
  clear h1 hb hv
  unfold maxLen at hcap
  unfold cptr ptr
  go_enter Try.func100, Try.ntmps100
  go_wp2
  go_still_tail 8, (by kernel_rfl)
  go_wp2
  go_end0
  exact ⟨rfl, rfl⟩

set_option maxRecDepth 100000 in
set_option maxHeartbeats 400000 in
theorem do_cutnil0 {w : World} {b off : Nat} {cs : List Value} (hb : Blk w b cs) (hv : cs[off]? = some (.slice none 0 0)) {b1 : Nat} (h1 : Blk w b1 [.int .i64 0]) (k : Int) :
    Calls Try.prog 100 #[cptr b off, .int .i64 k, ptr b1] w fun e w' => e = .returned (.tuple #[]) ∧ w' = w.drew.setCell ⟨b, off, none⟩ (.slice none 0 0) := by
  have c1 := h1.cell 0
  simp only [List.getElem?_cons_zero] at c1
  have c0 := (hb.cell off).trans hv
  have f0 := hb.frozen off
  have hs := run_cut3 none 0 0 0 (by omega)
  clear h1 hb hv
  unfold cptr ptr
  go_enter Try.func100, Try.ntmps100
  go_wp2
  go_still_tail 8, (by kernel_rfl)
  go_wp2
  go_end0
  exact ⟨rfl, rfl⟩

theorem bcell_one (l : List UInt8) : ∀ u ∈ bcells l, u.oneCell' = true := by
  intro u hu
  obtain ⟨x, _, rfl⟩ := List.mem_map.1 hu
  rfl

/-- append to a row of bytes out of another row's beginning, as the operation runs -/
theorem run_app_bytes {w : World} {v vs : Value} {l ls : List UInt8} (hv : Row w 5 1 v l.length (bcells l)) {g cap : Nat} (hvs : vs = .slice (some ⟨g, 0, none⟩) ls.length cap) (hs : Row w 5 1 vs ls.length (bcells ls))
    (k c : Nat) (hk : k ≤ ls.length) (hk0 : 0 < k) (hb : l.length + k ≤ 140737488355328) (ty : TypeId) :
    ∃ v' w', (Builtin.append_ #[34, 34] ty #[v, .slice (some ⟨g, 0, none⟩) k c]).run Try.prog w = .ok v' w' ∧ Row w' 5 1 v' (l ++ ls.take k).length (bcells (l ++ ls.take k)) ∧ w.grownBy w' v.ownBlock ∧
      (∀ q, v'.ownBlock = some q → v.ownBlock = some q ∨ (w.heap.size ≤ q ∧ q < w'.heap.size)) := by
  obtain ⟨i, hi, hz, hsz, hby⟩ := info_parts infoU8
  have hl : (bcells (ls.take k)).length = k * 1 := by simp [bcells]; omega
  have hnews : ∀ j u, (bcells (ls.take k))[j]? = some u → w.cell? ((⟨g, 0, none⟩ : Addr).add j) = some u := by
    intro j u hu
    refine hs.cells (g := g) (by rw [hvs]; rfl) j u ?_
    have hj : j < k := by have := (List.getElem?_eq_some_iff.1 hu).1; omega
    simp only [bcells, List.map_take, List.getElem?_take, if_pos hj] at hu ⊢
    exact hu
  obtain ⟨v', w', h1, h2, h3, h4⟩ := run_append_row (P := Try.prog) w 34 ty 5 i _ 1 1 tBytes hi hz hsz hby rfl v l.length (bcells l) hv ⟨g, 0, none⟩ k c (bcells (ls.take k)) hl hnews (bcell_one _) (by unfold maxLen; omega) (by omega) (.inl hk0)
  refine ⟨v', w', h1, ?_, h3, h4⟩
  have e1 : (l ++ ls.take k).length = l.length + k := by simp; omega
  have e2 : bcells (l ++ ls.take k) = bcells l ++ bcells (ls.take k) := by simp [bcells]
  rw [e1, e2]
  exact h2

set_option maxRecDepth 100000 in
set_option maxHeartbeats 400000 in
theorem do_app0 {w : World} {b off : Nat} {cs : List Value} (hb : Blk w b cs) {v : Value} (hv : cs[off]? = some v) {l ls : List UInt8} (hr : Row w 5 1 v l.length (bcells l)) (hvb : v.ownBlock ≠ some b)
    {b1 : Nat} {vs : Value} (h1 : Blk w b1 [vs]) (hs : Row w 5 1 vs ls.length (bcells ls)) (k : Nat) (hk : k ≤ ls.length) (hk0 : 0 < k) (hbd : l.length + k ≤ 140737488355328) :
    Calls Try.prog 89 #[cptr b off, .int .i64 (k : Int), ptr b1] w fun e w' => e = .returned (.tuple #[]) ∧
      ∃ v' w1, w' = w1.setCell ⟨b, off, none⟩ v' ∧ Row w1 5 1 v' (l ++ ls.take k).length (bcells (l ++ ls.take k)) ∧ w.drew.grownBy w1 v.ownBlock ∧ (∀ q, v'.ownBlock = some q → v.ownBlock = some q ∨ (w.heap.size ≤ q ∧ q < w1.heap.size)) := by
  have c1 := h1.cell 0
  simp only [List.getElem?_cons_zero] at c1
  have c0 := (hb.cell off).trans hv
  rcases hs.shape with ⟨rfl, hn⟩ | ⟨g, cap, hvs, hnc, hcm, hg⟩
  · omega
  have hblt := hb.lt
  obtain ⟨v', w1, hrun, hrow, hgr, hown⟩ := run_app_bytes (w := w.drew) (v := v) (vs := vs) hr hvs hs k cap hk hk0 hbd 34
  have hb1 : Blk w1 b cs := hb.of_block (hgr.block b hblt (fun e => hvb e.symm))
  have hmx : l.length + k ≤ maxLen := by unfold maxLen; omega
  obtain ⟨g2, n2, cap2, rfl⟩ : ∃ g2 n2 cap2, v' = .slice (some ⟨g2, 0, none⟩) n2 cap2 := by
    rcases hrow.shape with ⟨_, h0⟩ | ⟨g2, cap2, e, _⟩
    · rw [List.length_append, List.length_take] at h0; omega
    · exact ⟨g2, _, cap2, e⟩
  have f0 := hb1.frozen off
  have c2 := (hb1.cell off).trans hv
  have HF := Lib.hid (⟨_, w1, rfl, hrow, hgr, hown⟩ : ∃ v' w2, w1.setCell ⟨b, off, none⟩ (.slice (some ⟨g2, 0, none⟩) n2 cap2) = w2.setCell ⟨b, off, none⟩ v' ∧ Row w2 5 1 v' (l ++ ls.take k).length (bcells (l ++ ls.take k)) ∧ w.drew.grownBy w2 v.ownBlock ∧ (∀ q, v'.ownBlock = some q → v.ownBlock = some q ∨ (w.heap.size ≤ q ∧ q < w2.heap.size)))
  have hsl := run_cut2 (some ⟨g, 0, none⟩) ls.length cap k (by omega)
  clear hrow hgr hown hb1 hr hs h1 hb hblt hg hv hvb
  subst hvs
  unfold maxLen at hcm
  unfold cptr ptr
  go_enter Try.func89, Try.ntmps89
  go_wp2
  go_region_law (refine step_append_run rfl _ _ _ _ rfl _ _ _ rfl rfl hrun ?_)
  all_goals
    go_end0
    exact ⟨rfl, HF.out⟩


/-- function g is entered by a call of its value -/
def Enter (g : Nat) : Prop := ∀ (args : Array Value) (w : World), (callFunc g args).run Try.prog w = .ok (.enter g args) w

/-- what a step needs of the content that it is done to -/
def St.ok (st : St) (c : Cont) : Prop :=
  match st with
  | .app b => c.bytes.length + b.length ≤ 140737488355328
  | .cut n => n ≤ c.bytes.length
  | _ => True

theorem Keeps.grow_le {w w' : World} {P Q : Nat → Prop} {k : Nat} (h : grow P w w' k) (hp : P k → Q k) (hn : w.heap.size ≤ k ∧ k < w'.heap.size → Q k) : Q k := by
  rcases h with h | h
  · exact hp h
  · exact hn h

/-- a step's function, called on a content: it does what the step says -/
theorem do_step {w : World} {b off : Nat} {cs : List Value} {vb vm : Value} {dir : Bool} {c : Cont} {Qb Qm Qs : Nat → Prop} (h : ContAt w b off cs vb vm dir c Qb Qm)
    {v : Value} {st : St} (hs : StepVal w v st Qs) (hfit : st.fits dir = true) (hok : st.ok c) (nb : ¬ Qs b) (nQb : ∀ x, Qs x → ¬ Qb x) (nQm : ∀ x, Qs x → ¬ Qm x)
    (k : Nat) (hk : k ≤ st.parts) (hk0 : 0 < k) :
    ∃ g caps, v = .func (.func g) #[] caps ∧ Enter g ∧ Calls Try.prog g (#[cptr b off, .int .i64 (k : Int)] ++ caps) w fun e w' => e = .returned (.tuple #[]) ∧ ∃ vb', Done w w' b off cs vm dir (st.act k c) Qb Qm vb' := by
  have hcB := (h.blk.cell off).trans h.atB
  have hcM := (h.blk.cell (off + 1)).trans h.atM
  cases st with
  | link s i =>
    cases dir with
    | false => simp [St.fits] at hfit
    | true =>
      obtain ⟨b1, b2, rfl, h1, h2, q1, q2⟩ := hs
      obtain ⟨mb, rfl, hq, hmap⟩ := by simpa [EntsAt] using h.ents
      refine ⟨_, _, rfl, enters_of Try.func134 (by kernel_rfl) rfl, (do_link0 hcM hmap h1 h2 k).mono ?_⟩
      rintro e w' ⟨rfl, hkp, hm⟩
      exact ⟨rfl, vb, done_map h hq hkp rfl hm⟩
  | unl s =>
    cases dir with
    | false => simp [St.fits] at hfit
    | true =>
      obtain ⟨b1, rfl, h1, q1⟩ := hs
      obtain ⟨mb, rfl, hq, hmap⟩ := by simpa [EntsAt] using h.ents
      refine ⟨_, _, rfl, enters_of Try.func102 (by kernel_rfl) rfl, (do_unl0 hcM hmap h1 k).mono ?_⟩
      rintro e w' ⟨rfl, hkp, hm⟩
      exact ⟨rfl, vb, done_map h hq hkp rfl hm⟩
  | ren s t i =>
    cases dir with
    | false => simp [St.fits] at hfit
    | true =>
      obtain ⟨b1, b2, b3, rfl, h1, h2, h3, q1, q2, q3⟩ := hs
      obtain ⟨mb, rfl, hq, hmap⟩ := by simpa [EntsAt] using h.ents
      refine ⟨_, _, rfl, enters_of Try.func94 (by kernel_rfl) rfl,
        (do_ren0 hcM (fun e => h.nm (e ▸ hq)) hmap h1 h2 h3 (fun e => nQm _ q1 (e ▸ hq)) (fun e => nQm _ q2 (e ▸ hq)) (fun e => nQm _ q3 (e ▸ hq)) k).mono ?_⟩
      rintro e w' ⟨rfl, hkp, hm⟩
      exact ⟨rfl, vb, done_map h hq hkp rfl hm⟩
  | app l =>
    cases dir with
    | true => simp [St.fits] at hfit
    | false =>
      obtain ⟨b1, vs, rfl, h1, h2, q1, q2, hl0⟩ := hs
      have hk' : k ≤ l.length := hk
      have hok' : c.bytes.length + l.length ≤ 140737488355328 := hok
      refine ⟨_, _, rfl, enters_of Try.func89 (by kernel_rfl) rfl,
        (do_app0 h.blk h.atB h.row (fun e => h.nb (h.inB _ e)) h1 h2 k hk' hk0 (by omega)).mono ?_⟩
      rintro e w' ⟨rfl, v', w1, rfl, hrow, hgr, hown⟩
      have hkp : Keeps w w1 (fun x => x = b ∨ Qb x ∨ Qm x) := drew_keeps ((Keeps.refl w.drew _).grownBy hgr (fun x hx => .inr (.inr (.inl (h.inB x hx)))))
      have hv'b : ∀ x, v'.ownBlock = some x → x ≠ b := fun x hx e => by
        rcases hown x hx with h5 | h5
        · exact h.nb (e ▸ h.inB x h5)
        · have := h.blk.lt; omega
      refine ⟨rfl, v', ?_, ?_, ?_, ?_, ?_, by simp⟩
      · have : Blk w1 b cs := h.blk.of_block (hgr.block b h.blk.lt (fun e => h.nb (h.inB b e.symm)))
        exact this.set off v'
      · exact hrow.of_block fun x hx => Below.heap_setCell _ _ _ _ (hv'b x hx)
      · intro x hx
        rcases hown x hx with h5 | h5
        · exact .inl (h.inB x h5)
        · exact .inr ⟨h5.1, by simpa [World.setCell] using h5.2⟩
      · have := h.ents
        simp only [EntsAt, Bool.false_eq_true, if_false] at this ⊢
        exact this
      · exact hkp.setCell (.inr (.inl rfl)) _
  | cut n =>
    cases dir with
    | true => simp [St.fits] at hfit
    | false =>
      obtain ⟨b1, rfl, h1, q1⟩ := hs
      have hn : n ≤ c.bytes.length := hok
      have fin : ∀ v', Row w 5 1 v' (c.bytes.take n).length (bcells (c.bytes.take n)) → (∀ x, v'.ownBlock = some x → vb.ownBlock = some x) →
          Done w (w.drew.setCell ⟨b, off, none⟩ v') b off cs vm false ((St.cut n).act k c) Qb Qm v' := by
        intro v' hrow hown
        have hv'b : ∀ x, v'.ownBlock = some x → x ≠ b := fun x hx e => h.nb (e ▸ h.inB x (hown x hx))
        have hrow' : Row w.drew 5 1 v' (c.bytes.take n).length (bcells (c.bytes.take n)) := hrow
        have hb' : Blk w.drew b cs := h.blk
        refine ⟨hb'.set off v', hrow'.of_block fun x hx => Below.heap_setCell _ _ _ _ (hv'b x hx), fun x hx => .inl (h.inB x (hown x hx)), ?_, drew_keeps ((Keeps.refl w.drew _).setCell (.inr (.inl rfl)) _), by simp⟩
        have := h.ents
        simp only [EntsAt, Bool.false_eq_true, if_false] at this ⊢
        exact this
      rcases h.row.shape with ⟨rfl, h0⟩ | ⟨g, cap, rfl, hnc, hcm, hg⟩
      · obtain rfl : n = 0 := by omega
        refine ⟨_, _, rfl, enters_of Try.func100 (by kernel_rfl) rfl, (do_cutnil0 h.blk h.atB h1 k).mono ?_⟩
        rintro e w' ⟨rfl, rfl⟩
        exact ⟨rfl, _, fin _ (Row.nil _ _ _) (fun x hx => hx)⟩
      · refine ⟨_, _, rfl, enters_of Try.func100 (by kernel_rfl) rfl, (do_cut0 h.blk h.atB hnc hcm h1 hn k).mono ?_⟩
        rintro e w' ⟨rfl, rfl⟩
        have e1 : (c.bytes.take n).length = n := by simp; omega
        have e2 : bcells (c.bytes.take n) = (bcells c.bytes).take n := by simp [bcells]
        exact ⟨rfl, _, fin _ (by rw [e1, e2]; exact h.row.cut n hn) (fun x hx => by simpa [Value.ownBlock] using hx)⟩

end Go.Proofs.Ytagjmphmdgklkaa

/- Walks: clones of bytes, of a map, of a content; a node's sync. -/
namespace Go.Proofs.Ytagjmphmdgklkaa
open Go.RowKit

section
variable {P : Program} (w : World)
theorem run_eqin_map (d : Nat) (t k e : TypeId) (p : Option Nat) (h : P.underlying t = some (.map k e)) : (Op.equalIn (d + 1) t (.map p) (.map none)).run P w = .ok p.isNone w := by
  cases p <;> simp [Op.equalIn, run_underlying h]
theorem run_eqnil_map (t k e : TypeId) (p : Option Nat) (h : P.underlying t = some (.map k e)) : (binOp .eql t (.map p) (.map none)).run P w = .ok (.bool p.isNone) w := by
  simp only [binOp]
  simp [show Op.equal t (.map p) (.map none) = Op.equalIn (9999 + 1) t (.map p) (.map none) from rfl, run_eqin_map w 9999 t k e p h]
theorem run_assert_map (t xT k e : TypeId) (v : Value) (h : P.underlying t = some (.map k e)) : (Instr.typeAssert (.iface t v) xT t false).run P w = .ok v w := by
  simp [Instr.typeAssert, run_underlying h, go_sem, Result.andThen]
theorem run_clone_map {r : Nat} {es : Array MapEntry} {clock : Nat} (t : TypeId) (hb : w.heap[r]? = some (.map es clock)) :
    (Extern.MapsClone.clone #[.iface t (.map (some r))]).run P w = .ok (.iface t (.map (some w.heap.size))) (w.alloc (.map es clock)) := by
  have e : Extern.MapsClone.clone #[.iface t (.map (some r))] = (getObj r >>= fun o => match o with
      | .map entries clock => (newObj (.map entries clock) >>= fun n => pure (.iface t (.map (some n))))
      | _ => stuck "maps.clone: a map expected") := rfl
  rw [e]
  simp [MapKept.run_getObj_map hb, Result.andThen, go_sem]
end

set_option maxRecDepth 100000 in
set_option maxHeartbeats 400000 in
theorem maps_clone {b : Nat} {m : Ents} {w : World} (h : MapAt w b m) :
    Calls Try.prog 135 #[.map (some b)] w fun e w' => e = .returned (.map (some w.heap.size)) ∧ (∃ o, w' = w.alloc o) ∧ MapAt w' w.heap.size m := by
  obtain ⟨es, clock, hb, hrest⟩ := h
  have hq := fun w => run_eqnil_map (P := Try.prog) w 101 _ _ (some b) tMap
  have HF := Lib.hid hrest
  clear hrest
  go_enter Try.func135, Try.ntmps135
  go_wp2
  rw [run_callFunc_extern Try.func151 (by kernel_rfl) (by kernel_rfl) (by kernel_rfl) (e := Extern.MapsClone.clone) (by kernel_rfl), run_clone_map w 101 hb]
  simp only [Result.andThen]
  rw [Oper.upon_value]
  go_wp2
  rw [run_assert_map _ 101 _ _ _ _ tMap]
  simp only [Result.andThen]
  rw [Oper.upon_value]
  go_wp2
  go_ret
  refine ⟨rfl, ⟨_, rfl⟩, es, clock, ?_, HF.out⟩
  show (w.heap.push _)[w.heap.size]? = _
  simp

set_option maxRecDepth 100000 in
set_option maxHeartbeats 400000 in
theorem maps_clone_nil (w : World) :
    Calls Try.prog 135 #[.map none] w fun e w' => e = .returned (.map none) ∧ w' = w := by
  have hq := fun w => run_eqnil_map (P := Try.prog) w 101 _ _ none tMap
  go_enter Try.func135, Try.ntmps135
  go_wp2
  go_ret
  exact ⟨rfl, rfl⟩

set_option maxRecDepth 100000 in
set_option maxHeartbeats 400000 in
theorem bytes_clone {w : World} {v : Value} {l : List UInt8} (h : Row w 5 1 v l.length (bcells l)) (hb : l.length ≤ 140737488355328) :
    Calls Try.prog 62 #[v] w fun e w' => ∃ v', e = .returned v' ∧ Row w' 5 1 v' l.length (bcells l) ∧ Below w.heap.size w w' ∧ (∀ k, v'.ownBlock = some k → w.heap.size ≤ k ∧ k < w'.heap.size) := by
  rcases h.shape with ⟨rfl, hn⟩ | ⟨g, cap, rfl, hnc, hcm, hg⟩
  · have HF := Lib.hid h
    clear h
    have hq := fun w => Lib.run_eql_slice_nil (P := Try.prog) w 34 5 none 0 0 0 0 tBytes
    go_enter Try.func62, Try.ntmps62
    go_wp2
    go_ret
    exact ⟨_, rfl, HF.out, Below.refl _ _, by simp [Value.ownBlock]⟩
  · obtain ⟨i, hi, hz, hsz, hby⟩ := info_parts infoU8
    have h0 : Row (w.alloc (.cells #[] 5)) 5 1 (.slice (some ⟨w.heap.size, 0, none⟩) 0 0) 0 [] :=
      ⟨rfl, .inr ⟨w.heap.size, 0, #[], rfl, by show (w.heap.push _)[w.heap.size]? = _; simp, Nat.le_refl _, by simp [maxLen], by simp, rfl⟩⟩
    have hw : Row (w.alloc (.cells #[] 5)) 5 1 (.slice (some ⟨g, 0, none⟩) l.length cap) l.length (bcells l) :=
      h.of_block fun k hk => Below.heap_alloc _ _ _ (h.lt k hk)
    obtain ⟨v', w', hrun, hrow, hgr, hown⟩ := run_append_row (P := Try.prog) (w.alloc (.cells #[] 5)) 34 34 5 i _ 1 1 tBytes hi hz hsz hby rfl _ 0 [] h0
      ⟨g, 0, none⟩ l.length cap (bcells l) (by simp [bcells]) (fun j u hu => hw.cells (g := g) rfl j u hu) (bcell_one _) (by unfold maxLen; omega) (by omega) (.inr (by simp))
    have HF := Lib.hid (show ∃ v'', Ending.returned v' = .returned v'' ∧ Row w' 5 1 v'' l.length (bcells l) ∧ Below w.heap.size w w' ∧ (∀ k, v''.ownBlock = some k → w.heap.size ≤ k ∧ k < w'.heap.size) from by
      refine ⟨v', rfl, by simpa using hrow, ((Below.refl _ _).alloc (Nat.le_refl _) _).grown hgr (by simp) (fun k hk => by simp [Value.ownBlock] at hk; omega), ?_⟩
      · intro k hk
        have hs2 := hgr.size
        simp only [World.size_alloc] at hs2
        rcases hown k hk with h5 | h5
        · simp [Value.ownBlock] at h5; omega
        · simp only [World.size_alloc] at h5; omega)
    clear hrow hgr hown h hw h0
    unfold maxLen at hcm
    have hq := fun w => Lib.run_eql_slice_nil (P := Try.prog) w 34 5 (some ⟨g, 0, none⟩) l.length cap 0 0 tBytes
    go_enter Try.func62, Try.ntmps62
    go_wp2_with (at_builtin; refine wpList_append_run rfl _ _ _ _ rfl _ _ _ rfl rfl hrun ?_; clear hrun)
    go_ret
    exact HF.out

theorem two_blocks {w w1 : World} {a0 a1 b0 b1 : Value} {T : TypeId} (h : Below ((w.alloc (.cells #[a0, a1] T)).alloc (.cells #[b0, b1] T)).drew.heap.size ((w.alloc (.cells #[a0, a1] T)).alloc (.cells #[b0, b1] T)).drew w1) :
    w1.cell? ⟨w.heap.size, 0, none⟩ = some a0 ∧ w1.cell? ⟨w.heap.size, 1, none⟩ = some a1 ∧ w1.cell? ⟨w.heap.size + 1, 0, none⟩ = some b0 ∧ w1.cell? ⟨w.heap.size + 1, 1, none⟩ = some b1 ∧
    w1.frozen? ⟨w.heap.size + 1, 0, none⟩ = false ∧ w1.frozen? ⟨w.heap.size + 1, 1, none⟩ = false := by
  have k0 : Blk ((w.alloc (.cells #[a0, a1] T)).alloc (.cells #[b0, b1] T)).drew w.heap.size [a0, a1] := (Blk.made w #[a0, a1] T).of_block (Below.heap_alloc _ _ _ (by simp))
  have k1 : Blk ((w.alloc (.cells #[a0, a1] T)).alloc (.cells #[b0, b1] T)).drew (w.heap.size + 1) [b0, b1] := by
    have := Blk.made (w.alloc (.cells #[a0, a1] T)) #[b0, b1] T
    simp only [World.size_alloc] at this
    exact this
  have l0 : Blk w1 w.heap.size [a0, a1] := k0.of_block (h.block _ k0.lt)
  have l1 : Blk w1 (w.heap.size + 1) [b0, b1] := k1.of_block (h.block _ k1.lt)
  exact ⟨l0.cell 0, l0.cell 1, l1.cell 0, l1.cell 1, l1.frozen 0, l1.frozen 1⟩

theorem two_below {w w1 : World} {o1 o2 : Obj} (h : Below ((w.alloc o1).alloc o2).drew.heap.size ((w.alloc o1).alloc o2).drew w1) : Below w.heap.size w w1 :=
  ((((Below.refl _ _).alloc (Nat.le_refl _) _).alloc (by simp) _).drew).trans (h.mono (by simp; omega))

/-- behind the two stores into the block of the result -/
theorem two_stored {w w1 : World} (hb : Below w.heap.size w w1) (u0 u1 : Value) : Below w.heap.size w ((w1.setCell ⟨w.heap.size + 1, 0, none⟩ u0).setCell ⟨w.heap.size + 1, 1, none⟩ u1) :=
  (hb.setCell (by simp) _).setCell (by simp) _

theorem clone_close {w w1 : World} {o1 o2 : Obj} {v' : Value} {l : List UInt8} (hb : Below ((w.alloc o1).alloc o2).drew.heap.size ((w.alloc o1).alloc o2).drew w1)
    (ho : ∀ k, v'.ownBlock = some k → ((w.alloc o1).alloc o2).drew.heap.size ≤ k ∧ k < w1.heap.size) (hr : Row w1 5 1 v' l.length (bcells l)) (u : Value) :
    Row ((w1.setCell ⟨w.heap.size + 1, 0, none⟩ v').setCell ⟨w.heap.size + 1, 1, none⟩ u) 5 1 v' l.length (bcells l) ∧ Below w.heap.size w ((w1.setCell ⟨w.heap.size + 1, 0, none⟩ v').setCell ⟨w.heap.size + 1, 1, none⟩ u) ∧
      (∀ k, v'.ownBlock = some k → w.heap.size ≤ k ∧ k < ((w1.setCell ⟨w.heap.size + 1, 0, none⟩ v').setCell ⟨w.heap.size + 1, 1, none⟩ u).heap.size) := by
  have e : ∀ k, v'.ownBlock = some k → w.heap.size + 1 < k := fun k hk => by
    have := (ho k hk).1
    simp at this
    omega
  refine ⟨hr.of_block fun k hk => ?_, two_stored (two_below hb) _ _, fun k hk => ⟨by have := e k hk; omega, by have := (ho k hk).2; simpa [World.setCell] using this⟩⟩
  have := e k hk
  rw [Below.heap_setCell _ _ _ _ (by simp; omega), Below.heap_setCell _ _ _ _ (by simp; omega)]

set_option maxRecDepth 100000 in
set_option maxHeartbeats 1000000 in
theorem content_clone_file {w : World} {v : Value} {l : List UInt8} (h : Row w 5 1 v l.length (bcells l)) (hb : l.length ≤ 140737488355328) :
    Calls Try.prog 117 #[.agg #[v, .map none]] w fun e w' => ∃ v', e = .returned (.agg #[v', .map none]) ∧ Row w' 5 1 v' l.length (bcells l) ∧ Below w.heap.size w w' ∧ (∀ k, v'.ownBlock = some k → w.heap.size ≤ k ∧ k < w'.heap.size) := by
  have hc : ∀ W : World, Below w.heap.size w W → Calls Try.prog 62 #[v] W fun e w' => ∃ v', e = .returned v' ∧ Row w' 5 1 v' l.length (bcells l) ∧ Below W.heap.size W w' ∧ (∀ k, v'.ownBlock = some k → W.heap.size ≤ k ∧ k < w'.heap.size) :=
    fun W hW => bytes_clone (h.of_block fun k hk => hW.block k (h.lt k hk)) hb
  have HC := Lib.hid hc
  obtain ⟨a, n, c, rfl⟩ := h.isSlice
  clear hc h hb
  go_enter Try.func117, Try.ntmps117
  go_wp2
  go_region_with (first | (go_at_call 135; refine (maps_clone_nil _).mono ?_; rintro e w' ⟨rfl, rfl⟩) | (go_at_call 62; refine (HC.out _ ?_).mono ?_; exact (((Below.refl _ _).alloc (Nat.le_refl _) _).alloc (by simp) _).drew; rintro e w1 ⟨v', rfl, hr1, hb1, ho1⟩; obtain ⟨e0, e1, e2, e3, e4, e5⟩ := two_blocks hb1; have HB := Lib.hid hb1; have HO := Lib.hid ho1; have HR := Lib.hid hr1; obtain ⟨a', n', c', rfl⟩ := hr1.isSlice; clear hb1 ho1 hr1))
  all_goals
    go_wp2
    have hcl := clone_close HB.out HO.out HR.out (.map none)
    refine bodyPost_ret (v := .agg #[.slice a' n' c', .map none]) (by simp [results, Try.results117, go_sem, e2, e3, e4, e5]) rfl ⟨_, rfl, hcl⟩

set_option maxRecDepth 100000 in
set_option maxHeartbeats 400000 in
theorem bytes_clone_nil (w : World) : Calls Try.prog 62 #[.slice none 0 0] w fun e w' => e = .returned (.slice none 0 0) ∧ w' = w := by
  have hq := fun w => Lib.run_eql_slice_nil (P := Try.prog) w 34 5 none 0 0 0 0 tBytes
  go_enter Try.func62, Try.ntmps62
  go_wp2
  go_ret
  exact ⟨rfl, rfl⟩

theorem clone_close_map {w w1 : World} {o1 o2 : Obj} {b : Nat} {m : Ents} (hb : Below ((w.alloc o1).alloc o2).drew.heap.size ((w.alloc o1).alloc o2).drew w1)
    (ho : ((w.alloc o1).alloc o2).drew.heap.size ≤ b ∧ b < w1.heap.size) (hr : MapAt w1 b m) (v' u : Value) :
    MapAt ((w1.setCell ⟨w.heap.size + 1, 0, none⟩ v').setCell ⟨w.heap.size + 1, 1, none⟩ u) b m ∧ Below w.heap.size w ((w1.setCell ⟨w.heap.size + 1, 0, none⟩ v').setCell ⟨w.heap.size + 1, 1, none⟩ u) ∧
      (w.heap.size ≤ b ∧ b < ((w1.setCell ⟨w.heap.size + 1, 0, none⟩ v').setCell ⟨w.heap.size + 1, 1, none⟩ u).heap.size) := by
  have e : w.heap.size + 1 < b := by
    have := ho.1
    simp at this
    omega
  refine ⟨hr.of_block ?_, two_stored (two_below hb) _ _, ⟨by omega, by have := ho.2; simpa [World.setCell] using this⟩⟩
  rw [Below.heap_setCell _ _ _ _ (by simp; omega), Below.heap_setCell _ _ _ _ (by simp; omega)]

set_option maxRecDepth 100000 in
set_option maxHeartbeats 1000000 in
theorem content_clone_dir {w : World} {b : Nat} {m : Ents} (h : MapAt w b m) :
    Calls Try.prog 117 #[.agg #[.slice none 0 0, .map (some b)]] w fun e w' => ∃ b', e = .returned (.agg #[.slice none 0 0, .map (some b')]) ∧ MapAt w' b' m ∧ Below w.heap.size w w' ∧ (w.heap.size ≤ b' ∧ b' < w'.heap.size) := by
  have hc : ∀ W : World, Below w.heap.size w W → Calls Try.prog 135 #[.map (some b)] W fun e w' => ∃ b', e = .returned (.map (some b')) ∧ MapAt w' b' m ∧ Below W.heap.size W w' ∧ (W.heap.size ≤ b' ∧ b' < w'.heap.size) :=
    fun W hW => (maps_clone (h.of_block (hW.block b h.lt))).mono (by rintro e w' ⟨rfl, ⟨o, rfl⟩, hm⟩; exact ⟨_, rfl, hm, (Below.refl _ _).alloc (Nat.le_refl _) _, Nat.le_refl _, by simp⟩)
  have HC := Lib.hid hc
  clear hc h
  go_enter Try.func117, Try.ntmps117
  go_wp2
  go_region_with (first | (go_at_call 62; refine (bytes_clone_nil _).mono ?_; rintro e w' ⟨rfl, rfl⟩) | (go_at_call 135; refine (HC.out _ ?_).mono ?_; exact (((Below.refl _ _).alloc (Nat.le_refl _) _).alloc (by simp) _).drew; rintro e w1 ⟨b', rfl, hr1, hb1, ho1⟩; obtain ⟨e0, e1, e2, e3, e4, e5⟩ := two_blocks hb1; have HB := Lib.hid hb1; have HO := Lib.hid ho1; have HR := Lib.hid hr1; clear hb1 ho1 hr1))
  all_goals
    go_wp2
    have hcl := clone_close_map HB.out HO.out HR.out (.slice none 0 0) (.map (some b'))
    refine bodyPost_ret (v := .agg #[.slice none 0 0, .map (some b')]) (by simp [results, Try.results117, go_sem, e2, e3, e4, e5]) rfl ⟨_, rfl, hcl⟩

end Go.Proofs.Ytagjmphmdgklkaa

/- Walks: a content's clone for both kinds, a node's sync, the number of its loose parts. -/
namespace Go.Proofs.Ytagjmphmdgklkaa
open Go.RowKit

def fresh (w w' : World) : Nat → Prop := fun k => w.heap.size ≤ k ∧ k < w'.heap.size

theorem content_clone {w : World} {dir : Bool} {vb vm : Value} {c : Cont} {Q1 Q2 : Nat → Prop} (h1 : BytesAt w dir vb c.bytes Q1) (h2 : EntsAt w dir vm c.ents Q2) (hb : c.bytes.length ≤ 140737488355328) :
    Calls Try.prog 117 #[.agg #[vb, vm]] w fun e w' => ∃ a n k r, e = .returned (.agg #[.slice a n k, .map r]) ∧ BytesAt w' dir (.slice a n k) c.bytes (fresh w w') ∧ EntsAt w' dir (.map r) c.ents (fresh w w') ∧ Below w.heap.size w w' := by
  cases dir with
  | false =>
    obtain ⟨rfl, hm⟩ := by simpa [EntsAt] using h2
    refine (content_clone_file h1.row hb).mono ?_
    rintro e w' ⟨v', rfl, hr, hbl, hf⟩
    obtain ⟨a, n, k, rfl⟩ := hr.isSlice
    exact ⟨a, n, k, none, rfl, ⟨hr, hf, by simp⟩, by simp [EntsAt, hm], hbl⟩
  | true =>
    obtain ⟨b, rfl, hq, hm⟩ := by simpa [EntsAt] using h2
    obtain rfl := h1.nilD rfl
    have hl : c.bytes = [] := by
      rcases h1.row.shape with ⟨_, h0⟩ | ⟨g, cap, h0, _⟩
      · exact List.eq_nil_of_length_eq_zero h0
      · cases h0
    refine (content_clone_dir hm).mono ?_
    rintro e w' ⟨b', rfl, hr, hbl, hf⟩
    exact ⟨none, 0, 0, some b', rfl, ⟨by rw [hl]; exact Row.nil _ _ _, by intro k hk; simp [Value.ownBlock] at hk, fun _ => rfl⟩, by simp only [EntsAt, if_true]; exact ⟨b', rfl, hf, hr⟩, hbl⟩

set_option maxRecDepth 100000 in
set_option maxHeartbeats 400000 in
theorem sync_walk {w : World} {b : Nat} {v0 v1 v2 v3 v4 v5 : Value} (hb : Blk w b [v0, v1, v2, v3, v4, v5]) {R : Nat → Value → Value → World → Prop}
    (hc : Calls Try.prog 117 #[.agg #[v3, v4]] w fun e w' => ∃ a n k r, e = .returned (.agg #[.slice a n k, .map r]) ∧ R 0 (.slice a n k) (.map r) w' ∧ Below w.heap.size w w') :
    Calls Try.prog 91 #[ptr b] w fun e w' => e = .returned (.tuple #[]) ∧ ∃ x y w1, R 0 x y w1 ∧ Below w.heap.size w w1 ∧ w' = ((w1.setCell ⟨b, 1, none⟩ x).setCell ⟨b, 2, none⟩ y).setCell ⟨b, 5, none⟩ (.slice none 0 0) := by
  have c3 : w.cell? ⟨b, 3, none⟩ = some v3 := hb.cell 3
  have c4 : w.cell? ⟨b, 4, none⟩ = some v4 := hb.cell 4
  have hB := Lib.hid hb
  have HC := Lib.hid hc
  clear hb hc
  unfold ptr
  go_enter Try.func91, Try.ntmps91
  go_wp2_with (go_at_call 117; refine HC.out.mono ?_; rintro e w1 ⟨a, n, k, r, rfl, hR, hbl⟩; have hb1 := hB.out.of_block (hbl.block b hB.out.lt); have d1 := hb1.cell 1; have d2 := hb1.cell 2; have d5 := hb1.cell 5; have f1 := hb1.frozen 1; have f2 := hb1.frozen 2; have f5 := hb1.frozen 5; simp only [List.getElem?_cons_succ, List.getElem?_cons_zero] at d1 d2 d5; have HR := Lib.hid hR; have HBL := Lib.hid hbl; clear hR hbl hb1)
  go_end0
  exact ⟨rfl, _, _, _, HR.out, HBL.out, rfl⟩

theorem node_sync0 {w : World} {b : Nat} {N : Nd} {P : Nat → Prop} {vsb vsm veb vem vl : Value} {t : Nat → Nat} (h1 : Blk w b [.bool N.dir, vsb, vsm, veb, vem, vl]) (h2 : t b = 1)
    (h5 : BytesAt w N.dir veb N.seen.bytes (fun k => t k = 4)) (h6 : EntsAt w N.dir vem N.seen.ents (fun k => t k = 5)) (h10 : ∀ k, t k ≠ 0 → P k) (hbd : N.seen.bytes.length ≤ 140737488355328) :
    Calls Try.prog 91 #[ptr b] w fun e w' => e = .returned (.tuple #[]) ∧ NodeAt w' b { N with safe := N.seen, loose := [] } (grow P w w') ∧ Keeps w w' P := by
  refine (sync_walk (R := fun _ x y w' => BytesAt w' N.dir x N.seen.bytes (fresh w w') ∧ EntsAt w' N.dir y N.seen.ents (fresh w w')) h1 ((content_clone h5 h6 hbd).mono ?_)).mono ?_
  · rintro e w' ⟨a, n, k, r, rfl, q1, q2, q3⟩
    exact ⟨a, n, k, r, rfl, ⟨q1, q2⟩, q3⟩
  · rintro e w' ⟨rfl, x, y, w1, ⟨q1, q2⟩, hbl, rfl⟩
    have hblk : Blk w1 b [.bool N.dir, vsb, vsm, veb, vem, vl] := h1.of_block (hbl.block b h1.lt)
    have hsz : (((w1.setCell ⟨b, 1, none⟩ x).setCell ⟨b, 2, none⟩ y).setCell ⟨b, 5, none⟩ (.slice none 0 0)).heap.size = w1.heap.size := by simp [World.setCell]
    have hoth : ∀ k, k ≠ b → (((w1.setCell ⟨b, 1, none⟩ x).setCell ⟨b, 2, none⟩ y).setCell ⟨b, 5, none⟩ (.slice none 0 0)).heap[k]? = w1.heap[k]? := fun k hk => by
      rw [Below.heap_setCell _ _ _ _ hk, Below.heap_setCell _ _ _ _ hk, Below.heap_setCell _ _ _ _ hk]
    have hlt := h1.lt
    have hfb : ∀ k, fresh w w1 k → k ≠ b := fun k hk e => by have := hk.1; omega
    have s1 : Same w1 (((w1.setCell ⟨b, 1, none⟩ x).setCell ⟨b, 2, none⟩ y).setCell ⟨b, 5, none⟩ (.slice none 0 0)) (fresh w w1) := fun k _ hk => hoth k (hfb k hk)
    have hblk' : Blk (((w1.setCell ⟨b, 1, none⟩ x).setCell ⟨b, 2, none⟩ y).setCell ⟨b, 5, none⟩ (.slice none 0 0)) b [.bool N.dir, x, y, veb, vem, .slice none 0 0] := ((hblk.set 1 x).set 2 y).set 5 (.slice none 0 0)
    have so : ∀ n, n ≠ 1 → Same w (((w1.setCell ⟨b, 1, none⟩ x).setCell ⟨b, 2, none⟩ y).setCell ⟨b, 5, none⟩ (.slice none 0 0)) (fun k => t k = n) := fun n hn k hk ht => by
      rw [hoth k (fun e => hn (by rw [← ht, e, h2])), hbl.block k hk]
    generalize hW : ((w1.setCell ⟨b, 1, none⟩ x).setCell ⟨b, 2, none⟩ y).setCell ⟨b, 5, none⟩ (.slice none 0 0) = W at *
    refine ⟨rfl, ⟨x, y, veb, vem, .slice none 0 0, fun _ => .nilFunc, fun k => if w.heap.size ≤ k then (if k < W.heap.size then (if N.dir then 3 else 2) else 0) else t k, hblk', ?_, ?_, ?_, ?_, ?_, ?_, ?_, ?_, ?_⟩, ?_⟩
    · simp only []; rw [if_neg (by omega)]; exact h2
    · have q1' := q1.same s1
      refine ⟨q1'.row, fun k hk => ?_, q1'.nilD⟩
      have hf := q1'.inQ k hk
      simp only []
      rw [if_pos hf.1, if_pos (by rw [hsz]; exact hf.2)]
      cases hd : N.dir with
      | false => rfl
      | true =>
        have := q1'.nilD hd
        rw [this] at hk
        simp [Value.ownBlock] at hk
    · have q2' := q2.same s1
      unfold EntsAt at q2' ⊢
      cases hd : N.dir with
      | false => simpa [hd] using q2'
      | true =>
        simp only [hd, if_true] at q2' ⊢
        obtain ⟨b', e1, hf, hm⟩ := q2'
        exact ⟨b', e1, by rw [if_pos hf.1, if_pos (by rw [hsz]; exact hf.2)], hm⟩
    · have q5 := h5.same (so 4 (by omega))
      refine ⟨q5.row, fun k hk => ?_, q5.nilD⟩
      have := h5.row.lt k hk
      simp only []
      rw [if_neg (by omega)]
      exact q5.inQ k hk
    · have q6 := h6.same (so 5 (by omega))
      unfold EntsAt at q6 h6 ⊢
      cases hd : N.dir with
      | false => simpa [hd] using q6
      | true =>
        simp only [hd, if_true] at q6 h6 ⊢
        obtain ⟨b', e1, hf, hm⟩ := q6
        obtain ⟨b2, e2, hf2, hm2⟩ := h6
        have : b' = b2 := by rw [e1] at e2; simpa using e2
        have := hm2.lt
        exact ⟨b', e1, by rw [if_neg (by omega)]; exact hf, hm⟩
    · exact Row.nil _ _ _
    · intro k hk; simp [Value.ownBlock] at hk
    · intro j hj; simp at hj
    · intro k hk
      simp only [] at hk
      by_cases hk2 : w.heap.size ≤ k
      · rw [if_pos hk2] at hk
        by_cases hk3 : k < W.heap.size
        · exact .inr ⟨hk2, hk3⟩
        · rw [if_neg hk3] at hk; exact absurd rfl hk
      · rw [if_neg hk2] at hk
        exact .inl (h10 k hk)
    · refine ⟨?_, ?_, ?_, by rw [hsz]; exact hbl.size, fun k hk hp => ?_⟩
      · rw [← hW]; exact hbl.os
      · rw [← hW]; exact hbl.tape
      · rw [← hW]; exact hbl.output
      · rw [hoth k (fun e => hp (by rw [e]; exact h10 b (by omega))), hbl.block k hk]

theorem node_sync {w : World} {b : Nat} {N : Nd} {P : Nat → Prop} (h : NodeAt w b N P) (hbd : N.seen.bytes.length ≤ 140737488355328) :
    Calls Try.prog 91 #[ptr b] w fun e w' => e = .returned (.tuple #[]) ∧ NodeAt w' b { N with safe := N.seen, loose := [] } (grow P w w') ∧ Keeps w w' P := by
  obtain ⟨vsb, vsm, veb, vem, vl, f, t, h1, h2, h3, h4, h5, h6, h7, h8, h9, h10⟩ := h
  exact node_sync0 h1 h2 h5 h6 h10 hbd

end Go.Proofs.Ytagjmphmdgklkaa

/- Walks: how many loose parts a node has. -/
namespace Go.Proofs.Ytagjmphmdgklkaa
open Go.RowKit

theorem StepVal.isFunc {w : World} {v : Value} {st : St} {Q : Nat → Prop} (h : StepVal w v st Q) : ∃ g caps, v = .func (.func g) #[] caps := by
  cases st <;> simp only [StepVal] at h
  · obtain ⟨b1, b2, h1, _⟩ := h; exact ⟨_, _, h1⟩
  · obtain ⟨b1, vb, h1, _⟩ := h; exact ⟨_, _, h1⟩
  · obtain ⟨b1, h1, _⟩ := h; exact ⟨_, _, h1⟩
  · obtain ⟨b1, b2, b3, h1, _⟩ := h; exact ⟨_, _, h1⟩
  · obtain ⟨b1, h1, _⟩ := h; exact ⟨_, _, h1⟩

theorem flat2 {α : Type} (g h : Nat → α) : ∀ (n : Nat) (a : Nat), ((List.range' a n).flatMap fun j => [g j, h j]).length = n * 2 ∧ ∀ j, j < n → ((List.range' a n).flatMap fun j => [g j, h j])[2 * j]? = some (g (a + j)) ∧ ((List.range' a n).flatMap fun j => [g j, h j])[2 * j + 1]? = some (h (a + j))
  | 0, a => by simp
  | n + 1, a => by
    obtain ⟨h1, h2⟩ := flat2 g h n (a + 1)
    simp only [List.range'_succ, List.flatMap_cons]
    refine ⟨by rw [List.length_append, h1]; simp; omega, fun j hj => ?_⟩
    cases j with
    | zero => simp
    | succ j =>
      have := h2 j (by omega)
      have e1 : 2 * (j + 1) = 2 * j + 1 + 1 := by omega
      have e2 : a + (j + 1) = a + 1 + j := by omega
      rw [e1, e2]
      simpa using this
theorem looseCells_at {l : List St} {f : Nat → Value} {j : Nat} (h : j < l.length) : (looseCells l f)[2 * j]? = some (.int .i64 (l[j].parts : Int)) ∧ (looseCells l f)[2 * j + 1]? = some (f j) := by
  have := (flat2 (fun j => Value.int .i64 ((l.getD j (.cut 0)).parts : Int)) f l.length 0).2 j h
  rw [← List.range_eq_range'] at this
  simp only [Nat.zero_add] at this
  unfold looseCells
  refine ⟨this.1.trans ?_, this.2⟩
  simp [h]
theorem looseCells_length (l : List St) (f : Nat → Value) : (looseCells l f).length = l.length * 2 := by
  have := (flat2 (fun j => Value.int .i64 ((l.getD j (.cut 0)).parts : Int)) f l.length 0).1
  rw [← List.range_eq_range'] at this
  exact this

theorem sumParts_take {l : List St} {j : Nat} (h : j < l.length) : sumParts (l.take (j + 1)) = sumParts (l.take j) + l[j].parts := by
  unfold sumParts
  rw [List.take_succ_eq_append_getElem h, List.map_append, List.sum_append]
  simp
theorem sumParts_take_le (l : List St) (j : Nat) : sumParts (l.take j) ≤ sumParts l := by
  have : sumParts l = sumParts (l.take j) + sumParts (l.drop j) := by
    unfold sumParts
    rw [← List.sum_append, ← List.map_append, List.take_append_drop]
  omega

set_option maxRecDepth 100000 in
set_option maxHeartbeats 400000 in
theorem parts_walk {w : World} {b : Nat} {v0 v1 v2 v3 v4 v5 : Value} (hb : Blk w b [v0, v1, v2, v3, v4, v5]) {l : List St} {f : Nat → Value} (hr : Row w 135 2 v5 l.length (looseCells l f))
    (hf : ∀ j, j < l.length → ∃ g caps, f j = .func (.func g) #[] caps) (hs : sumParts l ≤ 4611686018427387904) :
    Calls Try.prog 80 #[ptr b] w fun e w' => e = .returned (.int .i64 (sumParts l : Int)) ∧ Below w.heap.size w w' := by
  have c5 : w.cell? ⟨b, 5, none⟩ = some v5 := hb.cell 5
  have HR := Lib.hid hr
  have HF := Lib.hid hf
  have HB := Lib.hid hb
  obtain ⟨a, n, cap, hv, hn, hcap⟩ : ∃ a n cap, v5 = .slice a n cap ∧ n = l.length ∧ n ≤ maxLen := by
    rcases hr.shape with ⟨e, h0⟩ | ⟨g, cap, e, h1, h2, _⟩
    · exact ⟨_, _, _, e, h0.symm, by simp [maxLen]⟩
    · exact ⟨_, _, _, e, rfl, by omega⟩
  subst hv
  subst hn
  unfold maxLen at hcap
  clear hr hf hb
  unfold ptr
  go_enter Try.func80, Try.ntmps80
  go_wp2
  go_loopw [3, 11] (fun s i wr => ∃ j : Nat, j ≤ l.length ∧ i = .int .i64 j ∧ s = .int .i64 (sumParts (l.take j) : Int) ∧ Below w.heap.size w wr) (fun _ i _ => l.length - (intOf i).toNat)
  case atStart => exact ⟨0, Nat.zero_le _, rfl, by simp [sumParts], Below.refl _ _⟩
  case round =>
    obtain ⟨j, hj, rfl, rfl, hbl⟩ := hrel
    by_cases hlt : j < l.length
    · rcases HR.out.shape with ⟨e, h0⟩ | ⟨g, cap', e, h1, h2, hg⟩
      · omega
      obtain ⟨rfl, rfl⟩ : a = some ⟨g, 0, none⟩ ∧ cap = cap' := by simpa using e
      obtain ⟨k1, k2⟩ := looseCells_at (f := f) hlt
      obtain ⟨gf, caps, hfj⟩ := HF.out j hlt
      have d1 : wr.cell? ⟨g, j * 2, none⟩ = some (.int .i64 (l[j].parts : Int)) := by
        rw [hbl.cell (by exact hg), HR.out.cellAt _ (by omega), Nat.mul_comm, k1]
      have d2 : wr.cell? ⟨g, j * 2 + 1, none⟩ = some (.func (.func gf) #[] caps) := by
        rw [hbl.cell (by exact hg), HR.out.cellAt _ (by omega), Nat.mul_comm, k2, hfj]
      have e1 := sumParts_take hlt
      have e2 := sumParts_take_le l (j + 1)
      have E1 := Lib.hid e1
      have e3 : sumParts (l.take j) + l[j].parts ≤ 4611686018427387904 := by omega
      clear e1 e2 k1 k2 hfj e
      go_wp2
      go_roundw
      case rel => exact ⟨j + 1, by omega, by go_num, by rw [E1.out]; go_num, (hbl.alloc (by have := hbl.size; omega) _)⟩
      case measure => simp [intOf]; omega
    · go_wp2
      go_ret
      exact ⟨by rw [List.take_of_length_le (by omega)]; rfl, hbl⟩

end Go.Proofs.Ytagjmphmdgklkaa

/- Walks: a loose step more. -/
namespace Go.Proofs.Ytagjmphmdgklkaa
open Go.RowKit

theorem tSteps : Try.prog.underlying 104 = some (.slice 135) := by kernel_rfl
theorem infoStep : (Try.prog.info? 135).map (fun i => (i.zero, i.size, i.bytes)) = some (some (.agg #[.int .i64 0, .nilFunc]), 2, 16) := by kernel_rfl

theorem run_app_step {w : World} {vl : Value} {n : Nat} {xs : List Value} (hr : Row w 135 2 vl n xs) (p fv : Value) (hp : p.oneCell' = true) (hfv : fv.oneCell' = true) (hn : n ≤ 1000000) :
    ∃ g2 n2 c2 w', (Builtin.append_ #[104, 104] 104 #[vl, .slice (some ⟨w.heap.size, 0, none⟩) 1 1]).run Try.prog (w.alloc (.cells #[p, fv] 135)) = .ok (.slice (some ⟨g2, 0, none⟩) n2 c2) w' ∧
      Row w' 135 2 (.slice (some ⟨g2, 0, none⟩) n2 c2) (n + 1) (xs ++ [p, fv]) ∧ w.grownBy w' vl.ownBlock ∧ (∀ k, (Value.slice (some ⟨g2, 0, none⟩) n2 c2).ownBlock = some k → vl.ownBlock = some k ∨ (w.heap.size ≤ k ∧ k < w'.heap.size)) := by
  obtain ⟨i, hi, hz, hsz, hby⟩ := info_parts infoStep
  have hr' : Row (w.alloc (.cells #[p, fv] 135)) 135 2 vl n xs := hr.of_block fun k hk => Below.heap_alloc _ _ _ (hr.lt k hk)
  obtain ⟨v', w', hrun, hrow, hgr, hown⟩ := run_append_row (P := Try.prog) (w.alloc (.cells #[p, fv] 135)) 104 104 135 i _ 2 16 tSteps hi hz hsz hby rfl vl n xs hr'
    ⟨w.heap.size, 0, none⟩ 1 1 [p, fv] rfl (fun j u hu => by
      have := (Blk.made w #[p, fv] 135).cell j
      rw [Addr.add_lit]
      rw [hu] at this; simpa using this) (by intro u hu; simp at hu; rcases hu with rfl | rfl; exact hp; exact hfv) (by unfold maxLen; omega) (by omega) (.inl (by omega))
  rcases hrow.shape with ⟨_, h0⟩ | ⟨g2, c2, e, _⟩
  · omega
  refine ⟨g2, n + 1, c2, w', ?_, ?_, ?_, ?_⟩
  · rw [hrun, e]
  · rw [← e]; exact hrow
  · refine ⟨hgr.os, hgr.tape, hgr.output, ?_, fun k hk hne => ?_⟩
    · have := hgr.size; simp at this; omega
    · rw [hgr.block k (by simp; omega) hne]
      exact Below.heap_alloc _ _ _ hk
  · intro k hk
    rw [← e] at hk
    rcases hown k hk with h5 | h5
    · exact .inl h5
    · exact .inr ⟨by have := h5.1; simp at this; omega, h5.2⟩

set_option maxRecDepth 100000 in
set_option maxHeartbeats 1000000 in
theorem add_walk {w : World} {b : Nat} {p : Int} {g : Nat} {caps : Array Value} (hbw : b < w.heap.size) (eg : ∀ args w, (callFunc g args).run Try.prog w = .ok (.enter g args) w) {n : Nat} {xs : List Value} {vl : Value} {R : World → Prop}
    (hcall : Calls Try.prog g (#[cptr b 3, .int .i64 p] ++ caps) (w.alloc (.cells #[.int .i64 p, .func (.func g) #[] caps] 135)).drew fun e w1 => e = .returned (.tuple #[]) ∧ R w1 ∧
      (∃ cs, Blk w1 b cs ∧ cs[5]? = some vl) ∧ Row w1 135 2 vl n xs ∧ Blk w1 w.heap.size [.int .i64 p, .func (.func g) #[] caps] ∧ vl.ownBlock ≠ some b)
    (hn : n ≤ 1000000) :
    Calls Try.prog 88 #[ptr b, .agg #[.int .i64 p, .func (.func g) #[] caps]] w fun e w' => e = .returned (.tuple #[]) ∧ ∃ w1 vl' w2, R w1 ∧ Row w1 135 2 vl n xs ∧ w' = w2.setCell ⟨b, 5, none⟩ vl' ∧
      Row w2 135 2 vl' (n + 1) (xs ++ [.int .i64 p, .func (.func g) #[] caps]) ∧ w1.grownBy w2 vl.ownBlock ∧ (∀ k, vl'.ownBlock = some k → vl.ownBlock = some k ∨ (w1.heap.size ≤ k ∧ k < w2.heap.size)) := by
  have HC := Lib.hid hcall
  clear hcall
  unfold ptr
  unfold cptr at HC
  go_enter Try.func88, Try.ntmps88
  go_wp2
  refine wp_still_tail 7 (by kernel_rfl) (by kernel_rfl) ?_
  simp only [List.take_succ_cons, List.take_zero, List.drop_succ_cons, List.drop_zero]
  repeat still_step
  refine wpStill_nil ?_
  go_wp2_with (go_at_fn g; refine HC.out.mono ?_; rintro e w1 ⟨rfl, hR, ⟨cs, hb1, hcs⟩, hrow, hbox, hne⟩)
  obtain ⟨g2, n2, c2, w2, hrun, hrow2, hgr, hown⟩ := run_app_step (w := w1.drew) hrow (.int .i64 p) (.func (.func g) #[] caps) rfl rfl hn
  have d5 := (hb1.cell 5).trans hcs
  have q0 := hbox.cell 0
  have q1 := hbox.cell 1
  simp only [List.getElem?_cons_succ, List.getElem?_cons_zero] at q0 q1
  have hl1 := hb1.lt
  have hl2 := hbox.lt
  have hb2 : Blk w2 b cs := hb1.of_block (hgr.block b hb1.lt (fun e => hne e.symm))
  have d6 := (hb2.cell 5).trans hcs
  have f6 := hb2.frozen 5
  have HF := Lib.hid (⟨w1, .slice (some ⟨g2, 0, none⟩) n2 c2, w2, hR, hrow, rfl, hrow2, ⟨hgr.os, hgr.tape, hgr.output, hgr.size, hgr.block⟩, hown⟩ : ∃ w1 vl' w3, R w1 ∧ Row w1 135 2 vl n xs ∧ w2.setCell ⟨b, 5, none⟩ (.slice (some ⟨g2, 0, none⟩) n2 c2) = w3.setCell ⟨b, 5, none⟩ vl' ∧
      Row w3 135 2 vl' (n + 1) (xs ++ [.int .i64 p, .func (.func g) #[] caps]) ∧ w1.grownBy w3 vl.ownBlock ∧ (∀ k, vl'.ownBlock = some k → vl.ownBlock = some k ∨ (w1.heap.size ≤ k ∧ k < w3.heap.size)))
  obtain ⟨av, nv, cv, rfl⟩ := hrow.isSlice
  have hrun' : (Builtin.append_ #[104, 104] 104 #[.slice av nv cv, .slice (some ⟨w1.heap.size, 0, none⟩) 1 1]).run Try.prog (w1.alloc (.cells #[.int .i64 p, .func (.func g) #[] caps] 135)).drew = .ok (.slice (some ⟨g2, 0, none⟩) n2 c2) w2 := hrun
  clear hR hb1 hcs hrow hbox hne hrow2 hgr hown hb2 HC eg hrun
  go_region_law (refine step_append_run rfl _ _ _ _ rfl _ _ _ rfl rfl hrun' ?_)
  all_goals
    go_end0
    exact ⟨rfl, HF.out⟩

end Go.Proofs.Ytagjmphmdgklkaa

/- A loose step more: what becomes of the node. -/
namespace Go.Proofs.Ytagjmphmdgklkaa
open Go.RowKit

theorem flatMap_same {α β : Type} {F G : α → List β} : ∀ {l : List α}, (∀ a ∈ l, F a = G a) → l.flatMap F = l.flatMap G
  | [], _ => rfl
  | a :: l, h => by rw [List.flatMap_cons, List.flatMap_cons, h a (by simp), flatMap_same fun x hx => h x (by simp [hx])]

theorem looseCells_snoc (l : List St) (f : Nat → Value) (st : St) (fv : Value) : looseCells (l ++ [st]) (fun j => if j = l.length then fv else f j) = looseCells l f ++ [.int .i64 (st.parts : Int), fv] := by
  unfold looseCells
  simp only [List.length_append, List.length_cons, List.length_nil, Nat.zero_add, List.range_succ, List.flatMap_append, List.flatMap_cons, List.flatMap_nil, List.append_nil]
  congr 1
  · refine flatMap_same fun j hj => ?_
    have hj := List.mem_range.1 hj
    rw [if_neg (by omega)]
    have e1 : (l ++ [st]).getD j (.cut 0) = l.getD j (.cut 0) := by
      rw [List.getD_eq_getElem?_getD, List.getD_eq_getElem?_getD, List.getElem?_append_left hj]
    rw [e1]
  · simp

open Classical in
theorem node_add {w : World} {b : Nat} {N : Nd} {P : Nat → Prop} (h : NodeAt w b N P) (hP : ∀ k, P k → k < w.heap.size) {fv : Value} {st : St} {Qs : Nat → Prop} (hs : StepVal w fv st Qs) (hfit : st.fits N.dir = true) (hok : st.ok N.seen)
    (hQP : ∀ x, Qs x → ¬ P x) (hQs : ∀ x, Qs x → x < w.heap.size) (hlen : N.loose.length ≤ 1000000) (hpos : 0 < st.parts) :
    Calls Try.prog 88 #[ptr b, .agg #[.int .i64 (st.parts : Int), fv]] w fun e w' => e = .returned (.tuple #[]) ∧
      NodeAt w' b { N with seen := st.act st.parts N.seen, loose := N.loose ++ [st] } (fun k => grow P w w' k ∨ Qs k) ∧ Keeps w w' P := by
  obtain ⟨vsb, vsm, veb, vem, vl, f, t, h1, h2, h3, h4, h5, h6, h7, h8, h9, h10⟩ := h
  obtain ⟨g, caps, rfl⟩ := hs.isFunc
  have hbP : P b := h10 b (by omega)
  have tlt : ∀ k, t k ≠ 0 → k < w.heap.size := fun k hk => hP k (h10 k hk)
  -- the world behind the parameter's box and the draw
  have al : ∀ k, k < w.heap.size → (w.alloc (.cells #[.int .i64 (st.parts : Int), .func (.func g) #[] caps] 135)).drew.heap[k]? = w.heap[k]? := fun k hk => Below.heap_alloc _ _ _ hk
  have asz : (w.alloc (.cells #[.int .i64 (st.parts : Int), .func (.func g) #[] caps] 135)).drew.heap.size = w.heap.size + 1 := by simp
  have box : Blk (w.alloc (.cells #[.int .i64 (st.parts : Int), .func (.func g) #[] caps] 135)).drew w.heap.size [.int .i64 (st.parts : Int), .func (.func g) #[] caps] := Blk.made w _ _
  generalize hW1 : (w.alloc (.cells #[.int .i64 (st.parts : Int), .func (.func g) #[] caps] 135)).drew = W1 at al asz box
  have sm : ∀ Q : Nat → Prop, (∀ k, Q k → k < w.heap.size) → Same w W1 Q := fun Q _ k hk _ => al k hk
  have stag : ∀ n, n ≠ 0 → Same w W1 (fun k => t k = n) := fun n hn => sm _ (fun k hk => tlt k (by omega))
  have H5 := h5.same (stag 4 (by omega))
  have H6 := h6.same (stag 5 (by omega))
  have H7 := h7.same (stag 6 (by omega)) h8
  have H1 : Blk W1 b [.bool N.dir, vsb, vsm, veb, vem, vl] := h1.of_block (al b h1.lt)
  have hc : ContAt W1 b 3 [.bool N.dir, vsb, vsm, veb, vem, vl] veb vem N.dir N.seen (fun k => t k = 4) (fun k => t k = 5) :=
    ⟨H1, rfl, rfl, H5.row, H5.inQ, H6, by simp [h2], by simp [h2], fun x a b => by omega, H5.nilD⟩
  have hs1 : StepVal W1 (.func (.func g) #[] caps) st Qs := hs.same (sm Qs hQs)
  obtain ⟨g', caps', e0, eg, hcall⟩ := do_step hc hs1 hfit hok (fun q => hQP _ q hbP) (fun x q e => hQP x q (h10 x (by omega))) (fun x q e => hQP x q (h10 x (by omega))) st.parts (Nat.le_refl _) hpos
  simp only [Value.func.injEq, Fn.func.injEq] at e0
  obtain ⟨rfl, _, rfl⟩ := e0
  have vl6 : ∀ k, vl.ownBlock = some k → t k = 6 := h8
  refine (add_walk (w := w) (b := b) (p := (st.parts : Int)) (vl := vl) (n := N.loose.length) (xs := looseCells N.loose f) h1.lt eg
    (R := fun w1 => ∃ vb', Done W1 w1 b 3 [.bool N.dir, vsb, vsm, veb, vem, vl] vem N.dir (st.act st.parts N.seen) (fun k => t k = 4) (fun k => t k = 5) vb') ?_ hlen).mono ?_
  · rw [hW1]
    refine hcall.mono ?_
    rintro e w1 ⟨rfl, vb', D⟩
    refine ⟨rfl, ⟨vb', D⟩, ⟨_, D.blk, rfl⟩, ?_, ?_, ?_⟩
    · exact D.keeps.row H7 (fun k hk hx => by
        have := vl6 k hk
        rcases hx with rfl | hx | hx <;> omega)
    · refine D.keeps.blk box (fun hx => ?_)
      rcases hx with hx | hx | hx
      · have := h1.lt; omega
      · have := tlt _ (by omega : t w.heap.size ≠ 0); omega
      · have := tlt _ (by omega : t w.heap.size ≠ 0); omega
    · intro e
      have := vl6 b e
      omega
  · rintro e w' ⟨rfl, w1, vl', w2, ⟨vb', D⟩, hrow1, rfl, hrow2, hgr, hown⟩
    have s01 : w.heap.size ≤ w1.heap.size := by have := D.keeps.size; omega
    have s12 := hgr.size
    have ssz : (w2.setCell ⟨b, 5, none⟩ vl').heap.size = w2.heap.size := by simp [World.setCell]
    have hbw1 : b < w1.heap.size := by have := h1.lt; omega
    -- what is as it was in w1
    have o1 : ∀ k, k < w1.heap.size → k ≠ b → vl.ownBlock ≠ some k → (w2.setCell ⟨b, 5, none⟩ vl').heap[k]? = w1.heap[k]? := fun k hk hkb hkv => by
      rw [Below.heap_setCell _ _ _ _ hkb, hgr.block k hk (fun e => hkv e.symm)]
    have o0 : ∀ k, k < w.heap.size → k ≠ b → t k ≠ 4 → t k ≠ 5 → t k ≠ 6 → (w2.setCell ⟨b, 5, none⟩ vl').heap[k]? = w.heap[k]? := fun k hk hkb k4 k5 k6 => by
      rw [o1 k (by omega) hkb (fun e => k6 (vl6 k e)), D.keeps.block k (by omega) (fun hx => by rcases hx with hx | hx | hx; exact hkb hx; exact k4 hx; exact k5 hx), al k hk]
    have so : ∀ n, n ≠ 0 → n ≠ 1 → n ≠ 4 → n ≠ 5 → n ≠ 6 → Same w (w2.setCell ⟨b, 5, none⟩ vl') (fun k => t k = n) := fun n _ n1 n4 n5 n6 k hk e => o0 k hk (fun x => n1 (by rw [← e, x, h2])) (by omega) (by omega) (by omega)
    have hbl2 : Blk w2 b [.bool N.dir, vsb, vsm, vb', vem, vl] := D.blk.of_block (hgr.block b hbw1 (fun e => by have := vl6 b e.symm; omega))
    have hbl3 : Blk (w2.setCell ⟨b, 5, none⟩ vl') b [.bool N.dir, vsb, vsm, vb', vem, vl'] := hbl2.set 5 vl'
    have vb4 : ∀ k, vb'.ownBlock = some k → k < w1.heap.size ∧ (t k = 4 ∨ w.heap.size ≤ k) := fun k hk => ⟨D.row.lt k hk, by
      rcases D.inB k hk with h | h
      · exact .inl h
      · exact .inr (by omega)⟩
    have vl'lt : ∀ k, vl'.ownBlock = some k → k ≠ b := fun k hk e => by
      rcases hown k hk with h | h
      · have := vl6 k h; rw [e] at this; omega
      · omega
    refine ⟨rfl, ⟨vsb, vsm, vb', vem, vl', (fun j => if j = N.loose.length then .func (.func g) #[] caps else f j),
      (fun k => if k < w.heap.size then (if Qs k then N.loose.length + 7 else t k) else if k < w1.heap.size then 4 else if k < w2.heap.size then 6 else 0), hbl3, ?_, ?_, ?_, ?_, ?_, ?_, ?_, ?_, ?_⟩, ?_⟩
    · simp only []
      rw [if_pos h1.lt, if_neg (fun q => hQP b q hbP)]
      exact h2
    · have := h3.same (so 2 (by omega) (by omega) (by omega) (by omega) (by omega))
      refine this.row.of_block (fun _ _ => rfl) |> fun r => ⟨r, fun k hk => ?_, this.nilD⟩
      have hk2 := this.inQ k hk
      simp only []
      rw [if_pos (tlt k (by omega)), if_neg (fun q => hQP k q (h10 k (by omega)))]
      exact hk2
    · refine (h4.same (so 3 (by omega) (by omega) (by omega) (by omega) (by omega))).mono (fun k hk => ?_)
      simp only []
      rw [if_pos (tlt k (by omega)), if_neg (fun q => hQP k q (h10 k (by omega)))]
      exact hk
    · refine ⟨D.row.of_block fun k hk => ?_, fun k hk => ?_, D.nilD⟩
      · obtain ⟨hlt, h4'⟩ := vb4 k hk
        refine o1 k hlt (fun e => ?_) (fun e => ?_)
        · subst e
          have := h1.lt
          omega
        · have := vl6 k e
          have := tlt k (by omega)
          omega
      · obtain ⟨hlt, h4'⟩ := vb4 k hk
        simp only []
        rcases h4' with h4' | h4'
        · rw [if_pos (tlt k (by omega)), if_neg (fun q => hQP k q (h10 k (by omega)))]
          exact h4'
        · rw [if_neg (by omega), if_pos hlt]
    · have hE : EntsAt (w2.setCell ⟨b, 5, none⟩ vl') N.dir vem (st.act st.parts N.seen).ents (fun k => t k = 5) := by
        refine D.ents.same (fun k hk e => o1 k hk (fun x => by rw [x] at e; omega) (fun x => by have := vl6 k x; omega))
      refine hE.mono (fun k hk => ?_)
      simp only []
      rw [if_pos (tlt k (by omega)), if_neg (fun q => hQP k q (h10 k (by omega)))]
      exact hk
    · have e1 : (N.loose ++ [st]).length = N.loose.length + 1 := by simp
      simp only []
      rw [e1, looseCells_snoc]
      exact hrow2.of_block fun k hk => Below.heap_setCell _ _ _ _ (vl'lt k hk)
    · intro k hk
      simp only []
      rcases hown k hk with h | h
      · have := vl6 k h
        rw [if_pos (tlt k (by omega)), if_neg (fun q => hQP k q (h10 k (by omega)))]
        exact this
      · rw [if_neg (by omega), if_neg (by omega), if_pos h.2]
    · intro j hj
      simp only [List.length_append, List.length_cons, List.length_nil, Nat.zero_add] at hj
      by_cases hjl : j = N.loose.length
      · subst hjl
        simp only [if_true]
        have e2 : (N.loose ++ [st])[N.loose.length] = st := by simp
        rw [e2]
        refine ⟨(hs.same (w' := w2.setCell ⟨b, 5, none⟩ vl') (fun k hk q => ?_)).mono (fun k q => ?_), hfit⟩
        · have hnP := hQP k q
          exact o0 k hk (fun e => hnP (e ▸ hbP)) (fun e => hnP (h10 k (by omega))) (fun e => hnP (h10 k (by omega))) (fun e => hnP (h10 k (by omega)))
        · rw [if_pos (hQs k q), if_pos q]
      · have hj' : j < N.loose.length := by omega
        simp only []
        rw [if_neg hjl]
        have e2 : (N.loose ++ [st])[j] = N.loose[j] := by rw [List.getElem_append_left]
        rw [e2]
        refine ⟨((h9 j hj').1.same (so (j + 7) (by omega) (by omega) (by omega) (by omega) (by omega))).mono (fun k hk => ?_), (h9 j hj').2⟩
        rw [if_pos (tlt k (by omega)), if_neg (fun q => hQP k q (h10 k (by omega)))]
        exact hk
    · intro k hk
      simp only [] at hk
      by_cases hk1 : k < w.heap.size
      · rw [if_pos hk1] at hk
        by_cases hq : Qs k
        · exact .inr hq
        · rw [if_neg hq] at hk
          exact .inl (.inl (h10 k hk))
      · rw [if_neg hk1] at hk
        refine .inl (.inr ⟨by omega, ?_⟩)
        rw [ssz]
        by_cases hk2 : k < w1.heap.size
        · omega
        · rw [if_neg hk2] at hk
          by_cases hk3 : k < w2.heap.size
          · exact hk3
          · rw [if_neg hk3] at hk; exact absurd rfl hk
    · have d := D.keeps
      refine ⟨?_, ?_, ?_, by rw [ssz]; omega, fun k hk hp => ?_⟩
      · exact hgr.os.trans (d.os.trans (by rw [← hW1]; rfl))
      · exact hgr.tape.trans (d.tape.trans (by rw [← hW1]; rfl))
      · exact hgr.output.trans (d.output.trans (by rw [← hW1]; rfl))
      · exact o0 k hk (fun e => hp (e ▸ hbP)) (fun e => hp (h10 k (by omega))) (fun e => hp (h10 k (by omega))) (fun e => hp (h10 k (by omega)))

end Go.Proofs.Ytagjmphmdgklkaa

/- Walks: a node's crash. -/
namespace Go.Proofs.Ytagjmphmdgklkaa
open Go.RowKit

def full (l : List St) (c : Cont) : Cont := l.foldl (fun c s => s.act s.parts c) c

structure NOK (N : Nd) : Prop where
  seen : N.seen = full N.loose N.safe
  steps : ∀ j (h : j < N.loose.length), N.loose[j].ok (full (N.loose.take j) N.safe) ∧ 0 < N.loose[j].parts
  safeLen : N.safe.bytes.length ≤ 140737488355328
  seenLen : N.seen.bytes.length ≤ 140737488355328
  sum : sumParts N.loose ≤ 4611686018427387904
  len : N.loose.length ≤ 1000000

def replay : List St → Int → Cont → Cont
  | [], _, c => c
  | s :: r, k, c => if k ≤ 0 then c else replay r (k - s.parts) (s.act (min k s.parts).toNat c)

/-- the content's copy in the middle of a crash -/
structure CrI (w wr : World) (cb : Nat) (dir : Bool) (c : Cont) (vb vm : Value) : Prop where
  below : Below w.heap.size w wr
  blk : Blk wr cb [vb, vm]
  bytes : BytesAt wr dir vb c.bytes (fun x => w.heap.size ≤ x ∧ x ≠ cb)
  ents : EntsAt wr dir vm c.ents (fun x => w.heap.size ≤ x ∧ x ≠ cb)
  ge : w.heap.size ≤ cb

theorem CrI.alloc {w wr : World} {cb : Nat} {dir : Bool} {c : Cont} {vb vm : Value} (h : CrI w wr cb dir c vb vm) (o : Obj) : CrI w (wr.alloc o) cb dir c vb vm :=
  have hs : ∀ Q : Nat → Prop, Same wr (wr.alloc o) Q := fun Q k hk _ => Below.heap_alloc _ _ _ hk
  ⟨h.below.alloc (by have := h.below.size; omega) o, h.blk.of_block (Below.heap_alloc _ _ _ h.blk.lt), h.bytes.same (hs _), h.ents.same (hs _), h.ge⟩

theorem EntsAt.exact {w : World} {dir : Bool} {v : Value} {m : Ents} {Q : Nat → Prop} (h : EntsAt w dir v m Q) : EntsAt w dir v m (fun x => v = .map (some x)) := by
  unfold EntsAt at *
  split at h <;> rename_i hd
  · rw [if_pos hd]
    obtain ⟨b, h1, h2, h3⟩ := h
    exact ⟨b, h1, h1, h3⟩
  · rw [if_neg hd]; exact h

/-- a step done to the copy -/
theorem CrI.step {w wr : World} {cb : Nat} {dir : Bool} {c : Cont} {vb vm : Value} (h : CrI w wr cb dir c vb vm) {fv : Value} {st : St} {Qs : Nat → Prop} (hs : StepVal w fv st Qs) (hQ : ∀ x, Qs x → x < w.heap.size)
    (hfit : st.fits dir = true) (hok : st.ok c) (k : Nat) (hk : k ≤ st.parts) (hk0 : 0 < k) :
    ∃ g caps, fv = .func (.func g) #[] caps ∧ Enter g ∧ Calls Try.prog g (#[cptr cb 0, .int .i64 (k : Int)] ++ caps) wr fun e w' => e = .returned (.tuple #[]) ∧ (∃ vb', CrI w w' cb dir (st.act k c) vb' vm) ∧ Keeps wr w' (fun x => x = cb ∨ vb.ownBlock = some x ∨ vm = .map (some x)) := by
  have hs1 : StepVal wr fv st Qs := hs.same (fun x hx q => h.below.block x (hQ x q))
  have hmx : ∀ x, vm = .map (some x) → w.heap.size ≤ x ∧ x ≠ cb := fun x hx => by
    have := h.ents
    unfold EntsAt at this
    split at this
    · obtain ⟨b, h1, h2, h3⟩ := this
      rw [h1] at hx
      simp at hx
      subst hx
      exact h2
    · rw [this.1] at hx; simp at hx
  have hc : ContAt wr cb 0 [vb, vm] vb vm dir c (fun x => vb.ownBlock = some x) (fun x => vm = .map (some x)) :=
    ⟨h.blk, rfl, rfl, h.bytes.row, fun k hk => hk, h.ents.exact, fun e => (h.bytes.inQ _ e).2 rfl, fun e => (hmx _ e).2 rfl, fun x e1 e2 => by
      cases dir with
      | true => rw [h.bytes.nilD rfl] at e1; simp [Value.ownBlock] at e1
      | false =>
        have := h.ents
        simp only [EntsAt, Bool.false_eq_true, if_false] at this
        rw [this.1] at e2
        simp at e2, h.bytes.nilD⟩
  obtain ⟨g, caps, e0, eg, hcall⟩ := do_step hc hs1 hfit hok (fun q => by have := hQ _ q; have := h.ge; omega) (fun x q e => by have := hQ x q; have := (h.bytes.inQ x e).1; omega)
    (fun x q e => by have := hQ x q; have := (hmx x e).1; omega) k hk hk0
  refine ⟨g, caps, e0, eg, hcall.mono ?_⟩
  rintro e w' ⟨rfl, vb', D⟩
  have dk := D.keeps
  have hsz := h.below.size
  have ge : ∀ x, x = cb ∨ vb.ownBlock = some x ∨ vm = .map (some x) → w.heap.size ≤ x := fun x hx => by
    rcases hx with rfl | hx | hx
    · exact h.ge
    · exact (h.bytes.inQ x hx).1
    · exact (hmx x hx).1
  refine ⟨rfl, ⟨vb', ⟨h.below.trans ⟨dk.os, dk.tape, dk.output, dk.size, fun k hk => dk.block k (by omega) (fun hx => by have := ge k hx; omega)⟩, D.blk, ⟨D.row, fun x hx => ?_, D.nilD⟩, D.ents.mono hmx, h.ge⟩⟩, dk⟩
  rcases D.inB x hx with hx | hx
  · exact h.bytes.inQ x hx
  · have := h.blk.lt
    exact ⟨by omega, by omega⟩

theorem full_take {l : List St} {c : Cont} {j : Nat} (h : j < l.length) : full (l.take (j + 1)) c = l[j].act l[j].parts (full (l.take j) c) := by
  unfold full
  rw [List.take_succ_eq_append_getElem h, List.foldl_append]
  rfl

theorem replay_drop {l : List St} {k : Int} {c : Cont} {j : Nat} (h : j < l.length) : replay (l.drop j) k c = if k ≤ 0 then c else replay (l.drop (j + 1)) (k - l[j].parts) (l[j].act (min k l[j].parts).toNat c) := by
  rw [List.drop_eq_getElem_cons h]
  rfl
theorem replay_zero : ∀ (l : List St) (k : Int) (c : Cont), k ≤ 0 → replay l k c = c
  | [], _, _, _ => rfl
  | s :: r, k, c, h => by simp [replay, h]

theorem box_kept {w wr w2 : World} {cb : Nat} {dir : Bool} {c : Cont} {vb vm : Value} (h : CrI w wr cb dir c vb vm) {o : Array Value} {T : TypeId} (hk : Keeps (wr.alloc (.cells o T)) w2 (fun x => x = cb ∨ vb.ownBlock = some x ∨ vm = .map (some x))) :
    Blk w2 wr.heap.size o.toList := by
  refine hk.blk (Blk.made wr o T) (fun hx => ?_)
  rcases hx with hx | hx | hx
  · have := h.blk.lt; omega
  · have := h.bytes.row.lt _ hx; omega
  · have := h.ents
    unfold EntsAt at this
    split at this
    · obtain ⟨b, h1, h2, h3⟩ := this
      rw [h1] at hx
      simp at hx
      have := h3.lt
      omega
    · rw [this.1] at hx; simp at hx

theorem replay_next {l : List St} {k' : Int} {c c0 : Cont} {j : Nat} (hj : j < l.length) (hpos : 0 < k') (hc : c = full (l.take j) c0 ∨ k' ≤ 0) :
    replay (l.drop j) k' c = replay (l.drop (j + 1)) (k' - l[j].parts) (l[j].act (min k' l[j].parts).toNat c) ∧
    (l[j].act (min k' l[j].parts).toNat c = full (l.take (j + 1)) c0 ∨ k' - l[j].parts ≤ 0) := by
  refine ⟨by rw [replay_drop hj, if_neg (by omega)], ?_⟩
  by_cases h : k' - l[j].parts ≤ 0
  · exact .inr h
  · refine .inl ?_
    rw [full_take hj]
    have e : (min k' l[j].parts).toNat = l[j].parts := by omega
    rw [e, hc.resolve_right (by omega)]

set_option maxRecDepth 100000 in
set_option maxHeartbeats 1000000 in
theorem crash_walk {w : World} {b : Nat} {v0 v1 v2 v3 v4 v5 : Value} (hb : Blk w b [v0, v1, v2, v3, v4, v5]) {l : List St} {f : Nat → Value} (hr : Row w 135 2 v5 l.length (looseCells l f))
    {dir : Bool} {c0 : Cont} (k : Int) (hk : k ≤ 4611686018427387904) (hk' : 0 ≤ k) (hs : sumParts l ≤ 4611686018427387904)
    (hc : Calls Try.prog 117 #[.agg #[v1, v2]] w fun e w' => ∃ a n k r, e = .returned (.agg #[.slice a n k, .map r]) ∧ BytesAt w' dir (.slice a n k) c0.bytes (fresh w w') ∧ EntsAt w' dir (.map r) c0.ents (fresh w w') ∧ Below w.heap.size w w')
    (hstep : ∀ j (hj : j < l.length) (wr : World) (cb : Nat) (vb vm : Value), CrI w wr cb dir (full (l.take j) c0) vb vm → ∀ kk : Nat, 0 < kk → kk ≤ l[j].parts → ∃ g caps, f j = .func (.func g) #[] caps ∧ Enter g ∧
      Calls Try.prog g (#[cptr cb 0, .int .i64 (kk : Int)] ++ caps) wr fun e w' => e = .returned (.tuple #[]) ∧ (∃ vb', CrI w w' cb dir (l[j].act kk (full (l.take j) c0)) vb' vm) ∧ Keeps wr w' (fun x => x = cb ∨ vb.ownBlock = some x ∨ vm = .map (some x)))
    (hpos : ∀ j (hj : j < l.length), 0 < l[j].parts) (hf : ∀ j, j < l.length → ∃ g caps, f j = .func (.func g) #[] caps)
    {R : World → Prop} (hsync : ∀ (wr : World) (cb : Nat) (vb vm : Value), CrI w wr cb dir (replay l k c0) vb vm → Calls Try.prog 91 #[ptr b] ((wr.setCell ⟨b, 3, none⟩ vb).setCell ⟨b, 4, none⟩ vm) fun e w' => e = .returned (.tuple #[]) ∧ R w') :
    Calls Try.prog 81 #[ptr b, .int .i64 k] w fun e w' => e = .returned (.tuple #[]) ∧ R w' := by
  have c1 : w.cell? ⟨b, 1, none⟩ = some v1 := hb.cell 1
  have c2 : w.cell? ⟨b, 2, none⟩ = some v2 := hb.cell 2
  have c5 : w.cell? ⟨b, 5, none⟩ = some v5 := hb.cell 5
  have HB := Lib.hid hb
  have HC := Lib.hid hc
  have HR := Lib.hid hr
  have HS := Lib.hid hstep
  have HP := Lib.hid hpos
  have HY := Lib.hid hsync
  have HFN := Lib.hid hf
  obtain ⟨a5, n5, cap5, hv, hn, hcap⟩ : ∃ a n cap, v5 = .slice a n cap ∧ n = l.length ∧ n ≤ maxLen := by
    rcases hr.shape with ⟨e, h0⟩ | ⟨g, cap, e, h1, h2, _⟩
    · exact ⟨_, _, _, e, h0.symm, by simp [maxLen]⟩
    · exact ⟨_, _, _, e, rfl, by omega⟩
  subst hv
  subst hn
  unfold maxLen at hcap
  clear hb hc hr hstep hpos hsync hf
  unfold ptr at HY ⊢
  go_enter Try.func81, Try.ntmps81
  go_wp2_with (go_at_call 117; refine HC.out.mono ?_; rintro e w1 ⟨a, n, kk, r, rfl, hq1, hq2, hbl⟩; have hb1 := HB.out.of_block (hbl.block b HB.out.lt); have d5 := hb1.cell 5; have bl := hb1.lt; simp only [List.getElem?_cons_succ, List.getElem?_cons_zero] at d5; have Q1 := Lib.hid hq1; have Q2 := Lib.hid hq2; have HBL := Lib.hid hbl; clear hq1 hq2 hbl hb1)
  have HI : Hid (CrI w (w1.alloc (.cells #[.slice a n kk, .map r] 103)) w1.heap.size dir c0 (.slice a n kk) (.map r)) := by
    have hbl := HBL.out
    refine ⟨hbl.alloc (by have := hbl.size; omega) _, Blk.made _ _ _, ?_, ?_, hbl.size⟩
    · exact (Q1.out.same (fun k hk _ => Below.heap_alloc _ _ _ hk)).mono (fun x hx => ⟨hx.1, by have := hx.2; omega⟩)
    · exact (Q2.out.same (fun k hk _ => Below.heap_alloc _ _ _ hk)).mono (fun x hx => ⟨hx.1, by have := hx.2; omega⟩)
  clear Q1 Q2 HBL d5 bl
  generalize hcb : w1.heap.size = cb at *
  go_loopw [1, 17] (fun kv i wr => ∃ (j : Nat) (k' : Int) (vb : Value) (c : Cont), j ≤ l.length ∧ i = .int .i64 j ∧ kv = .int .i64 k' ∧ CrI w wr cb dir c vb (.map r) ∧ replay (l.drop j) k' c = replay l k c0 ∧ (c = full (l.take j) c0 ∨ k' ≤ 0) ∧ k' ≤ k ∧ k - sumParts (l.take j) ≤ k')
    (fun _ i _ => l.length - (intOf i).toNat)
  case atStart => exact ⟨0, k, _, c0, Nat.zero_le _, rfl, rfl, HI.out, rfl, .inl rfl, by omega, by simp [sumParts]⟩
  case round =>
    obtain ⟨j, k', vb, c, hj, rfl, rfl, hI, hrep, hfull, hk1, hk2⟩ := hrel
    obtain ⟨va, vn, vc, rfl⟩ := hI.bytes.row.isSlice
    have hbw := HB.out.of_block (hI.below.block b HB.out.lt)
    have x0 := hI.blk.cell 0
    have x1 := hI.blk.cell 1
    have y3 := hbw.cell 3
    have y4 := hbw.cell 4
    have z3 := hbw.frozen 3
    have z4 := hbw.frozen 4
    have l1 := hI.blk.lt
    have l2 := hbw.lt
    simp only [List.getElem?_cons_succ, List.getElem?_cons_zero] at x0 x1 y3 y4
    have HI2 := Lib.hid hI
    clear hI hbw
    by_cases hlt : j < l.length
    · rcases HR.out.shape with ⟨e, h0⟩ | ⟨g, cap', e, h1, h2, hg⟩
      · omega
      obtain ⟨rfl, rfl⟩ : a5 = some ⟨g, 0, none⟩ ∧ cap5 = cap' := by simpa using e
      obtain ⟨k1, k2⟩ := looseCells_at (f := f) hlt
      obtain ⟨gf, caps, hfj⟩ : ∃ g caps, f j = .func (.func g) #[] caps := HFN.out j hlt
      have d1 : wr.cell? ⟨g, j * 2, none⟩ = some (.int .i64 (l[j].parts : Int)) := by
        rw [HI2.out.below.cell (by exact hg), HR.out.cellAt _ (by omega), Nat.mul_comm, k1]
      have d2 : wr.cell? ⟨g, j * 2 + 1, none⟩ = some (.func (.func gf) #[] caps) := by
        rw [HI2.out.below.cell (by exact hg), HR.out.cellAt _ (by omega), Nat.mul_comm, k2, hfj]
      clear k1 k2 e
      have e1 := sumParts_take hlt
      have e2 := sumParts_take_le l (j + 1)
      have E1 := Lib.hid e1
      have HFJ := Lib.hid hfj
      have HREP := Lib.hid hrep
      have HFULL := Lib.hid hfull
      have e3 : sumParts (l.take j) + l[j].parts ≤ 4611686018427387904 := by omega
      clear e1 e2 hfj hrep hfull
      by_cases hkp : k' ≤ 0
      · have hfin : Hid (CrI w (wr.alloc (.cells #[.int .i64 (l[j].parts : Int), .func (.func gf) #[] caps] 135)) cb dir (replay l k c0) (.slice va vn vc) (.map r)) := by
          have := HREP.out
          rw [replay_zero _ _ _ hkp] at this
          rw [← this]
          exact HI2.out.alloc _
        have hy := HY.out _ _ _ _ hfin.out
        rw [World.setCell_alloc_past _ _ _ _ l2, World.setCell_alloc_past _ _ _ _ (by simpa [World.setCell] using l2)] at hy
        have HYY := Lib.hid hy
        clear hy
        go_wp2_with (go_at_call 91; refine HYY.out.mono ?_; rintro e w' ⟨rfl, hR⟩)
        go_end0
        exact ⟨rfl, hR⟩
      · have hcc : c = full (l.take j) c0 := HFULL.out.resolve_right hkp
        subst hcc
        obtain ⟨r1, r2⟩ := replay_next hlt (by omega) HFULL.out
        obtain ⟨kk, rfl⟩ : ∃ kk : Nat, k' = kk := ⟨k'.toNat, by omega⟩
        have hp := HP.out j hlt
        by_cases hmin : kk ≤ l[j].parts
        · have em : (min (kk : Int) (l[j].parts : Int)).toNat = kk := by omega
          rw [em] at r1 r2
          obtain ⟨g2, caps2, f2, eg, hcall⟩ := HS.out j hlt _ cb _ _ (HI2.out.alloc (.cells #[.int .i64 (l[j].parts : Int), .func (.func gf) #[] caps] 135)) kk (by omega) hmin
          obtain ⟨rfl, rfl⟩ : gf = g2 ∧ caps = caps2 := by have := HFJ.out.symm.trans f2; simpa using this
          have eg' : ∀ args w, (callFunc gf args).run Try.prog w = .ok (.enter gf args) w := eg
          have R1 := Lib.hid (r1.symm.trans HREP.out)
          have R2 := Lib.hid r2
          have HCALL := Lib.hid hcall
          unfold cptr at HCALL
          clear r1 r2 hcall f2 eg em
          go_wp2_with (go_at_fn gf; refine HCALL.out.mono ?_; rintro e w2 ⟨rfl, ⟨vb', hI3⟩, hkeep⟩; have hx0 := (box_kept HI2.out hkeep).cell 0; simp only [List.getElem?_cons_zero] at hx0; have HI3 := Lib.hid hI3; clear hI3 hkeep)
          go_roundw
          case rel => exact ⟨j + 1, _, _, _, by omega, by go_num, by go_num, HI3.out, R1.out, R2.out, by omega, by rw [E1.out]; omega⟩
          case measure => simp [intOf]; omega
        · have em : (min (kk : Int) (l[j].parts : Int)).toNat = l[j].parts := by omega
          rw [em] at r1 r2
          obtain ⟨g2, caps2, f2, eg, hcall⟩ := HS.out j hlt _ cb _ _ (HI2.out.alloc (.cells #[.int .i64 (l[j].parts : Int), .func (.func gf) #[] caps] 135)) l[j].parts (by omega) (Nat.le_refl _)
          obtain ⟨rfl, rfl⟩ : gf = g2 ∧ caps = caps2 := by have := HFJ.out.symm.trans f2; simpa using this
          have eg' : ∀ args w, (callFunc gf args).run Try.prog w = .ok (.enter gf args) w := eg
          have R1 := Lib.hid (r1.symm.trans HREP.out)
          have R2 := Lib.hid r2
          have HCALL := Lib.hid hcall
          unfold cptr at HCALL
          clear r1 r2 hcall f2 eg em
          go_wp2_with (go_at_fn gf; refine HCALL.out.mono ?_; rintro e w2 ⟨rfl, ⟨vb', hI3⟩, hkeep⟩; have hx0 := (box_kept HI2.out hkeep).cell 0; simp only [List.getElem?_cons_zero] at hx0; have HI3 := Lib.hid hI3; clear hI3 hkeep)
          go_roundw
          case rel => exact ⟨j + 1, _, _, _, by omega, by go_num, by go_num, HI3.out, R1.out, R2.out, by omega, by rw [E1.out]; omega⟩
          case measure => simp [intOf]; omega
    · have hfin : Hid (CrI w wr cb dir (replay l k c0) (.slice va vn vc) (.map r)) := by
        rw [← hrep, List.drop_eq_nil_of_le (by omega)]
        exact HI2.out
      clear hrep hfull
      go_wp2_with (go_at_call 91; refine (HY.out _ _ _ _ hfin.out).mono ?_; rintro e w' ⟨rfl, hR⟩)
      go_end0
      exact ⟨rfl, hR⟩

theorem node_crash {w : World} {b : Nat} {N : Nd} {P : Nat → Prop} (h : NodeAt w b N P) (hP : ∀ k, P k → k < w.heap.size) (hok : NOK N) (k : Int) (hk : k ≤ 4611686018427387904) (hk' : 0 ≤ k)
    (hbd : (replay N.loose k N.safe).bytes.length ≤ 140737488355328) :
    Calls Try.prog 81 #[ptr b, .int .i64 k] w fun e w' => e = .returned (.tuple #[]) ∧
      NodeAt w' b { N with safe := replay N.loose k N.safe, seen := replay N.loose k N.safe, loose := [] } (grow P w w') ∧ Keeps w w' P := by
  obtain ⟨vsb, vsm, veb, vem, vl, f, t, h1, h2, h3, h4, h5, h6, h7, h8, h9, h10⟩ := h
  have tlt : ∀ k, t k ≠ 0 → k < w.heap.size := fun k hk => hP k (h10 k hk)
  have hbP : P b := h10 b (by omega)
  refine crash_walk (c0 := N.safe) (dir := N.dir) h1 h7 k hk hk' hok.sum (content_clone h3 h4 hok.safeLen) ?_ (fun j hj => (hok.steps j hj).2) (fun j hj => (h9 j hj).1.isFunc) ?_
  · intro j hj wr cb vb vm hI kk hkk0 hkk
    exact hI.step (h9 j hj).1 (fun x hx => tlt x (by omega)) (h9 j hj).2 (hok.steps j hj).1 kk hkk hkk0
  · intro wr cb vb vm hI
    have hsz := hI.below.size
    have hb1 : Blk wr b [.bool N.dir, vsb, vsm, veb, vem, vl] := h1.of_block (hI.below.block b h1.lt)
    have hb2 : Blk ((wr.setCell ⟨b, 3, none⟩ vb).setCell ⟨b, 4, none⟩ vm) b [.bool N.dir, vsb, vsm, vb, vm, vl] := (hb1.set 3 vb).set 4 vm
    have oth : ∀ x, x ≠ b → ((wr.setCell ⟨b, 3, none⟩ vb).setCell ⟨b, 4, none⟩ vm).heap[x]? = wr.heap[x]? := fun x hx => by
      rw [Below.heap_setCell _ _ _ _ hx, Below.heap_setCell _ _ _ _ hx]
    have ssz : ((wr.setCell ⟨b, 3, none⟩ vb).setCell ⟨b, 4, none⟩ vm).heap.size = wr.heap.size := by simp [World.setCell]
    have hkeep : Keeps w ((wr.setCell ⟨b, 3, none⟩ vb).setCell ⟨b, 4, none⟩ vm) P := ((Keeps.of_below hI.below P).setCell (.inr hbP) _).setCell (.inr hbP) _
    generalize hW : (wr.setCell ⟨b, 3, none⟩ vb).setCell ⟨b, 4, none⟩ vm = W at *
    have so : ∀ n, n ≠ 0 → n ≠ 1 → Same w W (fun k => t k = n) := fun n n0 n1 k hk e => by
      rw [oth k (fun x => n1 (by rw [← e, x, h2])), hI.below.block k hk]
    have hNW : NodeAt W b { N with seen := replay N.loose k N.safe } (grow P w W) := by
      refine ⟨vsb, vsm, vb, vm, vl, f, fun x => if x < w.heap.size then t x else if x < W.heap.size then (if N.dir then 5 else 4) else 0, hb2, ?_, ?_, ?_, ?_, ?_, ?_, ?_, ?_, ?_⟩
      · simp only []; rw [if_pos h1.lt]; exact h2
      · have := h3.same (so 2 (by omega) (by omega))
        exact ⟨this.row, fun x hx => by have q := this.inQ x hx; simp only []; rw [if_pos (tlt x (by omega))]; exact q, this.nilD⟩
      · exact (h4.same (so 3 (by omega) (by omega))).mono (fun x hx => by simp only []; rw [if_pos (tlt x (by omega))]; exact hx)
      · have hB := hI.bytes
        refine ⟨hB.row.of_block fun x hx => oth x (fun e => ?_), fun x hx => ?_, hB.nilD⟩
        · have := (hB.inQ x hx).1; have := h1.lt; omega
        · have h0 := (hB.inQ x hx).1
          have h00 := hB.row.lt x hx
          simp only []
          rw [if_neg (by omega), if_pos (by omega)]
          cases hd : N.dir with
          | false => rfl
          | true => rw [hB.nilD hd] at hx; simp [Value.ownBlock] at hx
      · have hE := hI.ents
        unfold EntsAt at hE ⊢
        cases hd : N.dir with
        | false => simpa [hd] using hE
        | true =>
          simp only [hd, if_true] at hE ⊢
          obtain ⟨x, e1, hx, hm⟩ := hE
          have hxl := hm.lt
          refine ⟨x, e1, ?_, hm.of_block (oth x (fun e => ?_))⟩
          · rw [if_neg (by omega), if_pos (by omega)]
          · have := hx.1; have := h1.lt; omega
      · exact h7.same (so 6 (by omega) (by omega)) h8
      · intro x hx
        have := h8 x hx
        simp only []
        rw [if_pos (tlt x (by omega))]
        exact this
      · intro j hj
        refine ⟨((h9 j hj).1.same (so (j + 7) (by omega) (by omega))).mono (fun x hx => ?_), (h9 j hj).2⟩
        simp only []
        rw [if_pos (tlt x (by omega))]
        exact hx
      · intro x hx
        simp only [] at hx
        by_cases hx1 : x < w.heap.size
        · rw [if_pos hx1] at hx; exact .inl (h10 x hx)
        · rw [if_neg hx1] at hx
          by_cases hx2 : x < W.heap.size
          · exact .inr ⟨by omega, hx2⟩
          · rw [if_neg hx2] at hx; exact absurd rfl hx
    refine (node_sync hNW hbd).mono ?_
    rintro e w' ⟨rfl, hN, hk2⟩
    refine ⟨rfl, hN.mono (fun x hx => ?_), hkeep.trans hk2 (fun x hx q => ?_)⟩
    · have s1 := hkeep.size
      have s2 := hk2.size
      rcases hx with (hx | hx) | hx
      · exact .inl hx
      · exact .inr ⟨hx.1, by have := hx.2; omega⟩
      · exact .inr ⟨by have := hx.1; omega, hx.2⟩
    · rcases q with q | q
      · exact q
      · have := q.1; omega

end Go.Proofs.Ytagjmphmdgklkaa
