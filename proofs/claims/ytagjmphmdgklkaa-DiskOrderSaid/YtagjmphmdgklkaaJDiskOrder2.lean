/- Parts of the proof, one behind the other: Dsort0 Dsort Dreach Dreach2 Dapp Dapp2 Dapp3 Dcut Dunlink Dunlink2 Dren Dren2 Dloose Dinv Dinv2. -/
import Derived.Test.YtagjmphmdgklkaaJDiskOrder1
import Derived.Shelf.Small.Bits
import Derived.Shelf.Small.Strs
import Derived.Shelf.Strconv.Itoa0
import Derived.Shelf.Strings.Search1
import Derived.Shelf.Sort.Plain
import Derived.Ground.Names2Prog
import Derived.Shelf.Slices.ReverseS
import Derived.Shelf.Slices.Cells
import Derived.Shelf.Slices.In.SortNone
import Derived.Ground.SlsfProg
import Derived.Shelf.SlSortCmp.Insertion
import Derived.Shelf.SlSortCmp.Insertion1
import Derived.Shelf.SlSortCmp.Median1
import Derived.Shelf.SlSortCmp.Pivot1
import Derived.Shelf.SlSortCmp.ReverseRange1
import Derived.Test.YtagjmphmdgklkaaProg
/-
  DERIVED: THE SHELF's CONTRACTS AT THIS DUMP, IN PLAIN WORDS (tools/lay-plain.mjs out of 'TrySlim.lean', which tools/lay-shelf.mjs wrote): THE SAME DECLARATIONS UNDER THE SAME NAMES: 'import', 'namespace', 'open', 'def', 'theorem' AND NOTHING ELSE: no command of the shelf's: FOR A HAND-IN. Each laying: the table of numbers ('.._ren') and one theorem, a field a fact of the dump's own or the kernel's comparison; each contract: ONE APPLICATION.
-/
namespace Go.Proofs
open Go.Shelf
def Try.lays190_ren : Go.Shelf.Ren := ⟨fun | 190 => 82 | 125 => 113 | 258 => 118 | 128 => 131 | 129 => 132 | 302 => 136 | 303 => 137 | 304 => 138 | 305 => 139 | 306 => 140 | 307 => 141 | 308 => 142 | 309 => 143 | 310 => 144 | 333 => 152 | 329 => 147 | 330 => 148 | 334 => 153 | 335 => 154 | 336 => 133 | 344 => 156 | n => n, fun | 31 => 52 | 9 => 9 | 3 => 3 | 46 => 156 | 0 => 0 | 51 => 172 | 53 => 174 | 4 => 4 | 183 => 166 | 182 => 165 | 131 => 110 | 5 => 5 | 218 => 182 | 222 => 186 | 228 => 191 | 229 => 44 | n => n, fun | n => n⟩
theorem Try.lays190 : Go.Proofs.Lays.n190 Try.prog Try.lays190_ren := {
  mixed := by kernel_rfl
  f125 := Try.func113.trans (congrArg some (by kernel_rfl))
  f128 := Try.func131.trans (congrArg some (by kernel_rfl))
  f129 := Try.func132.trans (congrArg some (by kernel_rfl))
  f190 := Try.func82.trans (congrArg some (by kernel_rfl))
  f258 := Try.func118.trans (congrArg some (by kernel_rfl))
  f302 := Try.func136.trans (congrArg some (by kernel_rfl))
  f303 := Try.func137.trans (congrArg some (by kernel_rfl))
  f304 := Try.func138.trans (congrArg some (by kernel_rfl))
  f305 := Try.func139.trans (congrArg some (by kernel_rfl))
  f306 := Try.func140.trans (congrArg some (by kernel_rfl))
  f307 := Try.func141.trans (congrArg some (by kernel_rfl))
  f308 := Try.func142.trans (congrArg some (by kernel_rfl))
  f309 := Try.func143.trans (congrArg some (by kernel_rfl))
  f310 := Try.func144.trans (congrArg some (by kernel_rfl))
  f329 := Try.func147.trans (congrArg some (by kernel_rfl))
  f330 := Try.func148.trans (congrArg some (by kernel_rfl))
  f333 := Try.func152.trans (congrArg some (by kernel_rfl))
  f334 := Try.func153.trans (congrArg some (by kernel_rfl))
  f335 := Try.func154.trans (congrArg some (by kernel_rfl))
  f336 := Try.func133.trans (congrArg some (by kernel_rfl))
  f344 := Try.func156.trans (congrArg some (by kernel_rfl))
  t0 := Try.underlying0
  a0 := Try.isAgg0
  z0 := Try.sizeOf0
  v0 := Try.zeroValue0
  t3 := Try.underlying3
  a3 := Try.isAgg3
  z3 := Try.sizeOf3
  v3 := Try.zeroValue3
  t4 := Try.underlying4
  a4 := Try.isAgg4
  z4 := Try.sizeOf4
  v4 := Try.zeroValue4
  t5 := Try.underlying5
  a5 := Try.isAgg5
  z5 := Try.sizeOf5
  v5 := Try.zeroValue5
  t9 := Try.underlying9
  a9 := Try.isAgg9
  z9 := Try.sizeOf9
  v9 := Try.zeroValue9
  t31 := Try.underlying52
  a31 := Try.isAgg52
  z31 := Try.sizeOf52
  v31 := Try.zeroValue52
  t46 := Try.underlying156
  a46 := Try.isAgg156
  z46 := Try.sizeOf156
  v46 := Try.zeroValue156
  t51 := Try.underlying172
  a51 := Try.isAgg172
  z51 := Try.sizeOf172
  v51 := Try.zeroValue172
  t53 := Try.underlying174
  a53 := Try.isAgg174
  z53 := Try.sizeOf174
  v53 := Try.zeroValue174
  t131 := Try.underlying110
  a131 := Try.isAgg110
  z131 := Try.sizeOf110
  v131 := Try.zeroValue110
  t182 := Try.underlying165
  a182 := Try.isAgg165
  z182 := Try.sizeOf165
  v182 := Try.zeroValue165
  t183 := Try.underlying166
  a183 := Try.isAgg166
  z183 := Try.sizeOf166
  v183 := Try.zeroValue166
  t218 := Try.underlying182
  a218 := Try.isAgg182
  z218 := Try.sizeOf182
  v218 := Try.zeroValue182
  t222 := Try.underlying186
  a222 := Try.isAgg186
  z222 := Try.sizeOf186
  v222 := Try.zeroValue186
  t228 := Try.underlying191
  a228 := Try.isAgg191
  z228 := Try.sizeOf191
  v228 := Try.zeroValue191
  t229 := Try.underlying44
  a229 := Try.isAgg44
  z229 := Try.sizeOf44
  v229 := Try.zeroValue44 }
open Go.Sort Go.RowKit in
theorem Try.slices_Sort_string (blk off cap : Nat) (ss : List (List UInt8)) (w : World) (hH : Holds encStr w blk off ss.toArray) (hblk : blk < w.heap.size) (hsz : ss.length < 4611686018427387904) :
    Calls Try.prog 82 #[.slice (some ⟨blk, off, none⟩) ss.length cap] w fun e w' =>
      e = .returned (.tuple #[]) ∧ ∃ n os, w' = grow (putRow encStr (Sort.ahead w n) blk off (ss.mergeSort fun x y => decide (x ≤ y)).toArray) os := Any.slices_Sort_string Try.lays190 blk off cap ss w hH hblk hsz
open Go.RowKit Go.Sort in
/-- .. and plain. (LAID: no walk: one application.) -/
theorem Try.slices_Sort_string_none (p : Option Addr) (cap : Nat) (w : World) :
    Calls Try.prog 82 #[.slice p 0 cap] w fun e w' => e = .returned (.tuple #[]) ∧ w' = w := Any.slices_Sort_string_none Try.lays190 p cap w
end Go.Proofs

/- slices.Sort on a row of strings, as a contract on rows. -/
namespace Go.Proofs.Ytagjmphmdgklkaa
open Go.RowKit

theorem take_putCells {α : Type} [Inhabited α] (enc : α → Value) (d : Array α) (c : Array Value) (h : d.size ≤ c.size) : (Sort.putCells enc 0 d c).toList.take d.size = d.toList.map enc := by
  apply List.ext_getElem?
  intro k
  simp only [Sort.putCells, List.getElem?_take, Array.getElem?_toList, Array.getElem?_mapIdx, List.getElem?_map]
  by_cases hk : k < d.size
  · have hc : k < c.size := by omega
    simp [hk, hc]
  · simp [hk]

theorem sort_strs {W : World} {v : Value} {n : Nat} {ss : List (List UInt8)} (h : Row W 9 1 v n (ss.map encStr)) (hl : sliceLen v = n) (hn : n ≤ 1000000) :
    Calls Try.prog 82 #[v] W fun e w' => e = .returned (.tuple #[]) ∧ Row w' 9 1 v n ((ss.mergeSort fun x y => decide (x ≤ y)).map encStr) ∧ Keeps W w' (fun k => v.ownBlock = some k) := by
  obtain ⟨hlen, ⟨rfl, hn0⟩ | ⟨g, cap, cur, rfl, hb, h1, h2, h3, h4⟩⟩ := h
  · have : ss = [] := by
      cases ss with
      | nil => rfl
      | cons a t => simp at hlen; omega
    subst this
    subst hn0
    refine (Try.slices_Sort_string_none none 0 W).mono ?_
    rintro e w' ⟨rfl, rfl⟩
    exact ⟨rfl, ⟨by simp, .inl ⟨rfl, rfl⟩⟩, Keeps.refl _ _⟩
  · have hss : ss.length = n := by simpa using hlen
    subst hss
    have hlt : g < W.heap.size := (Array.getElem?_eq_some_iff.1 hb).1
    have h3' : ss.length ≤ cur.size := by omega
    have hcell : ∀ j (hj : j < ss.length), cur[j]? = some (encStr ss[j]) := by
      intro j hj
      have := congrArg (fun l => l[j]?) h4
      simp [List.getElem?_take, hj] at this
      rw [this]
    have hold : Sort.Holds encStr W g 0 ss.toArray := by
      intro j hj
      have hj' : j < ss.length := by simpa using hj
      refine ⟨?_, by simp [World.frozen?, hb]⟩
      simp only [World.cell?, hb, Nat.zero_add]
      rw [hcell j hj']
      simp [hj']
    refine (Try.slices_Sort_string g 0 cap ss W hold hlt (by omega)).mono ?_
    rintro e w' ⟨rfl, k, os, rfl⟩
    generalize hs : (ss.mergeSort fun x y => decide (x ≤ y)) = ms
    have hms : ms.length = ss.length := by rw [← hs]; exact List.length_mergeSort _
    have hob : (Sort.grow (Sort.putRow encStr (Sort.ahead W k) g 0 ms.toArray) os).heap[g]? = some (.cells (Sort.putCells encStr 0 ms.toArray cur) 9 (0, 0)) := by
      rw [Sort.heap_grow_old _ _ (by simpa using hlt)]
      simp [Sort.putRow, Sort.mapBlock, Array.getElem?_modify, hb, Sort.onCells]
    refine ⟨rfl, ⟨by simp [hms], .inr ⟨g, cap, _, rfl, hob, h1, h2, by simpa [Sort.putCells] using h3, ?_⟩⟩, ⟨rfl, rfl, rfl, by simp, ?_⟩⟩
    · have := take_putCells encStr ms.toArray cur (by simp; omega)
      simpa [hms] using this
    · intro x hx hn
      have hne : g ≠ x := fun e => hn (by simp [Value.ownBlock, e])
      rw [Sort.heap_grow_old _ _ (by simpa using hx)]
      simp [Sort.putRow, Sort.mapBlock, Array.getElem?_modify, hne]

def nameBytes (m : Ents) : List (List UInt8) := m.map fun e => e.1.data.toList
def listing (m : Ents) : List (List UInt8) := (nameBytes m).mergeSort fun x y => decide (x ≤ y)
def listVal (S : DS) (i : Int) : List (List UInt8) := if ofErr S i true = 0 then listing (S.nd (i - 1).toNat).seen.ents else []

theorem names_enc (m : Ents) : names m = (nameBytes m).map encStr := by simp [names, nameBytes, encStr]

theorem sort_perm {a b : List (List UInt8)} (h : a.Perm b) : (a.mergeSort fun x y => decide (x ≤ y)) = b.mergeSort fun x y => decide (x ≤ y) := by
  have tr : ∀ x y z : List UInt8, decide (x ≤ y) = true → decide (y ≤ z) = true → decide (x ≤ z) = true := by
    intro x y z h1 h2
    simp at h1 h2 ⊢
    exact List.le_trans h1 h2
  have tot : ∀ x y : List UInt8, (decide (x ≤ y) || decide (y ≤ x)) = true := by
    intro x y
    simp
    exact List.le_total x y
  refine List.Perm.eq_of_pairwise (le := fun x y => decide (x ≤ y) = true) ?_ (List.pairwise_mergeSort tr tot a) (List.pairwise_mergeSort tr tot b) ((List.mergeSort_perm a _).trans (h.trans (List.mergeSort_perm b _).symm))
  intro x y _ _ h1 h2
  simp at h1 h2
  exact List.le_antisymm h1 h2

/-- a fresh row of strings -/
structure GivenS (w w' : World) (v : Value) (l : List (List UInt8)) : Prop where
  row : Row w' 9 1 v l.length (l.map encStr)
  len : sliceLen v = l.length
  below : Below w.heap.size w w'
  own : ∀ k, v.ownBlock = some k → w.heap.size ≤ k ∧ k < w'.heap.size
theorem GivenS.nil (w : World) : GivenS w w (.slice none 0 0) [] := ⟨Row.nil _ _ _, rfl, Below.refl _ _, by intro k hk; simp [Value.ownBlock] at hk⟩

set_option maxRecDepth 100000 in
set_option maxHeartbeats 400000 in
theorem list_err {w : World} {p : Nat} {i e0 : Int} (ha : Calls Try.prog 61 #[.pointer (some ⟨p, 0, none⟩), .int .i64 i, .bool true] w fun e w' => e = .returned (.tuple #[.pointer none, .int .i64 e0]) ∧ w = w')
    (hne : (e0 != 0) = true) : Calls Try.prog 38 #[.pointer (some ⟨p, 0, none⟩), .int .i64 i] w fun e w' => e = .returned (.tuple #[.slice none 0 0, .int .i64 e0]) ∧ w = w' := by
  have HA := Lib.hid ha
  clear ha
  go_enter Try.func38, Try.ntmps38
  go_wp2_with (go_at_call 61; refine (HA.out).mono ?_; rintro e w' ⟨rfl, rfl⟩)
  go_ret2
  exact ⟨rfl, rfl⟩

theorem list_any {w : World} {p : Nat} {S : DS} {P : Nat → Prop} {vn : Value} {nb : Nat → Nat} {t : Nat → Nat} (h : DF w p S P vn nb t) (i : Int) (hb : ∀ k < S.nodes.length, (S.nd k).seen.ents.length ≤ 1000000) :
    Calls Try.prog 38 #[ptr p, .int .i64 i] w fun e w' => ∃ v, e = .returned (.tuple #[v, .int .i64 (ofErr S i true)]) ∧ GivenS w w' v (listVal S i) := by
  have ha := of_any h i true
  unfold ptr at ha ⊢
  by_cases h0 : ofErr S i true = 0
  · obtain ⟨hd, k, rfl, hk, hdir⟩ := ofErr_zero h0
    have e3 : ((k : Int) + 1 - 1).toNat = k := by omega
    have e2 : ofPtr S nb ((k : Int) + 1) true = ptr (nb k) := by unfold ofPtr; rw [if_pos h0, e3]
    rw [e2, h0] at ha
    have hn := h.nodes k hk
    rw [← S.nd_at hk] at hn
    obtain ⟨mb, c4, hm, hP⟩ := hn.dirMap hdir
    have el : listVal S ((k : Int) + 1) = listing (S.nd k).seen.ents := by unfold listVal; rw [if_pos h0, e3]
    rw [el, h0]
    refine list_walk (R := fun v w' => GivenS w w' v (listing (S.nd k).seen.ents)) ha c4 hm (hb k hk) ?_
    rintro W v ⟨⟨got, left, hi, hp, hr, hsl⟩, hown, hbl⟩ hl
    have hlen := hp.length_eq
    have hle : left = [] := by
      cases left with
      | nil => rfl
      | cons a t => simp at hlen; omega
    subst hle
    have hp' : got.Perm (S.nd k).seen.ents := by simpa using hp
    rw [names_enc] at hr
    have hgl : got.length ≤ 1000000 := by have := hb k hk; have := hp'.length_eq; omega
    refine (sort_strs hr hsl hgl).mono ?_
    rintro e w' ⟨rfl, hrow, hk2⟩
    have hs : ((nameBytes got).mergeSort fun x y => decide (x ≤ y)) = listing (S.nd k).seen.ents := sort_perm (hp'.map _)
    rw [hs] at hrow
    have hll : (listing (S.nd k).seen.ents).length = got.length := by rw [← hs, List.length_mergeSort]; simp [nameBytes]
    refine ⟨rfl, by rw [hll]; exact hrow, by rw [hll]; exact hsl, ?_, ?_⟩
    · exact hbl.trans ⟨hk2.os, hk2.tape, hk2.output, hk2.size, fun x hx => hk2.block x (by have := hbl.size; omega) (fun q => by have := hown x q; omega)⟩
    · intro k hk; exact ⟨by have := hown k hk; omega, hrow.lt k hk⟩
  · have e2 : ofPtr S nb i true = .pointer none := by unfold ofPtr; rw [if_neg h0]
    have el : listVal S i = [] := by unfold listVal; rw [if_neg h0]
    rw [el]
    rw [e2] at ha
    refine (list_err ha (by simpa using h0)).mono ?_
    rintro e w' ⟨rfl, rfl⟩
    exact ⟨_, rfl, GivenS.nil _⟩

end Go.Proofs.Ytagjmphmdgklkaa

/- Walks: the bytes of all files that entries lead to. -/
namespace Go.Proofs.Ytagjmphmdgklkaa
open Go.RowKit

/-- what a visit takes away -/
def vcost (S : DS) (file : Int) (lb : Nat) (j : Nat) : Nat := (S.nd (j - 1)).seen.bytes.length + if (j : Int) = file then lb else 0

/-- what the visitor holds -/
structure Vis (w : World) (p : Nat) (file : Int) (lb r bd bf bb : Nat) : Prop where
  d : w.cell? ⟨bd, 0, none⟩ = some (ptr p)
  f : w.cell? ⟨bf, 0, none⟩ = some (.int .i64 file)
  b : ∃ a c, w.cell? ⟨bb, 0, none⟩ = some (.slice a lb c)
  nd : bd ≠ r
  nf : bf ≠ r
  nb : bb ≠ r
  ld : bd < w.heap.size
  lf : bf < w.heap.size
  lb : bb < w.heap.size

theorem Vis.keep {w w' : World} {p : Nat} {file : Int} {lb r bd bf bb : Nat} (h : Vis w p file lb r bd bf bb) (hk : Keeps w w' (fun k => k = r)) : Vis w' p file lb r bd bf bb := by
  obtain ⟨h1, h2, ⟨a, c, h3⟩, h4, h5, h6, h7, h8, h9⟩ := h
  refine ⟨?_, ?_, ⟨a, c, ?_⟩, h4, h5, h6, Nat.lt_of_lt_of_le h7 hk.size, Nat.lt_of_lt_of_le h8 hk.size, Nat.lt_of_lt_of_le h9 hk.size⟩
  · rw [World.cell?_of_block (w := w) (hk.block bd h7 h4)]; exact h1
  · rw [World.cell?_of_block (w := w) (hk.block bf h8 h5)]; exact h2
  · rw [World.cell?_of_block (w := w) (hk.block bb h9 h6)]; exact h3

def visitor (r bd bf bb : Nat) : Value := .func (.func 84) #[] #[ptr r, ptr bd, ptr bf, ptr bb]

set_option maxRecDepth 100000 in
set_option maxHeartbeats 1000000 in
theorem visit_core {w : World} {p g cap n bk r bd bf bb k lb len cb cc : Nat} {file x : Int} {a c : Option Addr} (c0 : w.cell? ⟨p, 0, none⟩ = some (.slice (some ⟨g, 0, none⟩) n cap)) (hn : n ≤ 4096) (hk : k < n) (ck : w.cell? ⟨g, k, none⟩ = some (.pointer (some ⟨bk, 0, none⟩)))
    (c3 : w.cell? ⟨bk, 3, none⟩ = some (.slice a len cb)) (cd : w.cell? ⟨bd, 0, none⟩ = some (.pointer (some ⟨p, 0, none⟩))) (cf : w.cell? ⟨bf, 0, none⟩ = some (.int .i64 file)) (cbb : w.cell? ⟨bb, 0, none⟩ = some (.slice c lb cc)) (hr : Blk w r [.int .i64 x])
    (nd : bd ≠ r) (nf : bf ≠ r) (nb : bb ≠ r) (hx : x ≤ 9223372036854775807) (hlo : -4611686018427387904 ≤ x - len - lb) (hlen : len ≤ 140737488355328) (hlb : lb ≤ 140737488355328) :
    Calls Try.prog 84 #[.int .i64 ((k : Int) + 1), .pointer (some ⟨r, 0, none⟩), .pointer (some ⟨bd, 0, none⟩), .pointer (some ⟨bf, 0, none⟩), .pointer (some ⟨bb, 0, none⟩)] w fun e w' => e = .returned (.tuple #[]) ∧
      Blk w' r [.int .i64 (x - len - if ((k : Int) + 1) = file then (lb : Int) else 0)] ∧ Keeps w w' (fun k => k = r) := by
  have cr := hr.cell 0
  have fr := hr.frozen 0
  have hrl := hr.lt
  simp only [List.getElem?_cons_zero] at cr
  have HB := Lib.hid hr
  clear hr
  have w0 : IntKind.i64.wrap (k : Int) = (k : Int) := IntWalk.i64_in _ (by omega)
  have w1 : IntKind.i64.wrap (x - (len : Int)) = x - (len : Int) := IntWalk.i64_in _ (by omega)
  have w2 : IntKind.i64.wrap (x - (len : Int) - (lb : Int)) = x - (len : Int) - (lb : Int) := IntWalk.i64_in _ (by omega)
  have hk1 := keeps_cell w r 0 (.int .i64 (x - (len : Int)))
  by_cases hf : ((k : Int) + 1) = file
  · rw [if_pos hf]
    subst hf
    have HK := Lib.hid hk1
    clear hk1
    go_enter Try.func84, Try.ntmps84
    go_wp2
    refine wp_still_tail 15 (by kernel_rfl) (by kernel_rfl) ?_
    simp only [List.take_succ_cons, List.take_zero, List.drop_succ_cons, List.drop_zero]
    repeat still_step
    refine wpStill_nil ?_
    go_wp2
    go_end0
    exact ⟨rfl, (HB.out.set 0 _).set 0 _, (HK.out.trans (keeps_cell _ _ _ _) (fun _ _ q => q)).drew⟩
  · rw [if_neg hf]
    have HK := Lib.hid hk1
    clear hk1
    have hff : (((k : Int) + 1) == file) = false := by simpa using hf
    go_enter Try.func84, Try.ntmps84
    go_wp2
    refine wp_still_tail 15 (by kernel_rfl) (by kernel_rfl) ?_
    simp only [List.take_succ_cons, List.take_zero, List.drop_succ_cons, List.drop_zero]
    repeat still_step
    refine wpStill_nil ?_
    go_wp2
    go_end0
    rw [Int.sub_zero]
    exact ⟨rfl, HB.out.set 0 _, HK.out.drew⟩

theorem visit_any {w : World} {p : Nat} {S : DS} {P : Nat → Prop} {vn : Value} {nb : Nat → Nat} {t : Nat → Nat} (h : DF w p S P vn nb t) {file x : Int} {lb r bd bf bb j : Nat} (hv : Vis w p file lb r bd bf bb) (hr : Blk w r [.int .i64 x])
    (hj : 1 ≤ j) (hj2 : j ≤ S.nodes.length) (hx : x ≤ 9223372036854775807) (hlo : -4611686018427387904 ≤ x - (S.nd (j - 1)).seen.bytes.length - lb) (hlen : (S.nd (j - 1)).seen.bytes.length ≤ 140737488355328) (hlb : lb ≤ 140737488355328) :
    Calls Try.prog 84 #[.int .i64 (j : Int), ptr r, ptr bd, ptr bf, ptr bb] w fun e w' => e = .returned (.tuple #[]) ∧ Blk w' r [.int .i64 (x - vcost S file lb j)] ∧ Keeps w w' (fun k => k = r) := by
  obtain ⟨k, rfl⟩ : ∃ k, j = k + 1 := ⟨j - 1, by omega⟩
  have hk : k < S.nodes.length := by omega
  have e3 : k + 1 - 1 = k := by omega
  rw [e3] at hlo hlen
  obtain ⟨c0, _⟩ := dcell h.blk
  have hrow := h.row
  have hl := h.len
  have hn := h.nodes k hk
  rw [← S.nd_at hk] at hn
  obtain ⟨vb, c3, hrb, _⟩ := hn.fileBytes
  obtain ⟨a, c, rfl⟩ : ∃ a c, vb = .slice a (S.nd k).seen.bytes.length c := by
    rcases hrb.shape with ⟨rfl, e⟩ | ⟨g, cap, rfl, _⟩
    · rw [e]; exact ⟨_, _, rfl⟩
    · exact ⟨_, _, rfl⟩
  rcases hrow.shape with ⟨rfl, hn0⟩ | ⟨g, cap, rfl, hn1, hm, hg⟩
  · omega
  have hc := hrow.cellAt k (by omega)
  rw [ptrs_at hk] at hc
  obtain ⟨cd, cf, ⟨a2, c2, cb⟩, nd, nf, nb', _, _, _⟩ := hv
  unfold ptr at hc cd ⊢
  have hcast : ((k + 1 : Nat) : Int) = (k : Int) + 1 := by omega
  rw [hcast]
  refine (visit_core c0 hl hk hc c3 cd cf cb hr nd nf nb' hx hlo hlen hlb).mono ?_
  rintro e w' ⟨rfl, hb, hk2⟩
  refine ⟨rfl, ?_, hk2⟩
  have ev : x - (vcost S file lb (k + 1) : Int) = x - (S.nd k).seen.bytes.length - if ((k : Int) + 1) = file then (lb : Int) else 0 := by
    unfold vcost
    rw [hcast, e3]
    split <;> omega
  rw [ev]
  exact hb

def leftN (w : World) (r b : Nat) : Nat := match w.heap[b]?, w.heap[r]? with
  | some (.map es _), some (.mapIter _ _ seen _) => (leftOf es seen).toList.length
  | _, _ => 0
theorem IterAt.leftN {w : World} {r b : Nat} {m left : Ents} (h : IterAt w r b m left) : leftN w r b = left.length := by
  obtain ⟨es, clock, seen, h1, h2, h3, h4, h5, h6⟩ := h
  have := congrArg List.length h6
  simp only [List.length_map] at this
  unfold Go.Proofs.Ytagjmphmdgklkaa.leftN
  rw [h1, h5]
  exact this

def ecost (S : DS) (file : Int) (lb : Nat) (f : Nat → Nat) (e : ByteArray × Nat) : Nat := vcost S file lb e.2 + if (S.nd (e.2 - 1)).dir then f e.2 else 0
/-- what all visits take away -/
def rsum (S : DS) (file : Int) (lb : Nat) : Nat → Nat → Nat
  | 0, _ => 0
  | n + 1, d => ((S.nd (d - 1)).seen.ents.map (ecost S file lb (rsum S file lb n))).sum

/-- entries lead on -/
def Leads (S : DS) : Prop := ∀ k, k < S.nodes.length → ∀ e ∈ (S.nd k).seen.ents, k + 1 < e.2 ∧ e.2 ≤ S.nodes.length

structure ReachI (w wr : World) (r b0 mb : Nat) (m : Ents) (x : Int) (c : ByteArray × Nat → Nat) : Prop where
  ex : ∃ got left, IterAt wr b0 mb m left ∧ (got ++ left).Perm m ∧ Blk wr r [.int .i64 (x - ((got.map c).sum : Nat))]
  keeps : Keeps w wr (fun k => k = r)

theorem Keeps.cell {w w' : World} {P : Nat → Prop} (h : Keeps w w' P) {b o : Nat} {v : Value} (hc : w.cell? ⟨b, o, none⟩ = some v) (hp : ¬ P b) : w'.cell? ⟨b, o, none⟩ = some v := by
  have hl : b < w.heap.size := by
    refine Decidable.byContradiction fun hn => ?_
    have : w.heap[b]? = none := by simp; omega
    simp [World.cell?, this] at hc
  rw [World.cell?_of_block (w := w) (h.block b hl hp)]
  exact hc

theorem lt_of_cell {w : World} {b o : Nat} {v : Value} (h : w.cell? ⟨b, o, none⟩ = some v) : b < w.heap.size := by
  refine Decidable.byContradiction fun hn => ?_
  have : w.heap[b]? = none := by simp; omega
  simp [World.cell?, this] at h

set_option maxRecDepth 100000 in
set_option maxHeartbeats 1000000 in
theorem reach_core {w : World} {p g cap N bk k r bd bf bb mb : Nat} {x : Int} {m : Ents} {c : ByteArray × Nat → Nat} (c0 : w.cell? ⟨p, 0, none⟩ = some (.slice (some ⟨g, 0, none⟩) N cap)) (hN : N ≤ 4096) (hk : k < N) (ck : w.cell? ⟨g, k, none⟩ = some (.pointer (some ⟨bk, 0, none⟩)))
    (c4 : w.cell? ⟨bk, 4, none⟩ = some (.map (some mb))) (hm : MapAt w mb m) (hr : Blk w r [.int .i64 x]) (nrp : p ≠ r) (nrg : g ≠ r) (nrm : mb ≠ r)
    (hin : ∀ e ∈ m, 1 ≤ e.2 ∧ e.2 ≤ N) (nk : Nat → Nat) (dk : Nat → Bool) (hnk : ∀ e ∈ m, w.cell? ⟨g, e.2 - 1, none⟩ = some (.pointer (some ⟨nk e.2, 0, none⟩)) ∧ w.cell? ⟨nk e.2, 0, none⟩ = some (.bool (dk e.2)) ∧ nk e.2 ≠ r)
    (v f : ByteArray × Nat → Nat) (hc : ∀ e, c e = v e + if dk e.2 then f e else 0)
    (hvis : ∀ (wr : World) (y : Int) (got left : Ents) (e : ByteArray × Nat), Keeps w wr (fun k => k = r) → (got ++ e :: left).Perm m → Blk wr r [.int .i64 y] → y = x - ((got.map c).sum : Nat) →
      Calls Try.prog 84 #[.int .i64 (e.2 : Int), .pointer (some ⟨r, 0, none⟩), .pointer (some ⟨bd, 0, none⟩), .pointer (some ⟨bf, 0, none⟩), .pointer (some ⟨bb, 0, none⟩)] wr fun o w' => o = .returned (.tuple #[]) ∧ Blk w' r [.int .i64 (y - (v e : Nat))] ∧ Keeps wr w' (fun k => k = r))
    (hrec : ∀ (wr : World) (y : Int) (got left : Ents) (e : ByteArray × Nat), Keeps w wr (fun k => k = r) → (got ++ e :: left).Perm m → Blk wr r [.int .i64 y] → y = x - ((got.map c).sum : Nat) - (v e : Nat) → dk e.2 = true →
      Calls Try.prog 83 #[.pointer (some ⟨p, 0, none⟩), .int .i64 (e.2 : Int), .func (.func 84) #[] #[.pointer (some ⟨r, 0, none⟩), .pointer (some ⟨bd, 0, none⟩), .pointer (some ⟨bf, 0, none⟩), .pointer (some ⟨bb, 0, none⟩)]] wr fun o w' => o = .returned (.tuple #[]) ∧ Blk w' r [.int .i64 (y - (f e : Nat))] ∧ Keeps wr w' (fun k => k = r)) :
    Calls Try.prog 83 #[.pointer (some ⟨p, 0, none⟩), .int .i64 ((k : Int) + 1), .func (.func 84) #[] #[.pointer (some ⟨r, 0, none⟩), .pointer (some ⟨bd, 0, none⟩), .pointer (some ⟨bf, 0, none⟩), .pointer (some ⟨bb, 0, none⟩)]] w fun o w' =>
      o = .returned (.tuple #[]) ∧ Blk w' r [.int .i64 (x - ((m.map c).sum : Nat))] ∧ Keeps w w' (fun k => k = r) := by
  have w0 : IntKind.i64.wrap (k : Int) = (k : Int) := IntWalk.i64_in _ (by omega)
  have HV := Lib.hid hvis
  have HR := Lib.hid hrec
  have HNK := Lib.hid hnk
  have HIN := Lib.hid hin
  have HC := Lib.hid hc
  have HM := Lib.hid hm
  have HB := Lib.hid hr
  have EG := Lib.hid (enters_of Try.func84 (by kernel_rfl) rfl)
  have hmlt := hm.lt
  have hrlt := hr.lt
  have plt := lt_of_cell c0
  have glt := lt_of_cell ck
  clear hvis hrec hnk hin hc hm hr
  go_enter Try.func83, Try.ntmps83
  go_wp2_with (at_range; refine wpList_range_iter rfl _ _ _ _ rfl tMap rfl HM.out ?_; intro w0 hi0 hb0 hs0; have HI0 := Lib.hid hi0; have HB0 := Lib.hid hb0; clear hi0 hb0 hs0)
  go_frame
  go_loopw [7] (fun _ wr => ReachI w wr r w.heap.size mb m x c) (fun _ wr => leftN wr w.heap.size mb)
  case atStart => exact ⟨⟨[], m, HI0.out, by simp, by simpa using HB.out.of_block (HB0.out.block r hrlt)⟩, Keeps.of_below HB0.out _⟩
  case round =>
    obtain ⟨⟨got, left, hi, hp, hbl⟩, hkp⟩ := hrel
    have hne : w.heap.size ≠ mb := by omega
    have HI := Lib.hid hi
    have HP := Lib.hid hp
    have HBL := Lib.hid hbl
    have HKP := Lib.hid hkp
    clear hi hp hbl hkp HI0 HB0
    go_wp2_with (first | (at_next; refine wpList_next_iter rfl _ rfl rfl HI.out hne ?_ ?_))
    · intro hl
      subst hl
      have hs : (got.map c).sum = (m.map c).sum := by
        have := (HP.out.map c).sum_nat
        simpa using this
      go_wp2
      go_end0
      have hb2 := HBL.out
      rw [hs] at hb2
      exact ⟨rfl, hb2, HKP.out⟩
    · intro s n left' w1 hp1 hi1 hg1 hs1 hen
      have hpp : (got ++ (s, n) :: left').Perm m := (hp1.append_left got).symm.trans HP.out
      have hmem : (s, n) ∈ m := hpp.mem_iff.1 (by simp)
      obtain ⟨h1n, h2n⟩ := HIN.out _ hmem
      obtain ⟨e1, e2, e3⟩ := HNK.out _ hmem
      have hc1 := HC.out (s, n)
      obtain ⟨q, rfl⟩ : ∃ q, n = q + 1 := ⟨n - 1, by simp at h1n; omega⟩
      simp only [Nat.add_sub_cancel] at e1 e2 e3 h1n h2n hc1
      have hcast : ((q + 1 : Nat) : Int) = (q : Int) + 1 := by omega
      have hqN : q < N := by omega
      have wq : IntKind.i64.wrap (q : Int) = (q : Int) := IntWalk.i64_in _ (by omega)
      have k1 : Keeps w w1 (fun k => k = r) := HKP.out.grownBy hg1 (fun k hk => by simp at hk; omega)
      have b1 := HBL.out.of_block (hg1.block r HBL.out.lt (fun e => by simp at e; omega))
      have hv1 := HV.out w1 _ got left' _ k1 hpp b1 rfl
      simp only [hcast] at hv1 hen
      have HI1 := Lib.hid hi1
      have HV1 := Lib.hid hv1
      have K1 := Lib.hid k1
      have HPP := Lib.hid hpp
      have hs1' := hs1
      have HLL := Lib.hid hp1.length_eq
      clear hv1 k1 hpp b1 hp1 hi1 hg1 hs1
      cases hdk : dk (q + 1) <;> rw [hdk] at e2
      · go_wp2_with (refine HV1.out.mono ?_; rintro o w2 ⟨rfl, hb2, hk2⟩; have k2 := K1.out.trans hk2 (fun _ _ q => q); have d0 := k2.cell c0 nrp; have d1 := k2.cell e1 nrg; have d2 := k2.cell e2 e3; have HB2 := Lib.hid hb2; have HK2 := Lib.hid hk2; have K2 := Lib.hid k2; clear hb2 hk2 k2)
        have hi2 := HI1.out.same (HK2.out.block _ HI1.out.lt.1 (fun e => nrm e)) (HK2.out.block _ HI1.out.lt.2 (fun e => by omega))
        refine ⟨⟨⟨got ++ [(s, q + 1)], left', hi2, by simpa using HPP.out, ?_⟩, K2.out⟩, ?_⟩
        · have ev : x - ((((got ++ [(s, q + 1)]).map c).sum : Nat) : Int) = x - ((got.map c).sum : Nat) - (v (s, q + 1) : Nat) := by
            simp only [List.map_append, List.map_cons, List.map_nil, List.sum_append, List.sum_cons, List.sum_nil]
            rw [hc1, hdk]
            simp
            omega
          rw [ev]
          exact HB2.out
        · rw [hi2.leftN, HI.out.leftN]
          have := HLL.out
          simp at this
          omega
      · go_wp2_with (first | (refine HV1.out.mono ?_; rintro o w2 ⟨rfl, hb2, hk2⟩; have k2 := K1.out.trans hk2 (fun _ _ q => q); have d0 := k2.cell c0 nrp; have d1 := k2.cell e1 nrg; have d2 := k2.cell e2 e3; have HB2 := Lib.hid hb2; have HK2 := Lib.hid hk2; have K2 := Lib.hid k2; clear hb2 hk2 k2) | (go_at_call 83; refine (HR.out w2 _ got left' _ K2.out HPP.out HB2.out rfl hdk).mono ?_; rintro o w3 ⟨rfl, hb3, hk3⟩; have HB3 := Lib.hid hb3; have HK3 := Lib.hid hk3; clear hb3 hk3))
        have hk3 := HK2.out.trans HK3.out (fun _ _ q => q)
        have hi2 := HI1.out.same (hk3.block _ HI1.out.lt.1 (fun e => nrm e)) (hk3.block _ HI1.out.lt.2 (fun e => by omega))
        refine ⟨⟨⟨got ++ [(s, q + 1)], left', hi2, by simpa using HPP.out, ?_⟩, K2.out.trans HK3.out (fun _ _ q => q)⟩, ?_⟩
        · have ev : x - ((((got ++ [(s, q + 1)]).map c).sum : Nat) : Int) = x - ((got.map c).sum : Nat) - (v (s, q + 1) : Nat) - (f (s, q + 1) : Nat) := by
            simp only [List.map_append, List.map_cons, List.map_nil, List.sum_append, List.sum_cons, List.sum_nil]
            rw [hc1, hdk]
            simp
            omega
          rw [ev]
          exact HB3.out
        · rw [hi2.leftN, HI.out.leftN]
          have := HLL.out
          simp at this
          omega

end Go.Proofs.Ytagjmphmdgklkaa

/- Walks: the bytes of all files that entries lead to, as a contract on the whole disk. -/
namespace Go.Proofs.Ytagjmphmdgklkaa
open Go.RowKit

theorem rsum_step (S : DS) (file : Int) (lb n d : Nat) : rsum S file lb (n + 1) d = ((S.nd (d - 1)).seen.ents.map (ecost S file lb (rsum S file lb n))).sum := rfl

theorem DF.pRow {w : World} {p : Nat} {S : DS} {P : Nat → Prop} {vn : Value} {nb : Nat → Nat} {t : Nat → Nat} (h : DF w p S P vn nb t) {k : Nat} (hk : k < S.nodes.length) : ∃ g cap, vn = .slice (some ⟨g, 0, none⟩) S.nodes.length cap ∧ P g ∧ ∀ j, j < S.nodes.length → w.cell? ⟨g, j, none⟩ = some (.pointer (some ⟨nb j, 0, none⟩)) := by
  have hr := h.row
  rcases hr.shape with ⟨rfl, hn0⟩ | ⟨g, cap, rfl, hn1, hm, hg⟩
  · omega
  · refine ⟨g, cap, rfl, h.inP g (by rw [h.vnT g (by simp [Value.ownBlock])]; omega), fun j hj => ?_⟩
    have hc := hr.cellAt j (by omega)
    rw [ptrs_at hj] at hc
    exact hc

theorem NodeAt.inQ {w : World} {b : Nat} {N : Nd} {P : Nat → Prop} (h : NodeAt w b N P) : P b := by
  obtain ⟨vsb, vsm, veb, vem, vl, f, t, h1, h2, h3, h4, h5, h6, h7, h8, h9, h10⟩ := h
  exact h10 b (by omega)

theorem reach_any {p : Nat} {S : DS} {P : Nat → Prop} {vn : Value} {nb : Nat → Nat} {t : Nat → Nat} {file : Int} {lb r bd bf bb : Nat} (hL : Leads S) (hB : ∀ k, k < S.nodes.length → (S.nd k).seen.bytes.length ≤ 140737488355328)
    (hlb : lb ≤ 140737488355328) (hlen : S.nodes.length ≤ 4096) (rP : ¬ P r) :
    ∀ (n d : Nat) (w : World) (x : Int), DF w p S P vn nb t → Vis w p file lb r bd bf bb → Blk w r [.int .i64 x] → 1 ≤ d → d ≤ S.nodes.length → S.nodes.length - d < n → (S.nd (d - 1)).dir = true →
      x ≤ 9223372036854775807 → -4611686018427387904 + (lb : Int) ≤ x - (rsum S file lb n d : Nat) →
      Calls Try.prog 83 #[ptr p, .int .i64 (d : Int), visitor r bd bf bb] w fun o w' => o = .returned (.tuple #[]) ∧ Blk w' r [.int .i64 (x - (rsum S file lb n d : Nat))] ∧ Keeps w w' (fun k => k = r) := by
  intro n
  induction n with
  | zero => intro d w x _ _ _ _ _ h; omega
  | succ n ih =>
    intro d w x h hv hr h1 h2 h3 hdir hx hlo
    obtain ⟨k, rfl⟩ : ∃ k, d = k + 1 := ⟨d - 1, by omega⟩
    have hk : k < S.nodes.length := by omega
    simp only [Nat.add_sub_cancel] at hdir
    obtain ⟨g, cap, rfl, hg, hcells⟩ := h.pRow hk
    obtain ⟨c0, _⟩ := dcell h.blk
    have hn := h.nodes k hk
    rw [← S.nd_at hk] at hn
    obtain ⟨mb, c4, hm, hP⟩ := hn.dirMap hdir
    have hPP := h.inP mb (by rw [hP]; omega)
    have hcast : ((k + 1 : Nat) : Int) = (k : Int) + 1 := by omega
    rw [hcast]
    rw [rsum_step] at hlo ⊢
    simp only [Nat.add_sub_cancel] at hlo ⊢
    have hne : ∀ z, P z → z ≠ r := fun z hz e => rP (e ▸ hz)
    have hmem : ∀ e ∈ (S.nd k).seen.ents, 1 ≤ e.2 ∧ e.2 ≤ S.nodes.length := fun e he => ⟨by have := (hL k hk e he).1; omega, (hL k hk e he).2⟩
    have hsum : ∀ (got left : Ents) (e : ByteArray × Nat), (got ++ e :: left).Perm (S.nd k).seen.ents → (got.map (ecost S file lb (rsum S file lb n))).sum + ecost S file lb (rsum S file lb n) e ≤ ((S.nd k).seen.ents.map (ecost S file lb (rsum S file lb n))).sum := by
      intro got left e hp
      have := (hp.map (ecost S file lb (rsum S file lb n))).sum_nat
      simp only [List.map_append, List.map_cons, List.sum_append, List.sum_cons] at this
      omega
    refine reach_core (c := ecost S file lb (rsum S file lb n)) c0 hlen hk (hcells k hk) c4 hm hr (hne p h.pP) (hne g hg) (hne mb hPP) hmem (fun j => nb (j - 1)) (fun j => (S.nd (j - 1)).dir) ?_ (fun e => vcost S file lb e.2) (fun e => rsum S file lb n e.2) (fun e => rfl) ?_ ?_
    · intro e he
      have hj := hmem e he
      have hj' : e.2 - 1 < S.nodes.length := by omega
      have hnj := h.nodes (e.2 - 1) hj'
      rw [← S.nd_at hj'] at hnj
      exact ⟨hcells _ hj', hnj.dirCell, hne _ (h.inP _ (by rw [hnj.inQ]; omega))⟩
    · intro wr y got left e hkp hp hb hy
      have hj := hmem e (hp.mem_iff.1 (by simp))
      have hs := hsum got left e hp
      have hdf := h.keep hkp (fun z hz hz2 => hne z hz2 hz)
      subst hy
      refine (visit_any hdf (hv.keep hkp) hb hj.1 hj.2 (by omega) ?_ (hB _ (by omega)) hlb).mono ?_
      · have h7 : vcost S file lb e.2 ≤ ecost S file lb (rsum S file lb n) e := Nat.le_add_right _ _
        have h8 : (S.nd (e.2 - 1)).seen.bytes.length ≤ vcost S file lb e.2 := Nat.le_add_right _ _
        omega
      · rintro o w' ⟨rfl, h5, h6⟩
        exact ⟨rfl, h5, h6⟩
    · intro wr y got left e hkp hp hb hy hd
      have hme := hp.mem_iff.1 (show e ∈ got ++ e :: left by simp)
      have hj := hmem e hme
      have hl := hL k hk e hme
      have hs := hsum got left e hp
      have hdf := h.keep hkp (fun z hz hz2 => hne z hz2 hz)
      subst hy
      have hee : ecost S file lb (rsum S file lb n) e = vcost S file lb e.2 + rsum S file lb n e.2 := by unfold ecost; rw [if_pos hd]
      refine (ih e.2 wr _ hdf (hv.keep hkp) hb hj.1 hj.2 (by omega) hd (by omega) (by omega)).mono ?_
      rintro o w' ⟨rfl, h5, h6⟩
      exact ⟨rfl, h5, h6⟩

end Go.Proofs.Ytagjmphmdgklkaa

/- Walks: what Append does, as an op. -/
namespace Go.Proofs.Ytagjmphmdgklkaa
open Go.RowKit

def DS.appended (S : DS) (k : Nat) (l : List UInt8) : DS := if l = [] then S else S.step k (.app l)

set_option maxRecDepth 100000 in
set_option maxHeartbeats 1000000 in
theorem app2_nil {w : World} {bb bN : Nat} {a : Option Addr} {c : Nat} (h : w.cell? ⟨bb, 0, none⟩ = some (.slice a 0 c)) :
    Calls Try.prog 87 #[.pointer (some ⟨bb, 0, none⟩), .pointer (some ⟨bN, 0, none⟩)] w fun e w' => e = .returned (.tuple #[]) ∧ w = w' := by
  go_enter Try.func87, Try.ntmps87
  go_wp2
  go_end0
  exact ⟨rfl, rfl⟩

set_option maxRecDepth 100000 in
set_option maxHeartbeats 1000000 in
theorem app2_core {w : World} {bb bN b n : Nat} {a : Option Addr} {c : Nat} (h : w.cell? ⟨bb, 0, none⟩ = some (.slice a n c)) (hn : 0 < n) (hN : w.cell? ⟨bN, 0, none⟩ = some (.pointer (some ⟨b, 0, none⟩))) {R : World → Prop}
    (ha : Calls Try.prog 88 #[.pointer (some ⟨b, 0, none⟩), .agg #[.int .i64 (n : Int), .func (.func 89) #[] #[.pointer (some ⟨bb, 0, none⟩)]]] w fun e w' => e = .returned (.tuple #[]) ∧ R w') :
    Calls Try.prog 87 #[.pointer (some ⟨bb, 0, none⟩), .pointer (some ⟨bN, 0, none⟩)] w fun e w' => e = .returned (.tuple #[]) ∧ R w' := by
  have HA := Lib.hid ha
  clear ha
  go_enter Try.func87, Try.ntmps87
  go_wp2_with (go_at_call 88; refine HA.out.mono ?_; rintro e w' ⟨rfl, hR⟩; have HR := Lib.hid hR; clear hR)
  go_end0
  exact ⟨rfl, HR.out⟩

theorem app2_any {w : World} {p : Nat} {S : DS} {P : Nat → Prop} {vn : Value} {nb : Nat → Nat} {t : Nat → Nat} (h : DF w p S P vn nb t) {k : Nat} (hk : k < S.nodes.length) (hdir : (S.nd k).dir = false) (hll : (S.nd k).loose.length ≤ 1000000)
    {bb bN : Nat} {vb : Value} {l : List UInt8} (hb : Blk w bb [vb]) (hr : Row w 5 1 vb l.length (bcells l)) (hN : Blk w bN [ptr (nb k)]) (hl : l.length + (S.nd k).seen.bytes.length ≤ 140737488355328) (n1 : ¬ P bb) (n2 : ∀ x, vb.ownBlock = some x → ¬ P x) :
    Calls Try.prog 87 #[ptr bb, ptr bN] w fun e w' => e = .returned (.tuple #[]) ∧
      Keeps w w' P ∧ ∃ P2 vn2 nb2 t2, DF w' p (S.appended k l) P2 vn2 nb2 t2 ∧ ∀ x, P2 x → grow P w w' x ∨ x = bb ∨ vb.ownBlock = some x := by
  obtain ⟨a, c, rfl⟩ : ∃ a c, vb = .slice a l.length c := by
    rcases hr.shape with ⟨rfl, e⟩ | ⟨g, cap, rfl, _⟩
    · rw [e]; exact ⟨_, _, rfl⟩
    · exact ⟨_, _, rfl⟩
  by_cases h0 : l = []
  · subst h0
    refine (app2_nil (bN := bN) (hb.cell 0)).mono ?_
    rintro e w' ⟨rfl, rfl⟩
    exact ⟨rfl, Keeps.refl _ _, P, vn, nb, t, h, fun x hx => .inl (.inl hx)⟩
  · have hpos : 0 < l.length := by cases l with
      | nil => exact absurd rfl h0
      | cons x t => simp
    have hs : StepVal w (.func (.func 89) #[] #[ptr bb]) (.app l) (fun x => x = bb ∨ (Value.slice a l.length c).ownBlock = some x) := ⟨bb, _, rfl, hb, hr, .inl rfl, fun x hx => .inr hx, hpos⟩
    have hadd := disk_add h hk hs (by rw [hdir]; rfl) (show (S.nd k).seen.bytes.length + l.length ≤ 140737488355328 by omega) (fun x hx => by rcases hx with rfl | hx; exact n1; exact n2 x hx) (fun x hx => by rcases hx with rfl | hx; exact hb.lt; exact hr.lt x hx) hll hpos
    refine (app2_core (hb.cell 0) hpos (hN.cell 0) hadd).mono ?_
    rintro e w' ⟨rfl, ⟨t', hd⟩, hk2⟩
    have e2 : S.appended k l = S.step k (.app l) := by unfold DS.appended; rw [if_neg h0]
    rw [e2]
    refine ⟨rfl, hk2, _, vn, nb, t', hd, ?_⟩
    rintro x (hx | hx | hx)
    · exact .inl hx
    · exact .inr (.inl hx)
    · exact .inr (.inr hx)

end Go.Proofs.Ytagjmphmdgklkaa

/- Walks: Append. -/
namespace Go.Proofs.Ytagjmphmdgklkaa
open Go.RowKit

theorem cell_alloc {W : World} {a : Addr} {v : Value} (o : Obj) (h : W.cell? a = some v) : (W.alloc o).cell? a = some v := by
  obtain ⟨b, j, q⟩ := a
  have hl : b < W.heap.size := by
    refine Decidable.byContradiction fun hn => ?_
    have : W.heap[b]? = none := by simp; omega
    simp [World.cell?, this] at h
  rw [World.cell?_of_block (w := W) (Below.heap_alloc W o b hl)]
  exact h

theorem ap_cap {w : World} {p : Nat} {room : Int} (sa : Option Addr) (sn sc b : Nat) (i : Int) (h : w.cell? ⟨p, 1, none⟩ = some (.int .i64 room)) (T0 T1 T2 T3 : TypeId) :
    ((((w.alloc (.cells #[.pointer (some ⟨p, 0, none⟩)] T0)).alloc (.cells #[.int .i64 i] T1)).alloc (.cells #[.slice sa sn sc] T2)).alloc (.cells #[.pointer (some ⟨b, 0, none⟩)] T3)).cell? ⟨p, 1, none⟩ = some (.int .i64 room) :=
  cell_alloc _ (cell_alloc _ (cell_alloc _ (cell_alloc _ h)))

theorem five_below {w : World} (a b c d e : Obj) : Below w.heap.size w (((((w.alloc a).alloc b).alloc c).alloc d).alloc e) := (four_below a b c d).alloc (by simp; omega) _

/-- the boxes of Append's variables -/
structure ABoxes (w W : World) (p b : Nat) (file : Int) (vb : Value) (room : Int) : Prop where
  below : Below w.heap.size w W
  b0 : Blk W w.heap.size [ptr p]
  b1 : Blk W (w.heap.size + 1) [.int .i64 file]
  b2 : Blk W (w.heap.size + 1 + 1) [vb]
  b3 : Blk W (w.heap.size + 1 + 1 + 1) [ptr b]
  b4 : Blk W (w.heap.size + 1 + 1 + 1 + 1) [.int .i64 room]

theorem aboxes_made (w : World) (p b : Nat) (file room : Int) (vb : Value) (T0 T1 T2 T3 T4 : TypeId) :
    ABoxes w (((((w.alloc (.cells #[.pointer (some ⟨p, 0, none⟩)] T0)).alloc (.cells #[.int .i64 file] T1)).alloc (.cells #[vb] T2)).alloc (.cells #[.pointer (some ⟨b, 0, none⟩)] T3)).alloc (.cells #[.int .i64 room] T4)) p b file vb room := by
  have al : ∀ {W : World} {k : Nat} {cs : List Value} (o : Obj), Blk W k cs → Blk (W.alloc o) k cs := fun o h => h.of_block (Below.heap_alloc _ _ _ h.lt)
  refine ⟨five_below _ _ _ _ _, ?_, ?_, ?_, ?_, ?_⟩
  · exact al _ (al _ (al _ (al _ (Blk.made w _ T0))))
  · have := Blk.made (w.alloc (.cells #[.pointer (some ⟨p, 0, none⟩)] T0)) #[.int .i64 file] T1
    simp only [World.size_alloc] at this
    exact al _ (al _ (al _ this))
  · have := Blk.made ((w.alloc (.cells #[.pointer (some ⟨p, 0, none⟩)] T0)).alloc (.cells #[.int .i64 file] T1)) #[vb] T2
    simp only [World.size_alloc] at this
    exact al _ (al _ this)
  · have := Blk.made (((w.alloc (.cells #[.pointer (some ⟨p, 0, none⟩)] T0)).alloc (.cells #[.int .i64 file] T1)).alloc (.cells #[vb] T2)) #[.pointer (some ⟨b, 0, none⟩)] T3
    simp only [World.size_alloc] at this
    exact al _ this
  · have := Blk.made ((((w.alloc (.cells #[.pointer (some ⟨p, 0, none⟩)] T0)).alloc (.cells #[.int .i64 file] T1)).alloc (.cells #[vb] T2)).alloc (.cells #[.pointer (some ⟨b, 0, none⟩)] T3)) #[.int .i64 room] T4
    simp only [World.size_alloc] at this
    exact this

set_option maxRecDepth 100000 in
set_option maxHeartbeats 1000000 in
theorem append_e1 {w : World} {p : Nat} {i e0 : Int} {sa : Option Addr} {sn sc : Nat} (ha : ∀ W, Below w.heap.size w W → Calls Try.prog 61 #[.pointer (some ⟨p, 0, none⟩), .int .i64 i, .bool false] W fun e w' => e = .returned (.tuple #[.pointer none, .int .i64 e0]) ∧ W = w')
    (hne : (e0 != 0) = true) : Calls Try.prog 39 #[.pointer (some ⟨p, 0, none⟩), .int .i64 i, (.slice sa sn sc)] w fun e w' => e = .returned (.int .i64 e0) ∧ Below w.heap.size w w' := by
  have HA := Lib.hid ha
  clear ha
  go_enter Try.func39, Try.ntmps39
  go_wp2_with (go_at_call 61; refine (HA.out _ ?_).mono ?_; exact three_below _ _ _; rintro e w' ⟨rfl, rfl⟩)
  go_ret
  exact ⟨rfl, four_below _ _ _ _⟩

/-- what is known of Append's first calls -/
structure ApPre (w : World) (p b : Nat) (i : Int) (vb : Value) (room y : Int) : Prop where
  of : ∀ W, Below w.heap.size w W → Calls Try.prog 61 #[.pointer (some ⟨p, 0, none⟩), .int .i64 i, .bool false] W fun e w' => e = .returned (.tuple #[.pointer (some ⟨b, 0, none⟩), .int .i64 0]) ∧ W = w'
  cap : w.cell? ⟨p, 1, none⟩ = some (.int .i64 room) ∧ p < w.heap.size
  reach : ∀ W, ABoxes w W p b i vb room → Calls Try.prog 83 #[.pointer (some ⟨p, 0, none⟩), .int .i64 1, .func (.func 84) #[] #[.pointer (some ⟨w.heap.size + 1 + 1 + 1 + 1, 0, none⟩), .pointer (some ⟨w.heap.size, 0, none⟩), .pointer (some ⟨w.heap.size + 1, 0, none⟩), .pointer (some ⟨w.heap.size + 1 + 1, 0, none⟩)]] W fun e w' =>
    e = .returned (.tuple #[]) ∧ Blk w' (w.heap.size + 1 + 1 + 1 + 1) [.int .i64 y] ∧ Keeps W w' (fun k => k = w.heap.size + 1 + 1 + 1 + 1)

set_option maxRecDepth 100000 in
set_option maxHeartbeats 1000000 in
theorem append_e2 {w : World} {p b : Nat} {i room y : Int} {sa : Option Addr} {sn sc : Nat} (h : ApPre w p b i (.slice sa sn sc) room y) (hy : y < 0) :
    Calls Try.prog 39 #[.pointer (some ⟨p, 0, none⟩), .int .i64 i, (.slice sa sn sc)] w fun e w' => e = .returned (.int .i64 11) ∧ Below w.heap.size w w' := by
  obtain ⟨ha, ⟨c1, hp⟩, hr⟩ := h
  have HA := Lib.hid ha
  have HR := Lib.hid hr
  have qa := ap_cap sa sn sc b i c1 26 3 34 98
  clear ha hr
  go_enter Try.func39, Try.ntmps39
  go_wp2_with (first | (go_at_call 61; refine (HA.out _ ?_).mono ?_; exact three_below _ _ _; rintro e w' ⟨rfl, rfl⟩) | (go_at_call 83; refine (HR.out _ ?_).mono ?_; exact aboxes_made _ _ _ _ _ _ _ _ _ _ _; rintro e w' ⟨rfl, hb, hk⟩; have q4 := hb.cell 0; simp only [List.getElem?_cons_zero] at q4; have HK := Lib.hid hk; clear hb hk))
  go_ret
  exact ⟨rfl, (five_below _ _ _ _ _).trans ⟨HK.out.os, HK.out.tape, HK.out.output, HK.out.size, fun k hk => HK.out.block k (by simp; omega) (fun e => by omega)⟩⟩

theorem ap_keep {w W W' : World} {k : Nat} (h : Below w.heap.size w W) (hk : Keeps W W' (fun x => x = k)) (hle : w.heap.size ≤ k) : Below w.heap.size w W' :=
  h.trans ⟨hk.os, hk.tape, hk.output, hk.size, fun j hj => hk.block j (by have := h.size; omega) (fun e => by omega)⟩

set_option maxRecDepth 100000 in
set_option maxHeartbeats 1000000 in
theorem append_e3 {w : World} {p b : Nat} {i room y : Int} {sa : Option Addr} {sn sc : Nat} (h : ApPre w p b i (.slice sa sn sc) room y) (hy : 0 ≤ y) {R : World → World → Prop} (hx : MkNext w p true R) :
    Calls Try.prog 39 #[.pointer (some ⟨p, 0, none⟩), .int .i64 i, .slice sa sn sc] w fun e w' => e = .returned (.int .i64 11) ∧ ∃ W, Below w.heap.size w W ∧ R W w' ∧ Keeps W w' (fun k => k = p) := by
  obtain ⟨ha, ⟨c1, hp⟩, hr⟩ := h
  have HA := Lib.hid ha
  have HR := Lib.hid hr
  have HX := Lib.hid hx
  have qa := ap_cap sa sn sc b i c1 26 3 34 98
  clear ha hr hx
  go_enter Try.func39, Try.ntmps39
  go_wp2_with (first | (go_at_call 61; refine (HA.out _ ?_).mono ?_; exact three_below _ _ _; rintro e w' ⟨rfl, rfl⟩) |
    (go_at_call 83; have hB := aboxes_made w p b i room (.slice sa sn sc) 26 3 34 98 3; refine (HR.out _ hB).mono ?_; rintro e w' ⟨rfl, hb, hk⟩; have q4 := hb.cell 0; simp only [List.getElem?_cons_zero] at q4; have q0 : w'.cell? ⟨w.heap.size, 0, none⟩ = some (.pointer (some ⟨p, 0, none⟩)) := hk.cell (hB.b0.cell 0) (by omega); have HBL := Lib.hid (ap_keep hB.below hk (by omega)); have HK := Lib.hid hk; clear hb hk hB) |
    (go_at_call 85; refine (HX.out.next _ HBL.out).mono ?_; rintro e w2 ⟨rfl, hR⟩; have HRR := Lib.hid hR; clear hR))
  go_ret
  exact ⟨rfl, _, HBL.out, HRR.out⟩

/-- what is known when Append's op comes -/
structure AppAt (w W : World) (p b : Nat) (R : World → World → Prop) (v : Value) (l : List UInt8) : Prop where
  pre : ∃ W6 W7, Below w.heap.size w W6 ∧ R W6 W7 ∧ Keeps W6 W7 (fun k => k = p) ∧ Keeps W7 W (fun k => k = w.heap.size + 1 + 1) ∧ w.heap.size + 1 + 1 < W7.heap.size
  b2 : Blk W (w.heap.size + 1 + 1) [v]
  b3 : Blk W (w.heap.size + 1 + 1 + 1) [ptr b]
  row : Row W 5 1 v l.length (bcells l)
  own : ∀ k, v.ownBlock = some k → w.heap.size + 1 + 1 < k

set_option maxRecDepth 100000 in
set_option maxHeartbeats 1000000 in
theorem append_e4 {w : World} {p b : Nat} {i room y z : Int} {sa : Option Addr} {sn sc : Nat} {l : List UInt8} (h : ApPre w p b i (.slice sa sn sc) room y) (hy : 0 ≤ y) {R : World → World → Prop} (hx : MkNext w p false R) {F : World → Prop}
    (hcl : ∀ W W7, Below w.heap.size w W → Keeps W W7 (fun k => k = p) → Calls Try.prog 62 #[.slice sa sn sc] W7 fun e w' => ∃ v', e = .returned v' ∧ Row w' 5 1 v' l.length (bcells l) ∧ Below W7.heap.size W7 w' ∧ (∀ k, v'.ownBlock = some k → W7.heap.size ≤ k ∧ k < w'.heap.size))
    (ho : ∀ W v, AppAt w W p b R v l → Calls Try.prog 86 #[.pointer (some ⟨p, 0, none⟩), .bool true, .func (.func 87) #[] #[.pointer (some ⟨w.heap.size + 1 + 1, 0, none⟩), .pointer (some ⟨w.heap.size + 1 + 1 + 1, 0, none⟩)]] W fun e w' => e = .returned (.int .i64 z) ∧ F w') :
    Calls Try.prog 39 #[.pointer (some ⟨p, 0, none⟩), .int .i64 i, .slice sa sn sc] w fun e w' => e = .returned (.int .i64 z) ∧ F w' := by
  obtain ⟨ha, ⟨c1, hp⟩, hr⟩ := h
  have HA := Lib.hid ha
  have HR := Lib.hid hr
  have HX := Lib.hid hx
  have HC := Lib.hid hcl
  have HO := Lib.hid ho
  have qa := ap_cap sa sn sc b i c1 26 3 34 98
  clear ha hr hx hcl ho
  go_enter Try.func39, Try.ntmps39
  go_wp2_with (first | (go_at_call 61; refine (HA.out _ ?_).mono ?_; exact three_below _ _ _; rintro e w' ⟨rfl, rfl⟩) |
    (go_at_call 83; have hB := aboxes_made w p b i room (.slice sa sn sc) 26 3 34 98 3; refine (HR.out _ hB).mono ?_; rintro e w' ⟨rfl, hb, hk⟩; have q4 := hb.cell 0; simp only [List.getElem?_cons_zero] at q4; have q0 : w'.cell? ⟨w.heap.size, 0, none⟩ = some (.pointer (some ⟨p, 0, none⟩)) := hk.cell (hB.b0.cell 0) (by omega); have HB0 := Lib.hid (hk.blk hB.b0 (by omega)); have HB2 := Lib.hid (hk.blk hB.b2 (by omega)); have HB3 := Lib.hid (hk.blk hB.b3 (by omega)); have HBL := Lib.hid (ap_keep hB.below hk (by omega)); have HK := Lib.hid hk; clear hb hk hB) |
    (go_at_call 85; refine (HX.out.next _ HBL.out).mono ?_; rintro e w2 ⟨rfl, hR, hk⟩; have HB20 := Lib.hid (hk.blk HB0.out (by omega)); have HB22 := Lib.hid (hk.blk HB2.out (by omega)); have HB23 := Lib.hid (hk.blk HB3.out (by omega)); have p2 : w2.cell? ⟨w.heap.size + 1 + 1, 0, none⟩ = some (.slice sa sn sc) := HB22.out.cell 0; have HRR := Lib.hid hR; have HK2 := Lib.hid hk; clear hR hk) |
    (go_at_call 62; refine (HC.out _ _ HBL.out HK2.out).mono ?_; rintro e w3 ⟨v', rfl, hrow, hbl, hown⟩; obtain ⟨a3, n3, c3, rfl⟩ := hrow.isSlice; have r2 : w3.cell? ⟨w.heap.size + 1 + 1, 0, none⟩ = some (.slice sa sn sc) := (HB22.out.of_block (hbl.block _ HB22.out.lt)).cell 0; have f2 := (HB22.out.of_block (hbl.block _ HB22.out.lt)).frozen 0; have HB33 := Lib.hid (HB23.out.of_block (hbl.block _ HB23.out.lt)); have HB32 := Lib.hid (HB22.out.of_block (hbl.block _ HB22.out.lt)); have HB30 := Lib.hid (HB20.out.of_block (hbl.block _ HB20.out.lt)); have r0 : (w3.setCell ⟨w.heap.size + 1 + 1, 0, none⟩ (.slice a3 n3 c3)).cell? ⟨w.heap.size, 0, none⟩ = some (.pointer (some ⟨p, 0, none⟩)) := ((keeps_cell w3 (w.heap.size + 1 + 1) 0 (.slice a3 n3 c3)).blk HB30.out (by omega)).cell 0; have HROW := Lib.hid hrow; have HBL3 := Lib.hid hbl; have HOWN := Lib.hid hown; clear hrow hbl hown) |
    (go_at_call 86; refine (HO.out _ (.slice a3 n3 c3) ?_).mono ?_; rotate_left 1; rintro e w4 ⟨rfl, hF⟩; have HF := Lib.hid hF; clear hF))
  · go_ret
    exact ⟨rfl, HF.out⟩
  · have l2 := HB22.out.lt
    have l3 := HB23.out.lt
    refine ⟨⟨_, _, HBL.out, HRR.out, HK2.out, (Keeps.of_below HBL3.out _).trans (keeps_cell _ _ _ _) (fun _ _ q => q), l2⟩, HB32.out.set 0 _, (keeps_cell _ _ _ _).blk HB33.out (by omega), HROW.out.of_block (fun k hk => (keeps_cell w3 (w.heap.size + 1 + 1) 0 _).block k (HROW.out.lt k hk) (fun e => by have := (HOWN.out k hk).1; omega)), fun k hk => by have := (HOWN.out k hk).1; omega⟩

end Go.Proofs.Ytagjmphmdgklkaa

/- Append, as a contract on the whole disk. -/
namespace Go.Proofs.Ytagjmphmdgklkaa
open Go.RowKit

/-- bytes that may be read outside P -/
def Src (w : World) (v : Value) (l : List UInt8) (P : Nat → Prop) : Prop :=
  (v = .slice none 0 0 ∧ l = []) ∨ ∃ (a : Addr) (n c : Nat), v = .slice (some a) n c ∧ l.length = n ∧ a.block < w.heap.size ∧ ¬ P a.block ∧ ∀ j u, (bcells l)[j]? = some u → w.cell? (a.add j) = some u

theorem Src.keep {w w' : World} {v : Value} {l : List UInt8} {P Q : Nat → Prop} (h : Src w v l P) (hk : Keeps w w' Q) (hq : ∀ x, Q x → P x) : Src w' v l P := by
  rcases h with h | ⟨a, n, c, h1, h2, h3, h4, h5⟩
  · exact .inl h
  · refine .inr ⟨a, n, c, h1, h2, Nat.lt_of_lt_of_le h3 hk.size, h4, fun j u hu => ?_⟩
    have e : (a.add j).block = a.block := by unfold Addr.add; split <;> rfl
    rw [World.cell?_of_block (w := w) (hk.block (a.add j).block (by rw [e]; exact h3) (fun q => h4 (hq _ (by rw [e] at q; exact q))))]
    exact h5 j u hu

theorem Src.clone {w : World} {v : Value} {l : List UInt8} {P : Nat → Prop} (h : Src w v l P) (hb : l.length ≤ 140737488355328) :
    Calls Try.prog 62 #[v] w fun e w' => ∃ v', e = .returned v' ∧ Row w' 5 1 v' l.length (bcells l) ∧ Below w.heap.size w w' ∧ (∀ k, v'.ownBlock = some k → w.heap.size ≤ k ∧ k < w'.heap.size) := by
  rcases h with ⟨rfl, rfl⟩ | ⟨a, n, c, rfl, h2, h3, h4, h5⟩
  · refine (bytes_clone_nil w).mono ?_
    rintro e w' ⟨rfl, rfl⟩
    exact ⟨_, rfl, Row.nil _ _ _, Below.refl _ _, by intro k hk; simp [Value.ownBlock] at hk⟩
  · exact bytes_clone2 h2 h5 hb

theorem Src.shape {w : World} {v : Value} {l : List UInt8} {P : Nat → Prop} (h : Src w v l P) : ∃ a c, v = .slice a l.length c := by
  rcases h with ⟨rfl, rfl⟩ | ⟨a, n, c, rfl, h2, h3, h4⟩
  · exact ⟨_, _, rfl⟩
  · subst h2; exact ⟨_, _, rfl⟩

def DS.total (S : DS) (i : Int) (lb : Nat) : Nat := rsum S i lb S.nodes.length 1
def DS.append (S : DS) (i : Int) (l : List UInt8) : DS × Int :=
  if ofErr S i false ≠ 0 then (S, ofErr S i false)
  else if S.capacity < S.total i l.length then (S, 11)
  else if fired S.fullIs S.fullAfter then (S.fulled, 11)
  else (if S.runs then S.fulled.after ((S.fulled.ticked true).appended (i - 1).toNat l) else { S.fulled.ticked true with down := true }, if S.fires then 12 else 0)

/-- the op of Append -/
theorem app_op {w : World} {p : Nat} {S : DS} {P : Nat → Prop} {vn : Value} {nb : Nat → Nat} {t : Nat → Nat} (h : DF w p S P vn nb t) (hsm : DSmall S) {k : Nat} (hk : k < S.nodes.length) (hdir : (S.nd k).dir = false) (hll : (S.nd k).loose.length ≤ 1000000)
    {bb bN : Nat} {vb : Value} {l : List UInt8} (hb : Blk w bb [vb]) (hr : Row w 5 1 vb l.length (bcells l)) (hN : Blk w bN [ptr (nb k)]) (hl : l.length + (S.nd k).seen.bytes.length ≤ 140737488355328) (n1 : ¬ P bb) (n2 : ∀ x, vb.ownBlock = some x → ¬ P x) (n3 : ¬ P bN) :
    Calls Try.prog 86 #[ptr p, .bool true, .func (.func 87) #[] #[ptr bb, ptr bN]] w fun e w' =>
      e = .returned (.int .i64 (if S.fires then 12 else 0)) ∧ Keeps w w' (fun y => P y ∨ y = bb ∨ vb.ownBlock = some y) ∧
        ∃ P2, DAt w' p (if S.runs then S.after ((S.ticked true).appended k l) else { S.ticked true with down := true }) P2 ∧ ∀ y, P2 y → grow P w w' y ∨ y = bb ∨ vb.ownBlock = some y := by
  have pp := h.pP
  refine (op_any h hsm true (g := 87) (enters_of Try.func87 (by kernel_rfl) rfl) (S2 := (S.ticked true).appended k l) (E := fun y => y = bb ∨ vb.ownBlock = some y)
    (X := fun W => True) (fun a b hk hx => trivial) (fun _ w1 hk1 hdf => ?_)).mono ?_
  · have kb : ∀ {b : Nat} {cs : List Value}, Blk w b cs → ¬ P b → Blk w1 b cs := fun hb hn => hk1.blk hb (fun e => hn (e ▸ pp))
    refine (app2_any hdf (k := k) hk hdir hll (kb hb n1) (hr.of_block fun x hx => hk1.block x (hr.lt x hx) (fun e => n2 x hx (e ▸ pp))) (kb hN n3) hl n1 n2).mono ?_
    rintro e w2 ⟨rfl, hkp, P2, vn2, nb2, t2, hd2, hg⟩
    exact ⟨rfl, trivial, hkp.mono (fun _ q => .inl q), P2, ⟨vn2, nb2, t2, hd2⟩, hg⟩
  · rintro e w' ⟨rfl, hkp, hrun, hskip⟩
    refine ⟨rfl, hkp, ?_⟩
    cases hr : S.runs with
    | true =>
      obtain ⟨_, P2, hd2, hg⟩ := hrun hr
      exact ⟨P2, by simpa using hd2, hg⟩
    | false => exact ⟨P, by simpa using hskip hr, fun y hy => .inl (.inl hy)⟩

structure Fine (S : DS) : Prop where
  small : DSmall S
  loose : ∀ k, k < S.nodes.length → (S.nd k).loose.length ≤ 1000000
  leads : Leads S
  root : (S.nd 0).dir = true
  one : 1 ≤ S.nodes.length
  cap0 : 0 ≤ S.capacity
  cap : S.capacity ≤ 9223372036854775807

theorem append_any {w : World} {p : Nat} {S : DS} {P : Nat → Prop} (hd : DAt w p S P) (hf : Fine S) (i : Int) {vb : Value} {l : List UInt8} (hsrc : Src w vb l P) (hby : ∀ k, k < S.nodes.length → (S.nd k).seen.bytes.length + l.length ≤ 140737488355328)
    (htot : S.total i l.length + l.length ≤ 4611686018427387904) :
    Calls Try.prog 39 #[ptr p, .int .i64 i, vb] w fun e w' => e = .returned (.int .i64 (S.append i l).2) ∧ Leaves w w' p (S.append i l).1 P := by
  obtain ⟨vn, nb, t, h⟩ := hd
  have plt := h.plt
  have hsm := hf.small
  have stay : ∀ w', Below w.heap.size w w' → Leaves w w' p S P := fun w' hb => ⟨Keeps.of_below hb P, P, ⟨vn, nb, t, h.below hb⟩, fun k hk => .inl hk⟩
  have hof : ∀ W, Below w.heap.size w W → _ := fun W hW => of_any (h.below hW) i false
  obtain ⟨sa, sc, rfl⟩ := hsrc.shape
  have hlb : l.length ≤ 140737488355328 := by have := hby 0 (by have := hf.one; omega); omega
  by_cases h0 : ofErr S i false = 0
  · obtain ⟨hdn, k, rfl, hk, hdir⟩ := ofErr_zero h0
    have e3 : ((k : Int) + 1 - 1).toNat = k := by omega
    have e2 : ofPtr S nb ((k : Int) + 1) false = ptr (nb k) := by unfold ofPtr; rw [if_pos h0, e3]
    rw [e2, h0] at hof
    have hPl : ∀ x, P x → x < w.heap.size := h.lt
    have hcap0 := hf.cap0
    have hcap := hf.cap
    have pre : ApPre w p (nb k) ((k : Int) + 1) (.slice sa l.length sc) S.capacity (S.capacity - (S.total ((k : Int) + 1) l.length : Nat)) := by
      refine ⟨fun W hW => hof W hW, ⟨h.blk.cell 1, plt⟩, fun W hB => ?_⟩
      have s1 := hB.below.size
      have l0 := hB.b0.lt
      have l1 := hB.b1.lt
      have l2 := hB.b2.lt
      refine reach_any hf.leads (fun j hj => by have := hby j hj; omega) hlb h.len (fun hp => by have := hPl _ hp; omega) S.nodes.length 1 W S.capacity (h.below hB.below) ⟨hB.b0.cell 0, hB.b1.cell 0, ⟨sa, sc, hB.b2.cell 0⟩, by omega, by omega, by omega, l0, l1, l2⟩ hB.b4 (Nat.le_refl 1) hf.one (by have := hf.one; omega) hf.root hcap ?_
      show -4611686018427387904 + (l.length : Int) ≤ S.capacity - (S.total ((k : Int) + 1) l.length : Nat)
      omega
    by_cases hroom : S.capacity < S.total ((k : Int) + 1) l.length
    · have er : S.append ((k : Int) + 1) l = (S, 11) := by unfold DS.append; rw [if_neg (by simpa using h0), if_pos hroom]
      rw [er]
      refine (append_e2 pre (by omega)).mono ?_
      rintro e w' ⟨rfl, hb⟩
      exact ⟨rfl, stay w' hb⟩
    · have nx : ∀ W, Below w.heap.size w W → Calls Try.prog 85 #[.pointer (some ⟨p, 8, none⟩)] W fun e w' => e = .returned (.bool (fired S.fullIs S.fullAfter)) ∧ DF w' p S.fulled P vn nb t ∧ Keeps W w' (fun k => k = p) := fun W hW => by
        refine (next_walk (o := 8) (h.below hW).blk rfl rfl hsm.fu).mono ?_
        rintro e w' ⟨rfl, hk, hb⟩
        exact ⟨rfl, (h.below hW).reset hk hb rfl, hk⟩
      cases hfi : fired S.fullIs S.fullAfter with
      | true =>
        have er : S.append ((k : Int) + 1) l = (S.fulled, 11) := by unfold DS.append; rw [if_neg (by simpa using h0), if_neg hroom, if_pos hfi]
        rw [er]
        refine (append_e3 (R := fun _ w' => DF w' p S.fulled P vn nb t) pre (by omega) ⟨fun W hW => by rw [← hfi]; exact nx W hW⟩).mono ?_
        rintro e w' ⟨rfl, W, hW, hdf, hk⟩
        exact ⟨rfl, (Keeps.of_below hW P).trans hk (fun x _ q => by rw [q]; exact h.pP), P, ⟨vn, nb, t, hdf⟩, fun k hk => .inl hk⟩
      | false =>
        have er : S.append ((k : Int) + 1) l = (if S.runs then S.fulled.after ((S.fulled.ticked true).appended k l) else { S.fulled.ticked true with down := true }, if S.fires then 12 else 0) := by
          unfold DS.append; rw [if_neg (by simpa using h0), if_neg hroom, if_neg (by simp [hfi]), e3]
        rw [er]
        have hsm' : DSmall S.fulled := ⟨hsm.ops0, hsm.ops, hsm.ch0, hsm.ch, hsm.fa, by
          have := hsm.fu
          show tAfter S.fullIs S.fullAfter ≤ _
          unfold tAfter
          split <;> omega⟩
        refine (append_e4 (l := l) (R := fun _ w' => DF w' p S.fulled P vn nb t) (z := if S.fires then 12 else 0)
          (F := fun w' => Leaves w w' p (if S.runs then S.fulled.after ((S.fulled.ticked true).appended k l) else { S.fulled.ticked true with down := true }) P)
          pre (by omega) ⟨fun W hW => by rw [← hfi]; exact nx W hW⟩ (fun W W7 hB hK => ?_) (fun W v hA => ?_)).mono ?_
        · have hs7 := (hsrc.keep (Keeps.of_below hB (fun _ => False)) (fun _ q => q.elim)).keep hK (fun x e => e ▸ h.pP)
          exact hs7.clone hlb
        · obtain ⟨⟨W6, W7, hb6, hdf7, hk67, hk7, hlt⟩, hb2, hb3, hrow, hown⟩ := hA
          have s6 := hb6.size
          have s67 := hk67.size
          have s7 := hk7.size
          have hdf : DF W p S.fulled P vn nb t := hdf7.keep hk7 (fun x e hp => by have := hPl x hp; omega)
          refine (app_op hdf hsm' (k := k) hk hdir (hf.loose k hk) hb2 hrow hb3 (by have := hby k hk; show l.length + (S.nd k).seen.bytes.length ≤ _; omega) (fun hp => by have := hPl _ hp; omega) (fun x hx hp => by have := hPl _ hp; have := hown x hx; omega) (fun hp => by have := hPl _ hp; omega)).mono ?_
          rintro e w' ⟨rfl, hkp, P2, hd2, hg⟩
          have s3 := hkp.size
          refine ⟨rfl, ?_, P2, hd2, fun y hy => ?_⟩
          · refine (((Keeps.of_below hb6 P).trans hk67 (fun x _ q => by rw [q]; exact h.pP)).trans hk7 (fun x hx q => by omega)).trans hkp (fun x hx q => ?_)
            rcases q with q | q | q
            · exact q
            · omega
            · have := hown x q; omega
          · rcases hg y hy with (h5 | h5) | h5 | h5
            · exact .inl h5
            · exact .inr ⟨by have := h5.1; omega, h5.2⟩
            · exact .inr ⟨by omega, by have := hb2.lt; omega⟩
            · exact .inr ⟨by have := hown y h5; omega, by have := hrow.lt y h5; omega⟩
        · rintro e w' ⟨rfl, hF⟩
          exact ⟨rfl, hF⟩
  · have e2 : ofPtr S nb i false = .pointer none := by unfold ofPtr; rw [if_neg h0]
    have er : S.append i l = (S, ofErr S i false) := by unfold DS.append; rw [if_pos h0]
    rw [er]
    rw [e2] at hof
    refine (append_e1 (fun W hW => hof W hW) (by simpa using h0)).mono ?_
    rintro e w' ⟨rfl, hb⟩
    exact ⟨rfl, stay w' hb⟩

end Go.Proofs.Ytagjmphmdgklkaa

/- Walks: Cut. -/
namespace Go.Proofs.Ytagjmphmdgklkaa
open Go.RowKit

set_option maxRecDepth 100000 in
set_option maxHeartbeats 1000000 in
theorem cut1_core {w : World} {bs bN b : Nat} (hN : w.cell? ⟨bN, 0, none⟩ = some (.pointer (some ⟨b, 0, none⟩))) {R : World → Prop}
    (ha : Calls Try.prog 88 #[.pointer (some ⟨b, 0, none⟩), .agg #[.int .i64 1, .func (.func 100) #[] #[.pointer (some ⟨bs, 0, none⟩)]]] w fun e w' => e = .returned (.tuple #[]) ∧ R w') :
    Calls Try.prog 99 #[.pointer (some ⟨bN, 0, none⟩), .pointer (some ⟨bs, 0, none⟩)] w fun e w' => e = .returned (.tuple #[]) ∧ R w' := by
  have HA := Lib.hid ha
  clear ha
  go_enter Try.func99, Try.ntmps99
  go_wp2_with (go_at_call 88; refine HA.out.mono ?_; rintro e w' ⟨rfl, hR⟩; have HR := Lib.hid hR; clear hR)
  go_end0
  exact ⟨rfl, HR.out⟩

def DS.cut (S : DS) (i n : Int) : DS × Int :=
  if ofErr S i false ≠ 0 then (S, ofErr S i false)
  else if n < 0 ∨ ((S.nd (i - 1).toNat).seen.bytes.length : Int) < n then (S, 13)
  else S.opped true (fun T => T.step (i - 1).toNat (.cut n.toNat))

set_option maxRecDepth 100000 in
set_option maxHeartbeats 1000000 in
theorem cut_e1 {w : World} {p : Nat} {i n e0 : Int} (ha : ∀ W, Below w.heap.size w W → Calls Try.prog 61 #[.pointer (some ⟨p, 0, none⟩), .int .i64 i, .bool false] W fun e w' => e = .returned (.tuple #[.pointer none, .int .i64 e0]) ∧ W = w')
    (hne : (e0 != 0) = true) : Calls Try.prog 49 #[.pointer (some ⟨p, 0, none⟩), .int .i64 i, .int .i64 n] w fun e w' => e = .returned (.int .i64 e0) ∧ Below w.heap.size w w' := by
  have HA := Lib.hid ha
  clear ha
  go_enter Try.func49, Try.ntmps49
  go_wp2_with (go_at_call 61; refine (HA.out _ ?_).mono ?_; exact ((Below.refl _ _).alloc (Nat.le_refl _) _); rintro e w' ⟨rfl, rfl⟩)
  go_ret
  exact ⟨rfl, ((Below.refl _ _).alloc (Nat.le_refl _) _).alloc (by simp) _⟩

structure CBoxes (w W : World) (b : Nat) (n : Int) : Prop where
  below : Below w.heap.size w W
  b0 : Blk W w.heap.size [.int .i64 n]
  b1 : Blk W (w.heap.size + 1) [ptr b]

theorem cboxes_made (w : World) (b : Nat) (n : Int) (T0 T1 : TypeId) : CBoxes w ((w.alloc (.cells #[.int .i64 n] T0)).alloc (.cells #[.pointer (some ⟨b, 0, none⟩)] T1)) b n := by
  refine ⟨((Below.refl _ _).alloc (Nat.le_refl _) _).alloc (by simp) _, (Blk.made w _ T0).of_block (Below.heap_alloc _ _ _ (by simp)), ?_⟩
  have := Blk.made (w.alloc (.cells #[.int .i64 n] T0)) #[.pointer (some ⟨b, 0, none⟩)] T1
  simp only [World.size_alloc] at this
  exact this

structure CutPre (w : World) (p b : Nat) (i : Int) (len : Nat) : Prop where
  of : ∀ W, Below w.heap.size w W → Calls Try.prog 61 #[.pointer (some ⟨p, 0, none⟩), .int .i64 i, .bool false] W fun e w' => e = .returned (.tuple #[.pointer (some ⟨b, 0, none⟩), .int .i64 0]) ∧ W = w'
  c3 : ∃ a c, w.cell? ⟨b, 3, none⟩ = some (.slice a len c)
  lt : b < w.heap.size

set_option maxRecDepth 100000 in
set_option maxHeartbeats 1000000 in
theorem cut_e2 {w : World} {p b len : Nat} {i n : Int} (h : CutPre w p b i len) (hbad : n < 0 ∨ (len : Int) < n) :
    Calls Try.prog 49 #[.pointer (some ⟨p, 0, none⟩), .int .i64 i, .int .i64 n] w fun e w' => e = .returned (.int .i64 13) ∧ Below w.heap.size w w' := by
  obtain ⟨ha, ⟨a, c, c3⟩, hlt⟩ := h
  have HA := Lib.hid ha
  clear ha
  have hB := cboxes_made w b n 3 98
  rcases hbad with h1 | h1
  · have g1 : decide (n < 0) = true := by simpa using h1
    go_enter Try.func49, Try.ntmps49
    go_wp2_with (go_at_call 61; refine (HA.out _ ?_).mono ?_; exact ((Below.refl _ _).alloc (Nat.le_refl _) _); rintro e w' ⟨rfl, rfl⟩)
    generalize ((w.alloc (.cells #[.int .i64 n] 3)).alloc (.cells #[.pointer (some ⟨b, 0, none⟩)] 98)) = W at *
    have q3 := (hB.below.cell (p := ⟨b, 3, none⟩) hlt).trans c3
    have q0 : W.cell? ⟨w.heap.size, 0, none⟩ = some (.int .i64 n) := hB.b0.cell 0
    have q1 : W.cell? ⟨w.heap.size + 1, 0, none⟩ = some (.pointer (some ⟨b, 0, none⟩)) := hB.b1.cell 0
    have HB := Lib.hid hB.below
    clear hB c3
    go_region
    all_goals
      go_wp2
      go_ret
      exact ⟨rfl, HB.out.drew⟩
  · have g1 : decide (n < 0) = false := by simp; omega
    have g2 : decide ((len : Int) < n) = true := by simpa using h1
    go_enter Try.func49, Try.ntmps49
    go_wp2_with (go_at_call 61; refine (HA.out _ ?_).mono ?_; exact ((Below.refl _ _).alloc (Nat.le_refl _) _); rintro e w' ⟨rfl, rfl⟩)
    generalize ((w.alloc (.cells #[.int .i64 n] 3)).alloc (.cells #[.pointer (some ⟨b, 0, none⟩)] 98)) = W at *
    have q3 := (hB.below.cell (p := ⟨b, 3, none⟩) hlt).trans c3
    have q0 : W.cell? ⟨w.heap.size, 0, none⟩ = some (.int .i64 n) := hB.b0.cell 0
    have q1 : W.cell? ⟨w.heap.size + 1, 0, none⟩ = some (.pointer (some ⟨b, 0, none⟩)) := hB.b1.cell 0
    have HB := Lib.hid hB.below
    clear hB c3
    go_region
    all_goals
      go_wp2
      go_ret
      exact ⟨rfl, HB.out.drew⟩

set_option maxRecDepth 100000 in
set_option maxHeartbeats 1000000 in
theorem cut_e3 {w : World} {p b len : Nat} {i n z : Int} (h : CutPre w p b i len) (h0 : 0 ≤ n) (h1 : n ≤ len) {F : World → Prop}
    (ho : ∀ W, CBoxes w W b n → Calls Try.prog 86 #[.pointer (some ⟨p, 0, none⟩), .bool true, .func (.func 99) #[] #[.pointer (some ⟨w.heap.size + 1, 0, none⟩), .pointer (some ⟨w.heap.size, 0, none⟩)]] W fun e w' => e = .returned (.int .i64 z) ∧ F w') :
    Calls Try.prog 49 #[.pointer (some ⟨p, 0, none⟩), .int .i64 i, .int .i64 n] w fun e w' => e = .returned (.int .i64 z) ∧ F w' := by
  obtain ⟨ha, ⟨a, c, c3⟩, hlt⟩ := h
  have HA := Lib.hid ha
  have HO := Lib.hid ho
  clear ha ho
  have hB := cboxes_made w b n 3 98
  have g1 : decide (n < 0) = false := by simp; omega
  have g2 : decide ((len : Int) < n) = false := by simp; omega
  go_enter Try.func49, Try.ntmps49
  go_wp2_with (go_at_call 61; refine (HA.out _ ?_).mono ?_; exact ((Below.refl _ _).alloc (Nat.le_refl _) _); rintro e w' ⟨rfl, rfl⟩)
  generalize ((w.alloc (.cells #[.int .i64 n] 3)).alloc (.cells #[.pointer (some ⟨b, 0, none⟩)] 98)) = W at *
  have q3 := (hB.below.cell (p := ⟨b, 3, none⟩) hlt).trans c3
  have q0 : W.cell? ⟨w.heap.size, 0, none⟩ = some (.int .i64 n) := hB.b0.cell 0
  have q1 : W.cell? ⟨w.heap.size + 1, 0, none⟩ = some (.pointer (some ⟨b, 0, none⟩)) := hB.b1.cell 0
  have HB := Lib.hid (⟨hB.below.drew, hB.b0, hB.b1⟩ : CBoxes w W.drew b n)
  clear hB c3
  go_region
  all_goals
    go_wp2_with (go_at_call 86; refine (HO.out _ HB.out).mono ?_; rintro e w' ⟨rfl, hF⟩; have HF := Lib.hid hF; clear hF)
    go_ret
    exact ⟨rfl, HF.out⟩

/-- from an op behind fresh boxes to the whole -/
theorem leaves_of {w W w' : World} {p : Nat} {S2 : DS} {P E : Nat → Prop} (hb : Below w.heap.size w W) (hP : ∀ k, P k → k < w.heap.size) (hE : ∀ k, E k → w.heap.size ≤ k ∧ k < W.heap.size) (hk : Keeps W w' (fun k => P k ∨ E k)) (hd : ∃ P2, DAt w' p S2 P2 ∧ ∀ k, P2 k → grow P W w' k ∨ E k) : Leaves w w' p S2 P := by
  obtain ⟨P2, hd2, hg⟩ := hd
  have s1 := hb.size
  have s2 := hk.size
  refine ⟨(Keeps.of_below hb P).trans hk (fun x hx q => ?_), P2, hd2, fun y hy => ?_⟩
  · rcases q with q | q
    · exact q
    · have := (hE x q).1; omega
  · rcases hg y hy with (h5 | h5) | h5
    · exact .inl h5
    · exact .inr ⟨by have := h5.1; omega, h5.2⟩
    · exact .inr ⟨(hE y h5).1, by have := (hE y h5).2; omega⟩

theorem cut_any {w : World} {p : Nat} {S : DS} {P : Nat → Prop} (hd : DAt w p S P) (hsm : DSmall S) (hll : ∀ k, k < S.nodes.length → (S.nd k).loose.length ≤ 1000000) (i n : Int) :
    Calls Try.prog 49 #[ptr p, .int .i64 i, .int .i64 n] w fun e w' => e = .returned (.int .i64 (S.cut i n).2) ∧ Leaves w w' p (S.cut i n).1 P := by
  obtain ⟨vn, nb, t, h⟩ := hd
  have stay : ∀ w', Below w.heap.size w w' → Leaves w w' p S P := fun w' hb => ⟨Keeps.of_below hb P, P, ⟨vn, nb, t, h.below hb⟩, fun k hk => .inl hk⟩
  have hof : ∀ W, Below w.heap.size w W → _ := fun W hW => of_any (h.below hW) i false
  by_cases h0 : ofErr S i false = 0
  · obtain ⟨hdn, k, rfl, hk, hdir⟩ := ofErr_zero h0
    have e3 : ((k : Int) + 1 - 1).toNat = k := by omega
    have e2 : ofPtr S nb ((k : Int) + 1) false = ptr (nb k) := by unfold ofPtr; rw [if_pos h0, e3]
    rw [e2, h0] at hof
    have hn := h.nodes k hk
    rw [← S.nd_at hk] at hn
    obtain ⟨vb, c3, hrb, _⟩ := hn.fileBytes
    obtain ⟨a, c, rfl⟩ : ∃ a c, vb = .slice a (S.nd k).seen.bytes.length c := by
      rcases hrb.shape with ⟨rfl, e⟩ | ⟨g, cap, rfl, _⟩
      · rw [e]; exact ⟨_, _, rfl⟩
      · exact ⟨_, _, rfl⟩
    have pre : CutPre w p (nb k) ((k : Int) + 1) (S.nd k).seen.bytes.length := ⟨fun W hW => hof W hW, ⟨a, c, c3⟩, hn.lt⟩
    by_cases hbad : n < 0 ∨ ((S.nd k).seen.bytes.length : Int) < n
    · have er : S.cut ((k : Int) + 1) n = (S, 13) := by unfold DS.cut; rw [if_neg (by simpa using h0), e3, if_pos hbad]
      rw [er]
      refine (cut_e2 pre hbad).mono ?_
      rintro e w' ⟨rfl, hb⟩
      exact ⟨rfl, stay w' hb⟩
    · have er : S.cut ((k : Int) + 1) n = S.opped true (fun T => T.step k (.cut n.toNat)) := by unfold DS.cut; rw [if_neg (by simpa using h0), e3, if_neg hbad]
      rw [er]
      obtain ⟨m, rfl⟩ : ∃ m : Nat, n = (m : Int) := ⟨n.toNat, by omega⟩
      have hm : m ≤ (S.nd k).seen.bytes.length := by omega
      rw [Int.toNat_natCast]
      refine cut_e3 pre (by omega) (by omega) (fun W hB => ?_)
      have hPl : ∀ x, P x → x < w.heap.size := h.lt
      have l0 := hB.b0.lt
      have l1 := hB.b1.lt
      refine (op_work (h.below hB.below) hsm true (g := 99) (first := #[]) (enters_of Try.func99 (by kernel_rfl) rfl) (fun T => T.step k (.cut m)) (E := fun y => y = w.heap.size) (fun w1 hk1 hdf => ?_)).mono ?_
      · have b0 := hk1.blk hB.b0 (fun e => by have := hPl p h.pP; omega)
        have b1 := hk1.blk hB.b1 (fun e => by have := hPl p h.pP; omega)
        have hs : StepVal w1 (.func (.func 100) #[] #[ptr w.heap.size]) (.cut m) (fun x => x = w.heap.size) := ⟨_, rfl, b0, rfl⟩
        have hadd := disk_add hdf (k := k) hk hs (by show (!(S.nd k).dir) = true; rw [hdir]; rfl) hm (fun x hx hp => by have := hPl x hp; omega) (fun x hx => by rw [hx]; exact b0.lt) (hll k hk) (by simp [St.parts])
        refine (cut1_core (b1.cell 0) hadd).mono ?_
        rintro e w2 ⟨rfl, ⟨t', hd2⟩, hk2⟩
        exact ⟨rfl, hk2, _, ⟨_, _, _, hd2⟩, fun x hx => hx⟩
      · rintro e w' ⟨rfl, hkp, hd2⟩
        exact ⟨rfl, leaves_of hB.below hPl (fun k hk => by subst hk; exact ⟨Nat.le_refl _, l0⟩) hkp hd2⟩
  · have e2 : ofPtr S nb i false = .pointer none := by unfold ofPtr; rw [if_neg h0]
    have er : S.cut i n = (S, ofErr S i false) := by unfold DS.cut; rw [if_pos h0]
    rw [er]
    rw [e2] at hof
    refine (cut_e1 (fun W hW => hof W hW) (by simpa using h0)).mono ?_
    rintro e w' ⟨rfl, hb⟩
    exact ⟨rfl, stay w' hb⟩

end Go.Proofs.Ytagjmphmdgklkaa

/- Walks: Unlink. -/
namespace Go.Proofs.Ytagjmphmdgklkaa
open Go.RowKit

set_option maxRecDepth 100000 in
set_option maxHeartbeats 1000000 in
theorem unl1_core {w : World} {bd bi bs p b g cap n k : Nat} (hd : w.cell? ⟨bd, 0, none⟩ = some (.pointer (some ⟨p, 0, none⟩))) (hi : w.cell? ⟨bi, 0, none⟩ = some (.int .i64 ((k : Int) + 1))) (c0 : w.cell? ⟨p, 0, none⟩ = some (.slice (some ⟨g, 0, none⟩) n cap))
    (hn : n ≤ 4096) (hk : k < n) (ck : w.cell? ⟨g, k, none⟩ = some (.pointer (some ⟨b, 0, none⟩))) {R : World → Prop}
    (ha : Calls Try.prog 88 #[.pointer (some ⟨b, 0, none⟩), .agg #[.int .i64 1, .func (.func 102) #[] #[.pointer (some ⟨bs, 0, none⟩)]]] w.drew fun e w' => e = .returned (.tuple #[]) ∧ R w') :
    Calls Try.prog 101 #[.pointer (some ⟨bd, 0, none⟩), .pointer (some ⟨bi, 0, none⟩), .pointer (some ⟨bs, 0, none⟩)] w fun e w' => e = .returned (.tuple #[]) ∧ R w' := by
  have HA := Lib.hid ha
  have w0 : IntKind.i64.wrap (k : Int) = (k : Int) := IntWalk.i64_in _ (by omega)
  clear ha
  go_enter Try.func101, Try.ntmps101
  go_wp2
  go_region_with (go_at_call 88; refine HA.out.mono ?_; rintro e w' ⟨rfl, hR⟩; have HR := Lib.hid hR; clear hR)
  all_goals
    go_end0
    exact ⟨rfl, HR.out⟩

def DS.unlink (S : DS) (i : Int) (s : ByteArray) : DS × Int :=
  if findErr S i s ≠ 0 then (S, findErr S i s)
  else if (S.nd (findVal S i s - 1)).dir then (S, 10)
  else S.opped true (fun T => T.step (i - 1).toNat (.unl s))

structure UBoxes (w W : World) (p : Nat) (i : Int) (s : ByteArray) : Prop where
  below : Below w.heap.size w W
  b0 : Blk W w.heap.size [ptr p]
  b1 : Blk W (w.heap.size + 1) [.int .i64 i]
  b2 : Blk W (w.heap.size + 1 + 1) [.string s]

theorem uboxes_made (w : World) (p : Nat) (i : Int) (s : ByteArray) (T0 T1 T2 : TypeId) : UBoxes w (((w.alloc (.cells #[.pointer (some ⟨p, 0, none⟩)] T0)).alloc (.cells #[.int .i64 i] T1)).alloc (.cells #[.string s] T2)) p i s := by
  have al : ∀ {W : World} {k : Nat} {cs : List Value} (o : Obj), Blk W k cs → Blk (W.alloc o) k cs := fun o h => h.of_block (Below.heap_alloc _ _ _ h.lt)
  refine ⟨three_below _ _ _, al _ (al _ (Blk.made w _ T0)), ?_, ?_⟩
  · have := Blk.made (w.alloc (.cells #[.pointer (some ⟨p, 0, none⟩)] T0)) #[.int .i64 i] T1
    simp only [World.size_alloc] at this
    exact al _ this
  · have := Blk.made ((w.alloc (.cells #[.pointer (some ⟨p, 0, none⟩)] T0)).alloc (.cells #[.int .i64 i] T1)) #[.string s] T2
    simp only [World.size_alloc] at this
    exact this

set_option maxRecDepth 100000 in
set_option maxHeartbeats 1000000 in
theorem unlink_e1 {w : World} {p : Nat} {i e0 j : Int} {s : ByteArray} (ha : ∀ W, Below w.heap.size w W → Calls Try.prog 18 #[.pointer (some ⟨p, 0, none⟩), .int .i64 i, .string s] W fun e w' => e = .returned (.tuple #[.int .i64 j, .int .i64 e0]) ∧ Below W.heap.size W w')
    (hne : (e0 != 0) = true) : Calls Try.prog 52 #[.pointer (some ⟨p, 0, none⟩), .int .i64 i, .string s] w fun e w' => e = .returned (.int .i64 e0) ∧ Below w.heap.size w w' := by
  have HA := Lib.hid ha
  clear ha
  have HB := Lib.hid (uboxes_made w p i s 26 3 9)
  go_enter Try.func52, Try.ntmps52
  go_wp2_with (go_at_call 18; refine (HA.out _ HB.out.below).mono ?_; rintro e w' ⟨rfl, hb⟩; have HBB := Lib.hid hb; clear hb)
  go_ret
  exact ⟨rfl, HB.out.below.trans (HBB.out.mono HB.out.below.size)⟩

end Go.Proofs.Ytagjmphmdgklkaa

/- Unlink, as a contract on the whole disk. -/
namespace Go.Proofs.Ytagjmphmdgklkaa
open Go.RowKit

structure UPre (w : World) (p : Nat) (i : Int) (s : ByteArray) (j : Nat) (isDir : Bool) : Prop where
  find : ∀ W, Below w.heap.size w W → Calls Try.prog 18 #[.pointer (some ⟨p, 0, none⟩), .int .i64 i, .string s] W fun e w' => e = .returned (.tuple #[.int .i64 ((j : Int) + 1), .int .i64 0]) ∧ W = w'
  cells : ∃ g n cap b, w.cell? ⟨p, 0, none⟩ = some (.slice (some ⟨g, 0, none⟩) n cap) ∧ p < w.heap.size ∧ n ≤ 4096 ∧ j < n ∧ w.cell? ⟨g, j, none⟩ = some (.pointer (some ⟨b, 0, none⟩)) ∧ g < w.heap.size ∧ w.cell? ⟨b, 0, none⟩ = some (.bool isDir) ∧ b < w.heap.size

set_option maxRecDepth 100000 in
set_option maxHeartbeats 1000000 in
theorem unlink_e2 {w : World} {p j : Nat} {i : Int} {s : ByteArray} (h : UPre w p i s j true) :
    Calls Try.prog 52 #[.pointer (some ⟨p, 0, none⟩), .int .i64 i, .string s] w fun e w' => e = .returned (.int .i64 10) ∧ Below w.heap.size w w' := by
  obtain ⟨ha, g, n, cap, b, c0, hp, hn, hj, cg, hg, cb, hb⟩ := h
  have HA := Lib.hid ha
  have w0 : IntKind.i64.wrap (j : Int) = (j : Int) := IntWalk.i64_in _ (by omega)
  clear ha
  have hB := uboxes_made w p i s 26 3 9
  have q0 := (hB.below.cell (p := ⟨p, 0, none⟩) hp).trans c0
  have q1 := (hB.below.cell (p := ⟨g, j, none⟩) hg).trans cg
  have q2 := (hB.below.cell (p := ⟨b, 0, none⟩) hb).trans cb
  have HB := Lib.hid hB
  clear hB
  go_enter Try.func52, Try.ntmps52
  go_wp2_with (go_at_call 18; refine (HA.out _ HB.out.below).mono ?_; rintro e w' ⟨rfl, rfl⟩)
  go_ret
  exact ⟨rfl, HB.out.below⟩

set_option maxRecDepth 100000 in
set_option maxHeartbeats 1000000 in
theorem unlink_e3 {w : World} {p j : Nat} {i z : Int} {s : ByteArray} (h : UPre w p i s j false) {F : World → Prop}
    (ho : ∀ W, UBoxes w W p i s → Calls Try.prog 86 #[.pointer (some ⟨p, 0, none⟩), .bool true, .func (.func 101) #[] #[.pointer (some ⟨w.heap.size, 0, none⟩), .pointer (some ⟨w.heap.size + 1, 0, none⟩), .pointer (some ⟨w.heap.size + 1 + 1, 0, none⟩)]] W fun e w' => e = .returned (.int .i64 z) ∧ F w') :
    Calls Try.prog 52 #[.pointer (some ⟨p, 0, none⟩), .int .i64 i, .string s] w fun e w' => e = .returned (.int .i64 z) ∧ F w' := by
  obtain ⟨ha, g, n, cap, b, c0, hp, hn, hj, cg, hg, cb, hb⟩ := h
  have HA := Lib.hid ha
  have HO := Lib.hid ho
  have w0 : IntKind.i64.wrap (j : Int) = (j : Int) := IntWalk.i64_in _ (by omega)
  clear ha ho
  have hB := uboxes_made w p i s 26 3 9
  have q0 := (hB.below.cell (p := ⟨p, 0, none⟩) hp).trans c0
  have q1 := (hB.below.cell (p := ⟨g, j, none⟩) hg).trans cg
  have q2 := (hB.below.cell (p := ⟨b, 0, none⟩) hb).trans cb
  have HB := Lib.hid hB
  clear hB
  go_enter Try.func52, Try.ntmps52
  go_wp2_with (first | (go_at_call 18; refine (HA.out _ HB.out.below).mono ?_; rintro e w' ⟨rfl, rfl⟩) | (go_at_call 86; refine (HO.out _ HB.out).mono ?_; rintro e w' ⟨rfl, hF⟩; have HF := Lib.hid hF; clear hF))
  go_ret
  exact ⟨rfl, HF.out⟩

theorem findErr_zero {S : DS} {i : Int} {s : ByteArray} (h : findErr S i s = 0) : ofErr S i true = 0 ∧ ∃ n, (s, n) ∈ (S.nd (i - 1).toNat).seen.ents ∧ findVal S i s = n := by
  unfold findErr at h
  split at h
  · rename_i h0
    refine ⟨h0, ?_⟩
    split at h
    · rename_i h1
      rw [ehas_eget] at h1
      cases hx : eget (S.nd (i - 1).toNat).seen.ents s with
      | none => rw [hx] at h1; simp at h1
      | some n =>
        refine ⟨n, ?_, by unfold findVal; rw [if_pos h0, hx]; rfl⟩
        unfold eget at hx
        rw [Option.map_eq_some_iff] at hx
        obtain ⟨e, he, rfl⟩ := hx
        have h2 := List.mem_of_find?_eq_some he
        have h3 := List.find?_some he
        have h4 : e.1 = s := by simpa using h3
        rw [← h4]
        exact h2
    · omega
  · rename_i h0
    exact absurd h h0

theorem unlink_any {w : World} {p : Nat} {S : DS} {P : Nat → Prop} (hd : DAt w p S P) (hsm : DSmall S) (hll : ∀ k, k < S.nodes.length → (S.nd k).loose.length ≤ 1000000) (hL : Leads S) (i : Int) (s : ByteArray) :
    Calls Try.prog 52 #[ptr p, .int .i64 i, .string s] w fun e w' => e = .returned (.int .i64 (S.unlink i s).2) ∧ Leaves w w' p (S.unlink i s).1 P := by
  obtain ⟨vn, nb, t, h⟩ := hd
  have stay : ∀ w', Below w.heap.size w w' → Leaves w w' p S P := fun w' hb => ⟨Keeps.of_below hb P, P, ⟨vn, nb, t, h.below hb⟩, fun k hk => .inl hk⟩
  have hfd : ∀ W, Below w.heap.size w W → _ := fun W hW => find_any (h.below hW) i s
  by_cases h0 : findErr S i s = 0
  · obtain ⟨h1, n, hmem, hv⟩ := findErr_zero h0
    obtain ⟨hdn, k, rfl, hk, hdir⟩ := ofErr_zero h1
    have e3 : ((k : Int) + 1 - 1).toNat = k := by omega
    rw [e3] at hmem
    obtain ⟨hn1, hn2⟩ := hL k hk _ hmem
    obtain ⟨j, rfl⟩ : ∃ j, n = j + 1 := ⟨n - 1, by omega⟩
    have hj : j < S.nodes.length := by simp at hn2; omega
    have hcast : ((j + 1 : Nat) : Int) = (j : Int) + 1 := by omega
    rw [hv, h0, hcast] at hfd
    obtain ⟨g, cap, rfl, hPg, hcells⟩ := h.pRow hk
    have hnj := h.nodes j hj
    rw [← S.nd_at hj] at hnj
    have plt := h.plt
    have hPl : ∀ x, P x → x < w.heap.size := h.lt
    have pre : ∀ b, (S.nd j).dir = b → UPre w p ((k : Int) + 1) s j b := fun b hb => ⟨fun W hW => hfd W hW, g, S.nodes.length, cap, nb j, h.blk.cell 0, plt, h.len, hj, hcells j hj, hPl _ hPg, by rw [← hb]; exact hnj.dirCell, hnj.lt⟩
    have ev : findVal S ((k : Int) + 1) s - 1 = j := by rw [hv]; omega
    cases hdj : (S.nd j).dir with
    | true =>
      have er : S.unlink ((k : Int) + 1) s = (S, 10) := by unfold DS.unlink; rw [if_neg (by simpa using h0), ev, if_pos hdj]
      rw [er]
      refine (unlink_e2 (pre _ hdj)).mono ?_
      rintro e w' ⟨rfl, hb⟩
      exact ⟨rfl, stay w' hb⟩
    | false =>
      have er : S.unlink ((k : Int) + 1) s = S.opped true (fun T => T.step k (.unl s)) := by unfold DS.unlink; rw [if_neg (by simpa using h0), ev, if_neg (by simp [hdj]), e3]
      rw [er]
      refine unlink_e3 (pre _ hdj) (fun W hB => ?_)
      have l0 := hB.b0.lt
      have l1 := hB.b1.lt
      have l2 := hB.b2.lt
      refine (op_work (h.below hB.below) hsm true (g := 101) (first := #[]) (enters_of Try.func101 (by kernel_rfl) rfl) (fun T => T.step k (.unl s)) (E := fun y => y = w.heap.size + 1 + 1) (fun w1 hk1 hdf => ?_)).mono ?_
      · have b0 := hk1.blk hB.b0 (fun e => by have := hPl p h.pP; omega)
        have b1 := hk1.blk hB.b1 (fun e => by have := hPl p h.pP; omega)
        have b2 := hk1.blk hB.b2 (fun e => by have := hPl p h.pP; omega)
        have hs : StepVal w1.drew (.func (.func 102) #[] #[ptr (w.heap.size + 1 + 1)]) (.unl s) (fun x => x = w.heap.size + 1 + 1) := ⟨_, rfl, b2.of_block rfl, rfl⟩
        have hdf' := hdf.drew
        obtain ⟨g2, cap2, eg2, hPg2, hcells2⟩ := hdf.pRow (k := k) hk
        have hadd := disk_add hdf' (k := k) hk hs (by show (S.nd k).dir = true; rw [hdir]) trivial (fun x hx hp => by have := hPl x hp; omega) (fun x hx => by rw [hx]; exact b2.lt) (hll k hk) (by simp [St.parts])
        refine (unl1_core (b0.cell 0) (b1.cell 0) (by rw [← eg2]; exact hdf.blk.cell 0) hdf.len (show k < _ from hk) (hcells2 k hk) hadd).mono ?_
        rintro e w2 ⟨rfl, ⟨t', hd2⟩, hk2⟩
        exact ⟨rfl, drew_keeps hk2, _, ⟨_, _, _, hd2⟩, fun x hx => hx⟩
      · rintro e w' ⟨rfl, hkp, hd2⟩
        exact ⟨rfl, leaves_of hB.below hPl (fun k hk => by subst hk; exact ⟨by omega, l2⟩) hkp hd2⟩
  · have er : S.unlink i s = (S, findErr S i s) := by unfold DS.unlink; rw [if_pos h0]
    rw [er]
    refine (unlink_e1 (j := (findVal S i s : Int)) (fun W hW => (hfd W hW).mono ?_) (by simpa using h0)).mono ?_
    · rintro e w' ⟨rfl, rfl⟩
      exact ⟨rfl, Below.refl _ _⟩
    · rintro e w' ⟨rfl, hb⟩
      exact ⟨rfl, stay w' hb⟩

end Go.Proofs.Ytagjmphmdgklkaa

/- Walks: Rename. -/
namespace Go.Proofs.Ytagjmphmdgklkaa
open Go.RowKit

set_option maxRecDepth 100000 in
set_option maxHeartbeats 1000000 in
theorem ren1_core {w : World} {bN ba bi bb b : Nat} (hN : w.cell? ⟨bN, 0, none⟩ = some (.pointer (some ⟨b, 0, none⟩))) {R : World → Prop}
    (ha : Calls Try.prog 88 #[.pointer (some ⟨b, 0, none⟩), .agg #[.int .i64 1, .func (.func 94) #[] #[.pointer (some ⟨ba, 0, none⟩), .pointer (some ⟨bi, 0, none⟩), .pointer (some ⟨bb, 0, none⟩)]]] w fun e w' => e = .returned (.tuple #[]) ∧ R w') :
    Calls Try.prog 93 #[.pointer (some ⟨bN, 0, none⟩), .pointer (some ⟨ba, 0, none⟩), .pointer (some ⟨bi, 0, none⟩), .pointer (some ⟨bb, 0, none⟩)] w fun e w' => e = .returned (.tuple #[]) ∧ R w' := by
  have HA := Lib.hid ha
  clear ha
  go_enter Try.func93, Try.ntmps93
  go_wp2_with (go_at_call 88; refine HA.out.mono ?_; rintro e w' ⟨rfl, hR⟩; have HR := Lib.hid hR; clear hR)
  go_end0
  exact ⟨rfl, HR.out⟩

set_option maxRecDepth 100000 in
set_option maxHeartbeats 1000000 in
theorem ren_e1 {w : World} {p : Nat} {i e0 : Int} {s u : ByteArray} (ha : ∀ W, Below w.heap.size w W → Calls Try.prog 61 #[.pointer (some ⟨p, 0, none⟩), .int .i64 i, .bool true] W fun e w' => e = .returned (.tuple #[.pointer none, .int .i64 e0]) ∧ W = w')
    (hne : (e0 != 0) = true) : Calls Try.prog 41 #[.pointer (some ⟨p, 0, none⟩), .int .i64 i, .string s, .string u] w fun e w' => e = .returned (.int .i64 e0) ∧ Below w.heap.size w w' := by
  have HA := Lib.hid ha
  clear ha
  go_enter Try.func41, Try.ntmps41
  go_wp2_with (go_at_call 61; refine (HA.out _ ?_).mono ?_; exact (((Below.refl _ _).alloc (Nat.le_refl _) _).alloc (by simp) _); rintro e w' ⟨rfl, rfl⟩)
  go_ret
  exact ⟨rfl, three_below _ _ _⟩

set_option maxRecDepth 100000 in
set_option maxHeartbeats 1000000 in
theorem ren_e2 {w : World} {p b : Nat} {i : Int} {s u : ByteArray} (ha : ∀ W, Below w.heap.size w W → Calls Try.prog 61 #[.pointer (some ⟨p, 0, none⟩), .int .i64 i, .bool true] W fun e w' => e = .returned (.tuple #[.pointer (some ⟨b, 0, none⟩), .int .i64 0]) ∧ W = w')
    (hm : mayB u = false) : Calls Try.prog 41 #[.pointer (some ⟨p, 0, none⟩), .int .i64 i, .string s, .string u] w fun e w' => e = .returned (.int .i64 7) ∧ Below w.heap.size w w' := by
  have HA := Lib.hid ha
  have hy : ∀ W, Calls Try.prog 92 #[.string u] W fun e w' => e = .returned (.bool false) ∧ W = w' := fun W => by rw [← hm]; exact may_any u W
  have HM := Lib.hid hy
  clear ha hy hm
  go_enter Try.func41, Try.ntmps41
  go_wp2_with (first | (go_at_call 61; refine (HA.out _ ?_).mono ?_; exact (((Below.refl _ _).alloc (Nat.le_refl _) _).alloc (by simp) _); rintro e w' ⟨rfl, rfl⟩) | (go_at_call 92; refine (HM.out _).mono ?_; rintro e w' ⟨rfl, rfl⟩))
  go_ret
  exact ⟨rfl, three_below _ _ _⟩

structure RBoxes (w W : World) (b : Nat) (s u : ByteArray) : Prop where
  below : Below w.heap.size w W
  b0 : Blk W w.heap.size [.string s]
  b1 : Blk W (w.heap.size + 1) [.string u]
  b2 : Blk W (w.heap.size + 1 + 1) [ptr b]
  sz : W.heap.size = w.heap.size + 1 + 1 + 1

theorem rboxes_made (w : World) (b : Nat) (s u : ByteArray) (T0 T1 T2 : TypeId) : RBoxes w (((w.alloc (.cells #[.string s] T0)).alloc (.cells #[.string u] T1)).alloc (.cells #[.pointer (some ⟨b, 0, none⟩)] T2)) b s u := by
  have al : ∀ {W : World} {k : Nat} {cs : List Value} (o : Obj), Blk W k cs → Blk (W.alloc o) k cs := fun o h => h.of_block (Below.heap_alloc _ _ _ h.lt)
  refine ⟨three_below _ _ _, al _ (al _ (Blk.made w _ T0)), ?_, ?_, by simp⟩
  · have := Blk.made (w.alloc (.cells #[.string s] T0)) #[.string u] T1
    simp only [World.size_alloc] at this
    exact al _ this
  · have := Blk.made ((w.alloc (.cells #[.string s] T0)).alloc (.cells #[.string u] T1)) #[.pointer (some ⟨b, 0, none⟩)] T2
    simp only [World.size_alloc] at this
    exact this

/-- .. and the found node's -/
structure RTwo (w W : World) (b : Nat) (s u : ByteArray) (xi : Int) : Prop where
  below : Below w.heap.size w W
  b0 : Blk W w.heap.size [.string s]
  b1 : Blk W (w.heap.size + 1) [.string u]
  b2 : Blk W (w.heap.size + 1 + 1) [ptr b]
  b3 : Blk W (w.heap.size + 1 + 1 + 1) [.int .i64 xi]

theorem rtwo_made {w W : World} {b : Nat} {s u : ByteArray} (h : RBoxes w W b s u) (xi : Int) (T : TypeId) : RTwo w (W.alloc (.cells #[.int .i64 xi] T)).drew b s u xi := by
  have al : ∀ {k : Nat} {cs : List Value}, Blk W k cs → Blk (W.alloc (.cells #[.int .i64 xi] T)).drew k cs := fun h => h.of_block (Below.heap_alloc _ _ _ h.lt)
  refine ⟨(h.below.alloc h.below.size _).drew, al h.b0, al h.b1, al h.b2, ?_⟩
  have := Blk.made W #[.int .i64 xi] T
  rw [h.sz] at this
  exact this

structure RPre (w : World) (p b : Nat) (i : Int) (s u : ByteArray) (xi xk : Int) (is there : Bool) : Prop where
  of : ∀ W, Below w.heap.size w W → Calls Try.prog 61 #[.pointer (some ⟨p, 0, none⟩), .int .i64 i, .bool true] W fun e w' => e = .returned (.tuple #[.pointer (some ⟨b, 0, none⟩), .int .i64 0]) ∧ W = w'
  may : ∀ W, Calls Try.prog 92 #[.string u] W fun e w' => e = .returned (.bool true) ∧ W = w'
  look : ∃ m, w.cell? ⟨b, 4, none⟩ = some (.map (some m)) ∧ b < w.heap.size ∧ (∀ W, Below w.heap.size w W → (Instr.lookup 101 (.map (some m)) (.string s) true).run Try.prog W = .ok (.tuple #[.int .i64 xi, .bool is]) W) ∧
    (∀ W, Below w.heap.size w W → (Instr.lookup 101 (.map (some m)) (.string u) true).run Try.prog W = .ok (.tuple #[.int .i64 xk, .bool there]) W)

theorem RTwo.drew {w W : World} {b : Nat} {s u : ByteArray} {xi : Int} (h : RTwo w W b s u xi) : RTwo w W.drew b s u xi := ⟨h.below.drew, h.b0, h.b1, h.b2, h.b3⟩

/-- two nodes, and whether they are directories */ -/
def RCells (w : World) (p j l : Nat) (dj dl : Bool) : Prop :=
  ∃ g n cap bj bl, w.cell? ⟨p, 0, none⟩ = some (.slice (some ⟨g, 0, none⟩) n cap) ∧ p < w.heap.size ∧ n ≤ 4096 ∧ j < n ∧ l < n ∧ w.cell? ⟨g, j, none⟩ = some (.pointer (some ⟨bj, 0, none⟩)) ∧ w.cell? ⟨g, l, none⟩ = some (.pointer (some ⟨bl, 0, none⟩)) ∧ g < w.heap.size ∧
    w.cell? ⟨bj, 0, none⟩ = some (.bool dj) ∧ bj < w.heap.size ∧ w.cell? ⟨bl, 0, none⟩ = some (.bool dl) ∧ bl < w.heap.size

set_option maxRecDepth 100000 in
set_option maxHeartbeats 1000000 in
theorem ren_e3 {w : World} {p b : Nat} {xi xk : Int} {there : Bool} {i : Int} {s u : ByteArray} (h : RPre w p b i s u xi xk false there) :
    Calls Try.prog 41 #[.pointer (some ⟨p, 0, none⟩), .int .i64 i, .string s, .string u] w fun e w' => e = .returned (.int .i64 8) ∧ Below w.heap.size w w' := by
  obtain ⟨ha, hy, m, c4, hbl, hl1, hl2⟩ := h
  have HA := Lib.hid ha
  have HM := Lib.hid hy
  have HL1 := Lib.hid hl1
  have HL2 := Lib.hid hl2
  clear ha hy hl1 hl2
  go_enter Try.func41, Try.ntmps41
  go_wp2_with (first | (go_at_call 61; refine (HA.out _ ?_).mono ?_; exact (((Below.refl _ _).alloc (Nat.le_refl _) _).alloc (by simp) _); rintro e w' ⟨rfl, rfl⟩) | (go_at_call 92; refine (HM.out _).mono ?_; rintro e w' ⟨rfl, rfl⟩))
  have hB := rboxes_made w b s u 9 9 98
  generalize ((w.alloc (.cells #[.string s] 9)).alloc (.cells #[.string u] 9)).alloc (.cells #[.pointer (some ⟨b, 0, none⟩)] 98) = W at *
  have q4 := (hB.below.cell (p := ⟨b, 4, none⟩) hbl).trans c4
  have q0 : W.cell? ⟨w.heap.size, 0, none⟩ = some (.string s) := hB.b0.cell 0
  have q1 : W.cell? ⟨w.heap.size + 1, 0, none⟩ = some (.string u) := hB.b1.cell 0
  have q2 : W.cell? ⟨w.heap.size + 1 + 1, 0, none⟩ = some (.pointer (some ⟨b, 0, none⟩)) := hB.b2.cell 0
  have l1 := HL1.out W.drew hB.below.drew
  have hA : Below w.heap.size w (W.alloc (.cells #[.int .i64 0] 3)) := hB.below.alloc hB.below.size _
  have a4 := cell_alloc (.cells #[.int .i64 0] 3) q4
  have a0 := cell_alloc (.cells #[.int .i64 0] 3) q0
  have a1 := cell_alloc (.cells #[.int .i64 0] 3) q1
  have a2 := cell_alloc (.cells #[.int .i64 0] 3) q2
  have l2 := HL1.out _ hA.drew
  have hsz := hB.sz
  have HB := Lib.hid hB
  have c4' := c4
  clear hB c4
  have hR := rtwo_made HB.out xi 3
  go_region
  all_goals
    clear l1 a4 a0 a1 a2 l2 hA q4 q0 q1 q2
    generalize (W.alloc (.cells #[.int .i64 xi] 3)).drew = W2 at *
    have q4 := (hR.below.cell (p := ⟨b, 4, none⟩) hbl).trans c4'
    have q0 : W2.cell? ⟨w.heap.size, 0, none⟩ = some (.string s) := hR.b0.cell 0
    have q1 : W2.cell? ⟨w.heap.size + 1, 0, none⟩ = some (.string u) := hR.b1.cell 0
    have q2 : W2.cell? ⟨w.heap.size + 1 + 1, 0, none⟩ = some (.pointer (some ⟨b, 0, none⟩)) := hR.b2.cell 0
    have q3 : W2.cell? ⟨w.heap.size + 1 + 1 + 1, 0, none⟩ = some (.int .i64 xi) := hR.b3.cell 0
    have l3 := HL2.out W2.drew hR.below.drew
    have HRR := Lib.hid hR
    clear hR
    go_wp2
    go_region
    all_goals
      go_wp2
      go_ret
      exact ⟨rfl, HRR.out.below.drew⟩

set_option maxRecDepth 100000 in
set_option maxHeartbeats 1000000 in
theorem ren_e4 {w : World} {p b : Nat} {xi xk : Int} {there : Bool} {i : Int} {s u : ByteArray} (h : RPre w p b i s u xi xk true there) (hsu : (s.toList == u.toList) = true) :
    Calls Try.prog 41 #[.pointer (some ⟨p, 0, none⟩), .int .i64 i, .string s, .string u] w fun e w' => e = .returned (.int .i64 0) ∧ Below w.heap.size w w' := by
  obtain ⟨ha, hy, m, c4, hbl, hl1, hl2⟩ := h
  have HA := Lib.hid ha
  have HM := Lib.hid hy
  have HL1 := Lib.hid hl1
  have HL2 := Lib.hid hl2
  clear ha hy hl1 hl2
  go_enter Try.func41, Try.ntmps41
  go_wp2_with (first | (go_at_call 61; refine (HA.out _ ?_).mono ?_; exact (((Below.refl _ _).alloc (Nat.le_refl _) _).alloc (by simp) _); rintro e w' ⟨rfl, rfl⟩) | (go_at_call 92; refine (HM.out _).mono ?_; rintro e w' ⟨rfl, rfl⟩))
  have hB := rboxes_made w b s u 9 9 98
  generalize ((w.alloc (.cells #[.string s] 9)).alloc (.cells #[.string u] 9)).alloc (.cells #[.pointer (some ⟨b, 0, none⟩)] 98) = W at *
  have q4 := (hB.below.cell (p := ⟨b, 4, none⟩) hbl).trans c4
  have q0 : W.cell? ⟨w.heap.size, 0, none⟩ = some (.string s) := hB.b0.cell 0
  have q1 : W.cell? ⟨w.heap.size + 1, 0, none⟩ = some (.string u) := hB.b1.cell 0
  have q2 : W.cell? ⟨w.heap.size + 1 + 1, 0, none⟩ = some (.pointer (some ⟨b, 0, none⟩)) := hB.b2.cell 0
  have l1 := HL1.out W.drew hB.below.drew
  have hA : Below w.heap.size w (W.alloc (.cells #[.int .i64 0] 3)) := hB.below.alloc hB.below.size _
  have a4 := cell_alloc (.cells #[.int .i64 0] 3) q4
  have a0 := cell_alloc (.cells #[.int .i64 0] 3) q0
  have a1 := cell_alloc (.cells #[.int .i64 0] 3) q1
  have a2 := cell_alloc (.cells #[.int .i64 0] 3) q2
  have l2 := HL1.out _ hA.drew
  have hsz := hB.sz
  have HB := Lib.hid hB
  have c4' := c4
  clear hB c4
  have hR := rtwo_made HB.out xi 3
  go_region
  all_goals
    clear l1 a4 a0 a1 a2 l2 hA q4 q0 q1 q2
    generalize (W.alloc (.cells #[.int .i64 xi] 3)).drew = W2 at *
    have q4 := (hR.below.cell (p := ⟨b, 4, none⟩) hbl).trans c4'
    have q0 : W2.cell? ⟨w.heap.size, 0, none⟩ = some (.string s) := hR.b0.cell 0
    have q1 : W2.cell? ⟨w.heap.size + 1, 0, none⟩ = some (.string u) := hR.b1.cell 0
    have q2 : W2.cell? ⟨w.heap.size + 1 + 1, 0, none⟩ = some (.pointer (some ⟨b, 0, none⟩)) := hR.b2.cell 0
    have q3 : W2.cell? ⟨w.heap.size + 1 + 1 + 1, 0, none⟩ = some (.int .i64 xi) := hR.b3.cell 0
    have l3 := HL2.out W2.drew hR.below.drew
    have HRR := Lib.hid hR
    clear hR
    go_wp2
    go_region
    all_goals
      go_wp2
      go_ret
      exact ⟨rfl, HRR.out.below.drew⟩

set_option maxRecDepth 100000 in
set_option maxHeartbeats 1000000 in
theorem ren_e5 {w : World} {p b : Nat} {j l : Nat} {i : Int} {s u : ByteArray} (h : RPre w p b i s u ((j : Int) + 1) ((l : Int) + 1) true true) (hsu : (s.toList == u.toList) = false) {dl : Bool} (hc : RCells w p j l true dl) :
    Calls Try.prog 41 #[.pointer (some ⟨p, 0, none⟩), .int .i64 i, .string s, .string u] w fun e w' => e = .returned (.int .i64 10) ∧ Below w.heap.size w w' := by
  obtain ⟨ha, hy, m, c4, hbl, hl1, hl2⟩ := h
  obtain ⟨g, n, cap, bj, bl2, c0, hp, hn, hj, hl, cg, cgl, hg, cb, hbj, cbl, hbl2⟩ := hc
  have w0 : IntKind.i64.wrap (j : Int) = (j : Int) := IntWalk.i64_in _ (by omega)
  have w1 : IntKind.i64.wrap (l : Int) = (l : Int) := IntWalk.i64_in _ (by omega)
  have HA := Lib.hid ha
  have HM := Lib.hid hy
  have HL1 := Lib.hid hl1
  have HL2 := Lib.hid hl2
  clear ha hy hl1 hl2
  go_enter Try.func41, Try.ntmps41
  go_wp2_with (first | (go_at_call 61; refine (HA.out _ ?_).mono ?_; exact (((Below.refl _ _).alloc (Nat.le_refl _) _).alloc (by simp) _); rintro e w' ⟨rfl, rfl⟩) | (go_at_call 92; refine (HM.out _).mono ?_; rintro e w' ⟨rfl, rfl⟩))
  have hB := rboxes_made w b s u 9 9 98
  generalize ((w.alloc (.cells #[.string s] 9)).alloc (.cells #[.string u] 9)).alloc (.cells #[.pointer (some ⟨b, 0, none⟩)] 98) = W at *
  have q4 := (hB.below.cell (p := ⟨b, 4, none⟩) hbl).trans c4
  have q0 : W.cell? ⟨w.heap.size, 0, none⟩ = some (.string s) := hB.b0.cell 0
  have q1 : W.cell? ⟨w.heap.size + 1, 0, none⟩ = some (.string u) := hB.b1.cell 0
  have q2 : W.cell? ⟨w.heap.size + 1 + 1, 0, none⟩ = some (.pointer (some ⟨b, 0, none⟩)) := hB.b2.cell 0
  have l1 := HL1.out W.drew hB.below.drew
  have hA : Below w.heap.size w (W.alloc (.cells #[.int .i64 0] 3)) := hB.below.alloc hB.below.size _
  have a4 := cell_alloc (.cells #[.int .i64 0] 3) q4
  have a0 := cell_alloc (.cells #[.int .i64 0] 3) q0
  have a1 := cell_alloc (.cells #[.int .i64 0] 3) q1
  have a2 := cell_alloc (.cells #[.int .i64 0] 3) q2
  have l2 := HL1.out _ hA.drew
  have hsz := hB.sz
  have HB := Lib.hid hB
  have c4' := c4
  clear hB c4
  have hR := rtwo_made HB.out ((j : Int) + 1) 3
  go_region
  all_goals
    clear l1 a4 a0 a1 a2 l2 hA q4 q0 q1 q2
    generalize (W.alloc (.cells #[.int .i64 ((j : Int) + 1)] 3)).drew = W2 at *
    have q4 := (hR.below.cell (p := ⟨b, 4, none⟩) hbl).trans c4'
    have q0 : W2.cell? ⟨w.heap.size, 0, none⟩ = some (.string s) := hR.b0.cell 0
    have q1 : W2.cell? ⟨w.heap.size + 1, 0, none⟩ = some (.string u) := hR.b1.cell 0
    have q2 : W2.cell? ⟨w.heap.size + 1 + 1, 0, none⟩ = some (.pointer (some ⟨b, 0, none⟩)) := hR.b2.cell 0
    have q3 : W2.cell? ⟨w.heap.size + 1 + 1 + 1, 0, none⟩ = some (.int .i64 ((j : Int) + 1)) := hR.b3.cell 0
    have l3 := HL2.out W2.drew hR.below.drew
    have HRR := Lib.hid hR
    clear hR
    go_wp2
    go_region
    all_goals
      have r0 := (HRR.out.below.cell (p := ⟨p, 0, none⟩) hp).trans c0
      have r1 := (HRR.out.below.cell (p := ⟨g, j, none⟩) hg).trans cg
      have r2 := (HRR.out.below.cell (p := ⟨bj, 0, none⟩) hbj).trans cb
      have r3 := (HRR.out.below.cell (p := ⟨g, l, none⟩) hg).trans cgl
      have r4 := (HRR.out.below.cell (p := ⟨bl2, 0, none⟩) hbl2).trans cbl
      go_wp2
      go_region
      all_goals
        go_wp2
        go_ret
        exact ⟨rfl, HRR.out.below.drew.drew⟩

set_option maxRecDepth 100000 in
set_option maxHeartbeats 1000000 in
theorem ren_e6 {w : World} {p b : Nat} {j l : Nat} {i : Int} {s u : ByteArray} (h : RPre w p b i s u ((j : Int) + 1) ((l : Int) + 1) true true) (hsu : (s.toList == u.toList) = false) (hc : RCells w p j l false true) :
    Calls Try.prog 41 #[.pointer (some ⟨p, 0, none⟩), .int .i64 i, .string s, .string u] w fun e w' => e = .returned (.int .i64 10) ∧ Below w.heap.size w w' := by
  obtain ⟨ha, hy, m, c4, hbl, hl1, hl2⟩ := h
  obtain ⟨g, n, cap, bj, bl2, c0, hp, hn, hj, hl, cg, cgl, hg, cb, hbj, cbl, hbl2⟩ := hc
  have w0 : IntKind.i64.wrap (j : Int) = (j : Int) := IntWalk.i64_in _ (by omega)
  have w1 : IntKind.i64.wrap (l : Int) = (l : Int) := IntWalk.i64_in _ (by omega)
  have HA := Lib.hid ha
  have HM := Lib.hid hy
  have HL1 := Lib.hid hl1
  have HL2 := Lib.hid hl2
  clear ha hy hl1 hl2
  go_enter Try.func41, Try.ntmps41
  go_wp2_with (first | (go_at_call 61; refine (HA.out _ ?_).mono ?_; exact (((Below.refl _ _).alloc (Nat.le_refl _) _).alloc (by simp) _); rintro e w' ⟨rfl, rfl⟩) | (go_at_call 92; refine (HM.out _).mono ?_; rintro e w' ⟨rfl, rfl⟩))
  have hB := rboxes_made w b s u 9 9 98
  generalize ((w.alloc (.cells #[.string s] 9)).alloc (.cells #[.string u] 9)).alloc (.cells #[.pointer (some ⟨b, 0, none⟩)] 98) = W at *
  have q4 := (hB.below.cell (p := ⟨b, 4, none⟩) hbl).trans c4
  have q0 : W.cell? ⟨w.heap.size, 0, none⟩ = some (.string s) := hB.b0.cell 0
  have q1 : W.cell? ⟨w.heap.size + 1, 0, none⟩ = some (.string u) := hB.b1.cell 0
  have q2 : W.cell? ⟨w.heap.size + 1 + 1, 0, none⟩ = some (.pointer (some ⟨b, 0, none⟩)) := hB.b2.cell 0
  have l1 := HL1.out W.drew hB.below.drew
  have hA : Below w.heap.size w (W.alloc (.cells #[.int .i64 0] 3)) := hB.below.alloc hB.below.size _
  have a4 := cell_alloc (.cells #[.int .i64 0] 3) q4
  have a0 := cell_alloc (.cells #[.int .i64 0] 3) q0
  have a1 := cell_alloc (.cells #[.int .i64 0] 3) q1
  have a2 := cell_alloc (.cells #[.int .i64 0] 3) q2
  have l2 := HL1.out _ hA.drew
  have hsz := hB.sz
  have HB := Lib.hid hB
  have c4' := c4
  clear hB c4
  have hR := rtwo_made HB.out ((j : Int) + 1) 3
  go_region
  all_goals
    clear l1 a4 a0 a1 a2 l2 hA q4 q0 q1 q2
    generalize (W.alloc (.cells #[.int .i64 ((j : Int) + 1)] 3)).drew = W2 at *
    have q4 := (hR.below.cell (p := ⟨b, 4, none⟩) hbl).trans c4'
    have q0 : W2.cell? ⟨w.heap.size, 0, none⟩ = some (.string s) := hR.b0.cell 0
    have q1 : W2.cell? ⟨w.heap.size + 1, 0, none⟩ = some (.string u) := hR.b1.cell 0
    have q2 : W2.cell? ⟨w.heap.size + 1 + 1, 0, none⟩ = some (.pointer (some ⟨b, 0, none⟩)) := hR.b2.cell 0
    have q3 : W2.cell? ⟨w.heap.size + 1 + 1 + 1, 0, none⟩ = some (.int .i64 ((j : Int) + 1)) := hR.b3.cell 0
    have l3 := HL2.out W2.drew hR.below.drew
    have HRR := Lib.hid hR
    clear hR
    go_wp2
    go_region
    all_goals
      have r0 := (HRR.out.below.cell (p := ⟨p, 0, none⟩) hp).trans c0
      have r1 := (HRR.out.below.cell (p := ⟨g, j, none⟩) hg).trans cg
      have r2 := (HRR.out.below.cell (p := ⟨bj, 0, none⟩) hbj).trans cb
      have r3 := (HRR.out.below.cell (p := ⟨g, l, none⟩) hg).trans cgl
      have r4 := (HRR.out.below.cell (p := ⟨bl2, 0, none⟩) hbl2).trans cbl
      go_wp2
      go_region
      all_goals
        go_wp2
        go_ret
        exact ⟨rfl, HRR.out.below.drew.drew⟩

set_option maxRecDepth 100000 in
set_option maxHeartbeats 1000000 in
theorem ren_e7 {w : World} {p b : Nat} {j l : Nat} {i : Int} {s u : ByteArray} (h : RPre w p b i s u ((j : Int) + 1) ((l : Int) + 1) true true) (hsu : (s.toList == u.toList) = false) (hc : RCells w p j l false false) {z : Int} {F : World → Prop}
    (ho : ∀ W, RTwo w W b s u ((j : Int) + 1) → Calls Try.prog 86 #[.pointer (some ⟨p, 0, none⟩), .bool true, .func (.func 93) #[] #[.pointer (some ⟨w.heap.size + 1 + 1, 0, none⟩), .pointer (some ⟨w.heap.size, 0, none⟩), .pointer (some ⟨w.heap.size + 1 + 1 + 1, 0, none⟩), .pointer (some ⟨w.heap.size + 1, 0, none⟩)]] W fun e w' => e = .returned (.int .i64 z) ∧ F w') :
    Calls Try.prog 41 #[.pointer (some ⟨p, 0, none⟩), .int .i64 i, .string s, .string u] w fun e w' => e = .returned (.int .i64 z) ∧ F w' := by
  obtain ⟨ha, hy, m, c4, hbl, hl1, hl2⟩ := h
  obtain ⟨g, n, cap, bj, bl2, c0, hp, hn, hj, hl, cg, cgl, hg, cb, hbj, cbl, hbl2⟩ := hc
  have w0 : IntKind.i64.wrap (j : Int) = (j : Int) := IntWalk.i64_in _ (by omega)
  have w1 : IntKind.i64.wrap (l : Int) = (l : Int) := IntWalk.i64_in _ (by omega)
  have HO := Lib.hid ho
  clear ho
  have HA := Lib.hid ha
  have HM := Lib.hid hy
  have HL1 := Lib.hid hl1
  have HL2 := Lib.hid hl2
  clear ha hy hl1 hl2
  go_enter Try.func41, Try.ntmps41
  go_wp2_with (first | (go_at_call 61; refine (HA.out _ ?_).mono ?_; exact (((Below.refl _ _).alloc (Nat.le_refl _) _).alloc (by simp) _); rintro e w' ⟨rfl, rfl⟩) | (go_at_call 92; refine (HM.out _).mono ?_; rintro e w' ⟨rfl, rfl⟩))
  have hB := rboxes_made w b s u 9 9 98
  generalize ((w.alloc (.cells #[.string s] 9)).alloc (.cells #[.string u] 9)).alloc (.cells #[.pointer (some ⟨b, 0, none⟩)] 98) = W at *
  have q4 := (hB.below.cell (p := ⟨b, 4, none⟩) hbl).trans c4
  have q0 : W.cell? ⟨w.heap.size, 0, none⟩ = some (.string s) := hB.b0.cell 0
  have q1 : W.cell? ⟨w.heap.size + 1, 0, none⟩ = some (.string u) := hB.b1.cell 0
  have q2 : W.cell? ⟨w.heap.size + 1 + 1, 0, none⟩ = some (.pointer (some ⟨b, 0, none⟩)) := hB.b2.cell 0
  have l1 := HL1.out W.drew hB.below.drew
  have hA : Below w.heap.size w (W.alloc (.cells #[.int .i64 0] 3)) := hB.below.alloc hB.below.size _
  have a4 := cell_alloc (.cells #[.int .i64 0] 3) q4
  have a0 := cell_alloc (.cells #[.int .i64 0] 3) q0
  have a1 := cell_alloc (.cells #[.int .i64 0] 3) q1
  have a2 := cell_alloc (.cells #[.int .i64 0] 3) q2
  have l2 := HL1.out _ hA.drew
  have hsz := hB.sz
  have HB := Lib.hid hB
  have c4' := c4
  clear hB c4
  have hR := rtwo_made HB.out ((j : Int) + 1) 3
  go_region
  all_goals
    clear l1 a4 a0 a1 a2 l2 hA q4 q0 q1 q2
    generalize (W.alloc (.cells #[.int .i64 ((j : Int) + 1)] 3)).drew = W2 at *
    have q4 := (hR.below.cell (p := ⟨b, 4, none⟩) hbl).trans c4'
    have q0 : W2.cell? ⟨w.heap.size, 0, none⟩ = some (.string s) := hR.b0.cell 0
    have q1 : W2.cell? ⟨w.heap.size + 1, 0, none⟩ = some (.string u) := hR.b1.cell 0
    have q2 : W2.cell? ⟨w.heap.size + 1 + 1, 0, none⟩ = some (.pointer (some ⟨b, 0, none⟩)) := hR.b2.cell 0
    have q3 : W2.cell? ⟨w.heap.size + 1 + 1 + 1, 0, none⟩ = some (.int .i64 ((j : Int) + 1)) := hR.b3.cell 0
    have l3 := HL2.out W2.drew hR.below.drew
    have HRR := Lib.hid hR
    clear hR
    go_wp2
    go_region
    all_goals
      have r0 := (HRR.out.below.cell (p := ⟨p, 0, none⟩) hp).trans c0
      have r1 := (HRR.out.below.cell (p := ⟨g, j, none⟩) hg).trans cg
      have r2 := (HRR.out.below.cell (p := ⟨bj, 0, none⟩) hbj).trans cb
      have r3 := (HRR.out.below.cell (p := ⟨g, l, none⟩) hg).trans cgl
      have r4 := (HRR.out.below.cell (p := ⟨bl2, 0, none⟩) hbl2).trans cbl
      go_wp2
      go_region
      all_goals
        have HR5 := Lib.hid (HRR.out.drew.drew)
        go_wp2_with (go_at_call 86; refine (HO.out _ HR5.out).mono ?_; rintro e w' ⟨rfl, hF⟩; have HF := Lib.hid hF; clear hF)
        go_ret
        exact ⟨rfl, HF.out⟩

set_option maxRecDepth 100000 in
set_option maxHeartbeats 1000000 in
theorem ren_e8 {w : World} {p b : Nat} {xi xk : Int} {i : Int} {s u : ByteArray} (h : RPre w p b i s u xi xk true false) (hsu : (s.toList == u.toList) = false) {z : Int} {F : World → Prop}
    (ho : ∀ W, RTwo w W b s u xi → Calls Try.prog 86 #[.pointer (some ⟨p, 0, none⟩), .bool true, .func (.func 93) #[] #[.pointer (some ⟨w.heap.size + 1 + 1, 0, none⟩), .pointer (some ⟨w.heap.size, 0, none⟩), .pointer (some ⟨w.heap.size + 1 + 1 + 1, 0, none⟩), .pointer (some ⟨w.heap.size + 1, 0, none⟩)]] W fun e w' => e = .returned (.int .i64 z) ∧ F w') :
    Calls Try.prog 41 #[.pointer (some ⟨p, 0, none⟩), .int .i64 i, .string s, .string u] w fun e w' => e = .returned (.int .i64 z) ∧ F w' := by
  obtain ⟨ha, hy, m, c4, hbl, hl1, hl2⟩ := h
  have HO := Lib.hid ho
  clear ho
  have HA := Lib.hid ha
  have HM := Lib.hid hy
  have HL1 := Lib.hid hl1
  have HL2 := Lib.hid hl2
  clear ha hy hl1 hl2
  go_enter Try.func41, Try.ntmps41
  go_wp2_with (first | (go_at_call 61; refine (HA.out _ ?_).mono ?_; exact (((Below.refl _ _).alloc (Nat.le_refl _) _).alloc (by simp) _); rintro e w' ⟨rfl, rfl⟩) | (go_at_call 92; refine (HM.out _).mono ?_; rintro e w' ⟨rfl, rfl⟩))
  have hB := rboxes_made w b s u 9 9 98
  generalize ((w.alloc (.cells #[.string s] 9)).alloc (.cells #[.string u] 9)).alloc (.cells #[.pointer (some ⟨b, 0, none⟩)] 98) = W at *
  have q4 := (hB.below.cell (p := ⟨b, 4, none⟩) hbl).trans c4
  have q0 : W.cell? ⟨w.heap.size, 0, none⟩ = some (.string s) := hB.b0.cell 0
  have q1 : W.cell? ⟨w.heap.size + 1, 0, none⟩ = some (.string u) := hB.b1.cell 0
  have q2 : W.cell? ⟨w.heap.size + 1 + 1, 0, none⟩ = some (.pointer (some ⟨b, 0, none⟩)) := hB.b2.cell 0
  have l1 := HL1.out W.drew hB.below.drew
  have hA : Below w.heap.size w (W.alloc (.cells #[.int .i64 0] 3)) := hB.below.alloc hB.below.size _
  have a4 := cell_alloc (.cells #[.int .i64 0] 3) q4
  have a0 := cell_alloc (.cells #[.int .i64 0] 3) q0
  have a1 := cell_alloc (.cells #[.int .i64 0] 3) q1
  have a2 := cell_alloc (.cells #[.int .i64 0] 3) q2
  have l2 := HL1.out _ hA.drew
  have hsz := hB.sz
  have HB := Lib.hid hB
  have c4' := c4
  clear hB c4
  have hR := rtwo_made HB.out xi 3
  go_region
  all_goals
    clear l1 a4 a0 a1 a2 l2 hA q4 q0 q1 q2
    generalize (W.alloc (.cells #[.int .i64 xi] 3)).drew = W2 at *
    have q4 := (hR.below.cell (p := ⟨b, 4, none⟩) hbl).trans c4'
    have q0 : W2.cell? ⟨w.heap.size, 0, none⟩ = some (.string s) := hR.b0.cell 0
    have q1 : W2.cell? ⟨w.heap.size + 1, 0, none⟩ = some (.string u) := hR.b1.cell 0
    have q2 : W2.cell? ⟨w.heap.size + 1 + 1, 0, none⟩ = some (.pointer (some ⟨b, 0, none⟩)) := hR.b2.cell 0
    have q3 : W2.cell? ⟨w.heap.size + 1 + 1 + 1, 0, none⟩ = some (.int .i64 xi) := hR.b3.cell 0
    have l3 := HL2.out W2.drew hR.below.drew
    have HRR := Lib.hid hR
    clear hR
    go_wp2
    go_region
    all_goals
      go_wp2
      go_region
      all_goals
        have HR5 := Lib.hid (HRR.out.drew.drew)
        go_wp2_with (go_at_call 86; refine (HO.out _ HR5.out).mono ?_; rintro e w' ⟨rfl, hF⟩; have HF := Lib.hid hF; clear hF)
        go_ret
        exact ⟨rfl, HF.out⟩

end Go.Proofs.Ytagjmphmdgklkaa

/- Rename, as a contract on the whole disk. -/
namespace Go.Proofs.Ytagjmphmdgklkaa
open Go.RowKit

def DS.rename (S : DS) (i : Int) (s u : ByteArray) : DS × Int :=
  if ofErr S i true ≠ 0 then (S, ofErr S i true)
  else if mayB u = false then (S, 7)
  else if ehas (S.nd (i - 1).toNat).seen.ents s = false then (S, 8)
  else if (s.toList == u.toList) = true then (S, 0)
  else if ehas (S.nd (i - 1).toNat).seen.ents u = true ∧ ((S.nd (findVal S i s - 1)).dir = true ∨ (S.nd (findVal S i u - 1)).dir = true) then (S, 10)
  else S.opped true (fun T => T.step (i - 1).toNat (.ren s u (findVal S i s)))

theorem ren_any {w : World} {p : Nat} {S : DS} {P : Nat → Prop} (hd : DAt w p S P) (hsm : DSmall S) (hll : ∀ k, k < S.nodes.length → (S.nd k).loose.length ≤ 1000000) (hL : Leads S) (i : Int) (s u : ByteArray) :
    Calls Try.prog 41 #[ptr p, .int .i64 i, .string s, .string u] w fun e w' => e = .returned (.int .i64 (S.rename i s u).2) ∧ Leaves w w' p (S.rename i s u).1 P := by
  obtain ⟨vn, nb, t, h⟩ := hd
  have stay : ∀ w', Below w.heap.size w w' → Leaves w w' p S P := fun w' hb => ⟨Keeps.of_below hb P, P, ⟨vn, nb, t, h.below hb⟩, fun k hk => .inl hk⟩
  have hof : ∀ W, Below w.heap.size w W → _ := fun W hW => of_any (h.below hW) i true
  by_cases h0 : ofErr S i true = 0
  · obtain ⟨hdn, k, rfl, hk, hdir⟩ := ofErr_zero h0
    have e3 : ((k : Int) + 1 - 1).toNat = k := by omega
    have e2 : ofPtr S nb ((k : Int) + 1) true = ptr (nb k) := by unfold ofPtr; rw [if_pos h0, e3]
    rw [e2, h0] at hof
    have h0' : ¬ (ofErr S ((k : Int) + 1) true ≠ 0) := by simpa using h0
    by_cases hm : mayB u = false
    · have er : S.rename ((k : Int) + 1) s u = (S, 7) := by unfold DS.rename; rw [if_neg h0', if_pos hm]
      rw [er]
      refine (ren_e2 (fun W hW => hof W hW) hm).mono ?_
      rintro e w' ⟨rfl, hb⟩
      exact ⟨rfl, stay w' hb⟩
    have hm' : mayB u = true := by simpa using hm
    have hn := h.nodes k hk
    rw [← S.nd_at hk] at hn
    obtain ⟨mb, c4, hmap, _⟩ := hn.dirMap hdir
    have plt := h.plt
    have hPl : ∀ x, P x → x < w.heap.size := h.lt
    have vs : ∀ x, findVal S ((k : Int) + 1) x = (eget (S.nd k).seen.ents x).getD 0 := fun x => by unfold findVal; rw [if_pos h0, e3]
    have pre : RPre w p (nb k) ((k : Int) + 1) s u (findVal S ((k : Int) + 1) s : Int) (findVal S ((k : Int) + 1) u : Int) (ehas (S.nd k).seen.ents s) (ehas (S.nd k).seen.ents u) := by
      refine ⟨fun W hW => hof W hW, fun W => by rw [← hm']; exact may_any u W, mb, c4, hn.lt, fun W hW => ?_, fun W hW => ?_⟩
      · rw [vs]; exact run_lookup_map tMap tStr (zInt W) (hmap.of_block (hW.block mb hmap.lt)) s
      · rw [vs]; exact run_lookup_map tMap tStr (zInt W) (hmap.of_block (hW.block mb hmap.lt)) u
    cases hs : ehas (S.nd k).seen.ents s with
    | false =>
      have er : S.rename ((k : Int) + 1) s u = (S, 8) := by unfold DS.rename; rw [if_neg h0', if_neg hm, e3, if_pos hs]
      rw [er]
      rw [hs] at pre
      refine (ren_e3 pre).mono ?_
      rintro e w' ⟨rfl, hb⟩
      exact ⟨rfl, stay w' hb⟩
    | true =>
      rw [hs] at pre
      have hs' : ¬ (ehas (S.nd k).seen.ents s = false) := by simp [hs]
      cases hsu : (s.toList == u.toList) with
      | true =>
        have er : S.rename ((k : Int) + 1) s u = (S, 0) := by unfold DS.rename; rw [if_neg h0', if_neg hm, e3, if_neg hs', if_pos hsu]
        rw [er]
        refine (ren_e4 pre hsu).mono ?_
        rintro e w' ⟨rfl, hb⟩
        exact ⟨rfl, stay w' hb⟩
      | false =>
        have hsu' : ¬ ((s.toList == u.toList) = true) := by simp [hsu]
        have hval : ∀ x, ehas (S.nd k).seen.ents x = true → ∃ j, findVal S ((k : Int) + 1) x = j + 1 ∧ j < S.nodes.length := fun x hx => by
          have hz : findErr S ((k : Int) + 1) x = 0 := by unfold findErr; rw [if_pos h0, e3, if_pos hx]
          obtain ⟨_, n, hmem, hv⟩ := findErr_zero hz
          rw [e3] at hmem
          obtain ⟨hn1, hn2⟩ := hL k hk _ hmem
          simp at hn1 hn2
          exact ⟨n - 1, by omega, by omega⟩
        obtain ⟨j, hvj, hj⟩ := hval s hs
        have hcastj : ((j + 1 : Nat) : Int) = (j : Int) + 1 := by omega
        obtain ⟨g, cap, rfl, hPg, hcells⟩ := h.pRow hk
        have cd : ∀ x (hx : x < S.nodes.length), w.cell? ⟨nb x, 0, none⟩ = some (.bool (S.nd x).dir) ∧ nb x < w.heap.size := fun x hx => by
          have hnx := h.nodes x hx
          rw [← S.nd_at hx] at hnx
          exact ⟨hnx.dirCell, hnx.lt⟩
        have ejs : findVal S ((k : Int) + 1) s - 1 = j := by rw [hvj]; omega
        -- the op itself
        have hop : ∀ W, RTwo w W (nb k) s u ((j : Int) + 1) → Calls Try.prog 86 #[.pointer (some ⟨p, 0, none⟩), .bool true, .func (.func 93) #[] #[.pointer (some ⟨w.heap.size + 1 + 1, 0, none⟩), .pointer (some ⟨w.heap.size, 0, none⟩), .pointer (some ⟨w.heap.size + 1 + 1 + 1, 0, none⟩), .pointer (some ⟨w.heap.size + 1, 0, none⟩)]] W fun e w' =>
            e = .returned (.int .i64 (S.opped true (fun T => T.step k (.ren s u (j + 1)))).2) ∧ Leaves w w' p (S.opped true (fun T => T.step k (.ren s u (j + 1)))).1 P := by
          intro W hB
          have l0 := hB.b0.lt
          have l1 := hB.b1.lt
          have l2 := hB.b2.lt
          have l3 := hB.b3.lt
          refine (op_work (h.below hB.below) hsm true (g := 93) (first := #[]) (enters_of Try.func93 (by kernel_rfl) rfl) (fun T => T.step k (.ren s u (j + 1))) (E := fun y => y = w.heap.size ∨ y = w.heap.size + 1 ∨ y = w.heap.size + 1 + 1 + 1) (fun w1 hk1 hdf => ?_)).mono ?_
          · have pl := hPl p h.pP
            have b0 := hk1.blk hB.b0 (fun e => by omega)
            have b1 := hk1.blk hB.b1 (fun e => by omega)
            have b2 := hk1.blk hB.b2 (fun e => by omega)
            have b3 := hk1.blk hB.b3 (fun e => by omega)
            rw [← hcastj] at b3
            have hst : StepVal w1 (.func (.func 94) #[] #[ptr w.heap.size, ptr (w.heap.size + 1 + 1 + 1), ptr (w.heap.size + 1)]) (.ren s u (j + 1)) (fun x => x = w.heap.size ∨ x = w.heap.size + 1 ∨ x = w.heap.size + 1 + 1 + 1) := ⟨_, _, _, rfl, b0, b3, b1, .inl rfl, .inr (.inr rfl), .inr (.inl rfl)⟩
            have hadd := disk_add hdf (k := k) hk hst (by show (S.nd k).dir = true; rw [hdir]) trivial (fun x hx hp => by have := hPl x hp; omega) (fun x hx => by have := b0.lt; have := b1.lt; have := b3.lt; rcases hx with rfl | rfl | rfl <;> assumption) (hll k hk) (by simp [St.parts])
            refine (ren1_core (b2.cell 0) hadd).mono ?_
            rintro e w2 ⟨rfl, ⟨t', hd2⟩, hk2⟩
            exact ⟨rfl, hk2, _, ⟨_, _, _, hd2⟩, fun x hx => hx⟩
          · rintro e w' ⟨rfl, hkp, hd2⟩
            exact ⟨rfl, leaves_of hB.below hPl (fun y hy => by rcases hy with rfl | rfl | rfl <;> omega) hkp hd2⟩
        rw [hvj, hcastj] at pre
        cases hu : ehas (S.nd k).seen.ents u with
        | false =>
          have er : S.rename ((k : Int) + 1) s u = S.opped true (fun T => T.step k (.ren s u (j + 1))) := by
            unfold DS.rename; rw [if_neg h0', if_neg hm, e3, if_neg hs', if_neg hsu', if_neg (by simp [hu]), hvj]
          rw [er]
          rw [hu] at pre
          exact ren_e8 pre hsu hop
        | true =>
          rw [hu] at pre
          obtain ⟨l, hvl, hl⟩ := hval u hu
          have els : findVal S ((k : Int) + 1) u - 1 = l := by rw [hvl]; omega
          have hcastl : ((l + 1 : Nat) : Int) = (l : Int) + 1 := by omega
          rw [hvl, hcastl] at pre
          have hc : RCells w p j l (S.nd j).dir (S.nd l).dir := ⟨g, _, cap, nb j, nb l, h.blk.cell 0, plt, h.len, hj, hl, hcells j hj, hcells l hl, hPl g hPg, (cd j hj).1, (cd j hj).2, (cd l hl).1, (cd l hl).2⟩
          cases hdj : (S.nd j).dir with
          | true =>
            have er : S.rename ((k : Int) + 1) s u = (S, 10) := by
              unfold DS.rename; rw [if_neg h0', if_neg hm, e3, if_neg hs', if_neg hsu', ejs, els, if_pos ⟨hu, .inl hdj⟩]
            rw [er]
            rw [hdj] at hc
            refine (ren_e5 pre hsu hc).mono ?_
            rintro e w' ⟨rfl, hb⟩
            exact ⟨rfl, stay w' hb⟩
          | false =>
            rw [hdj] at hc
            cases hdl : (S.nd l).dir with
            | true =>
              have er : S.rename ((k : Int) + 1) s u = (S, 10) := by
                unfold DS.rename; rw [if_neg h0', if_neg hm, e3, if_neg hs', if_neg hsu', ejs, els, if_pos ⟨hu, .inr hdl⟩]
              rw [er]
              rw [hdl] at hc
              refine (ren_e6 pre hsu hc).mono ?_
              rintro e w' ⟨rfl, hb⟩
              exact ⟨rfl, stay w' hb⟩
            | false =>
              rw [hdl] at hc
              have er : S.rename ((k : Int) + 1) s u = S.opped true (fun T => T.step k (.ren s u (j + 1))) := by
                unfold DS.rename; rw [if_neg h0', if_neg hm, e3, if_neg hs', if_neg hsu', ejs, els, if_neg (by simp [hdj, hdl]), hvj]
              rw [er]
              exact ren_e7 pre hsu hc hop
  · have e2 : ofPtr S nb i true = .pointer none := by unfold ofPtr; rw [if_neg h0]
    have er : S.rename i s u = (S, ofErr S i true) := by unfold DS.rename; rw [if_pos h0]
    rw [er]
    rw [e2] at hof
    refine (ren_e1 (fun W hW => hof W hW) (by simpa using h0)).mono ?_
    rintro e w' ⟨rfl, hb⟩
    exact ⟨rfl, stay w' hb⟩

end Go.Proofs.Ytagjmphmdgklkaa

/- Walks: Loose. -/
namespace Go.Proofs.Ytagjmphmdgklkaa
open Go.RowKit

def DS.loose (S : DS) : Nat := (S.nodes.map fun N => sumParts N.loose).sum

theorem DF.parts {w : World} {p : Nat} {S : DS} {P : Nat → Prop} {vn : Value} {nb : Nat → Nat} {t : Nat → Nat} (h : DF w p S P vn nb t) {k : Nat} (hk : k < S.nodes.length) (hs : sumParts (S.nd k).loose ≤ 4611686018427387904) :
    Calls Try.prog 80 #[ptr (nb k)] w fun e w' => e = .returned (.int .i64 (sumParts (S.nd k).loose : Int)) ∧ Below w.heap.size w w' := by
  have hn := h.nodes k hk
  rw [← S.nd_at hk] at hn
  obtain ⟨vsb, vsm, veb, vem, vl, f, t2, h1, h2, h3, h4, h5, h6, h7, h8, h9, h10⟩ := hn
  exact parts_walk h1 h7 (fun j hj => (h9 j hj).1.isFunc) hs

theorem loose_step (S : DS) {j : Nat} (hj : j < S.nodes.length) : ((S.nodes.take (j + 1)).map fun N => sumParts N.loose).sum = ((S.nodes.take j).map fun N => sumParts N.loose).sum + sumParts (S.nd j).loose := by
  have e : S.nodes.take (j + 1) = S.nodes.take j ++ [S.nodes[j]] := by rw [List.take_add_one, List.getElem?_eq_getElem hj]; rfl
  rw [e, S.nd_at hj, List.map_append, List.sum_append]
  rfl

theorem loose_le (S : DS) (j : Nat) : ((S.nodes.take j).map fun N => sumParts N.loose).sum ≤ S.loose := by
  have h : S.loose = ((S.nodes.take j).map fun N => sumParts N.loose).sum + ((S.nodes.drop j).map fun N => sumParts N.loose).sum := by
    unfold DS.loose
    rw [← List.sum_append, ← List.map_append, List.take_append_drop]
  omega

set_option maxRecDepth 100000 in
set_option maxHeartbeats 1000000 in
theorem loose_any {w : World} {p : Nat} {S : DS} {P : Nat → Prop} {vn : Value} {nb : Nat → Nat} {t : Nat → Nat} (h : DF w p S P vn nb t) (hs : S.loose ≤ 4611686018427387904) :
    Calls Try.prog 43 #[ptr p] w fun e w' => e = .returned (.int .i64 (S.loose : Int)) ∧ Below w.heap.size w w' := by
  have hplt := h.plt
  obtain ⟨a, n, cap, hv, hn, hcap⟩ : ∃ a n cap, vn = .slice a n cap ∧ n = S.nodes.length ∧ n ≤ maxLen := by
    have := h.len
    rcases h.row.shape with ⟨e, h0⟩ | ⟨g, cap, e, h1, h2, _⟩
    · exact ⟨_, _, _, e, h0.symm, by unfold maxLen; omega⟩
    · exact ⟨_, _, _, e, rfl, by omega⟩
  subst hv
  subst hn
  have c0 : w.cell? ⟨p, 0, none⟩ = some (.slice a S.nodes.length cap) := h.blk.cell 0
  have hlen := h.len
  have HD := Lib.hid h
  unfold maxLen at hcap
  clear h
  unfold ptr
  go_enter Try.func43, Try.ntmps43
  go_wp2
  go_loopw [3, 13] (fun acc i wr => ∃ j : Nat, j ≤ S.nodes.length ∧ i = .int .i64 j ∧ acc = .int .i64 ((((S.nodes.take j).map fun N => sumParts N.loose).sum : Nat) : Int) ∧ Below w.heap.size w wr) (fun _ i _ => S.nodes.length - (intOf i).toNat)
  case atStart => exact ⟨0, Nat.zero_le _, rfl, by simp, Below.refl _ _⟩
  case round =>
    obtain ⟨j, hj, rfl, rfl, hbl⟩ := hrel
    by_cases hlt : j < S.nodes.length
    · obtain ⟨g, c2, e, hPg, hcells⟩ := HD.out.pRow hlt
      obtain ⟨rfl, rfl⟩ : a = some ⟨g, 0, none⟩ ∧ cap = c2 := by
        have := Value.slice.inj e
        exact ⟨this.1, this.2.2⟩
      have q2 : wr.cell? ⟨g, j, none⟩ = some (.pointer (some ⟨nb j, 0, none⟩)) := (hbl.cell (p := ⟨g, j, none⟩) (HD.out.lt g hPg)).trans (hcells j hlt)
      have hst := loose_step S hlt
      have hle := loose_le S (j + 1)
      have hpc := (HD.out.below hbl).parts hlt (by omega)
      unfold ptr at hpc
      have HPC := Lib.hid hpc
      have HBL := Lib.hid hbl
      have HST := Lib.hid hst
      have hle2 : ((S.nodes.take j).map fun N => sumParts N.loose).sum + sumParts (S.nd j).loose ≤ 4611686018427387904 := by omega
      generalize ((S.nodes.take j).map fun N => sumParts N.loose).sum = acc at *
      generalize sumParts (S.nd j).loose = sp at *
      clear hpc hbl hst hle
      go_wp2_with (go_at_call 80; refine HPC.out.mono ?_; rintro e w1 ⟨rfl, hb1⟩; have HB1 := Lib.hid hb1; clear hb1)
      go_roundw
      case rel => exact ⟨j + 1, by omega, by go_num, by rw [HST.out]; go_num, HBL.out.trans (HB1.out.mono HBL.out.size)⟩
      case measure => simp [intOf]; omega
    · have hjl : j = S.nodes.length := by omega
      subst hjl
      have hall : ((S.nodes.take S.nodes.length).map fun N => sumParts N.loose).sum = S.loose := by rw [List.take_length]; rfl
      rw [hall]
      have HBL := Lib.hid hbl
      clear hbl hall
      go_wp2
      go_ret
      exact ⟨rfl, HBL.out⟩

end Go.Proofs.Ytagjmphmdgklkaa

/- What is always so of a disk (plain). -/
namespace Go.Proofs.Ytagjmphmdgklkaa
open Go.RowKit

def appSum (l : List St) : Nat := (l.map fun s => match s with | .app b => b.length | _ => 0).sum

theorem appSum_append (a b : List St) : appSum (a ++ b) = appSum a + appSum b := by simp [appSum]

theorem act_bytes_le (s : St) (k : Nat) (c : Cont) : (s.act k c).bytes.length ≤ c.bytes.length + appSum [s] := by
  cases s with
  | app b => simp [St.act, appSum]; omega
  | cut n => simp [St.act, appSum]; omega
  | link s i => simp [St.act, appSum]
  | ren a b i => simp [St.act, appSum]
  | unl a => simp [St.act, appSum]

theorem full_cons (s : St) (l : List St) (c : Cont) : full (s :: l) c = full l (s.act s.parts c) := rfl
theorem full_append (a b : List St) (c : Cont) : full (a ++ b) c = full b (full a c) := by simp [full]
theorem full_snoc (a : List St) (s : St) (c : Cont) : full (a ++ [s]) c = s.act s.parts (full a c) := by rw [full_append]; rfl

theorem full_bytes_le (l : List St) (c : Cont) : (full l c).bytes.length ≤ c.bytes.length + appSum l := by
  induction l generalizing c with
  | nil => simp [full, appSum]
  | cons s l ih =>
    rw [full_cons]
    have h1 := ih (s.act s.parts c)
    have h2 := act_bytes_le s s.parts c
    have h3 : appSum (s :: l) = appSum [s] + appSum l := appSum_append [s] l
    omega

theorem replay_bytes_le (l : List St) (k : Int) (c : Cont) : (replay l k c).bytes.length ≤ c.bytes.length + appSum l := by
  induction l generalizing c k with
  | nil => simp [replay, appSum]
  | cons s l ih =>
    unfold replay
    split
    · omega
    · have h1 := ih (k - s.parts) (s.act (min k s.parts).toNat c)
      have h2 := act_bytes_le s (min k s.parts).toNat c
      have h3 : appSum (s :: l) = appSum [s] + appSum l := appSum_append [s] l
      omega

/-- a directory's steps have one part each: a crash leaves some of the first ones -/
theorem replay_dir (l : List St) (hl : ∀ s ∈ l, s.fits true = true) (k : Nat) (c : Cont) : replay l (k : Int) c = full (l.take k) c := by
  induction l generalizing c k with
  | nil => simp [replay, full]
  | cons s l ih =>
    have hs := hl s (by simp)
    have h1 : s.parts = 1 := by cases s <;> simp_all [St.fits, St.parts]
    unfold replay
    cases k with
    | zero => simp [full]
    | succ k =>
      rw [if_neg (by omega), h1]
      have e : (((k + 1 : Nat) : Int) - ((1 : Nat) : Int)) = (k : Int) := by omega
      have e2 : (min ((k + 1 : Nat) : Int) ((1 : Nat) : Int)).toNat = 1 := by omega
      rw [e, e2, ih (fun x hx => hl x (by simp [hx]))]
      rw [List.take_succ_cons, full_cons, h1]

/-- a file's steps leave its entries, a directory's its bytes -/
theorem act_file (s : St) (h : s.fits false = true) (k : Nat) (c : Cont) : (s.act k c).ents = c.ents := by cases s <;> simp_all [St.fits, St.act]
theorem act_dir (s : St) (h : s.fits true = true) (k : Nat) (c : Cont) : (s.act k c).bytes = c.bytes := by cases s <;> simp_all [St.fits, St.act]
theorem full_file (l : List St) (h : ∀ s ∈ l, s.fits false = true) (c : Cont) : (full l c).ents = c.ents := by
  induction l generalizing c with
  | nil => rfl
  | cons s l ih => rw [full_cons, ih (fun x hx => h x (by simp [hx])), act_file s (h s (by simp))]
theorem full_dir (l : List St) (h : ∀ s ∈ l, s.fits true = true) (c : Cont) : (full l c).bytes = c.bytes := by
  induction l generalizing c with
  | nil => rfl
  | cons s l ih => rw [full_cons, ih (fun x hx => h x (by simp [hx])), act_dir s (h s (by simp))]
theorem replay_file (l : List St) (h : ∀ s ∈ l, s.fits false = true) (k : Int) (c : Cont) : (replay l k c).ents = c.ents := by
  induction l generalizing c k with
  | nil => rfl
  | cons s l ih =>
    unfold replay
    split
    · rfl
    · rw [ih (fun x hx => h x (by simp [hx])), act_file s (h s (by simp))]

theorem nodup_map_inj {α β : Type} (f : α → β) : ∀ (l : List α), (l.map f).Nodup → ∀ x ∈ l, ∀ y ∈ l, f x = f y → x = y := by
  intro l
  induction l with
  | nil => intro _ x hx; simp at hx
  | cons a l ih =>
    intro h x hx y hy e
    rw [List.map_cons, List.nodup_cons] at h
    rcases List.mem_cons.1 hx with hx | hx <;> rcases List.mem_cons.1 hy with hy | hy
    · rw [hx, hy]
    · exact absurd (List.mem_map.2 ⟨y, hy, by rw [← e, hx]⟩) h.1
    · exact absurd (List.mem_map.2 ⟨x, hx, by rw [e, hy]⟩) h.1
    · exact ih h.2 x hx y hy e

/-- entries of directory k (counted from 0), on a disk of L nodes -/
structure EOK (par : Nat → Nat) (L k : Nat) (m : Ents) : Prop where
  ok : ∀ e ∈ m, k + 1 < e.2 ∧ e.2 ≤ L ∧ par e.2 = k
  vals : (m.map (·.2)).Nodup
  keys : (m.map (·.1)).Nodup

theorem EOK.nil (par : Nat → Nat) (L k : Nat) : EOK par L k [] := ⟨by simp, by simp, by simp⟩

theorem EOK.mono {par par' : Nat → Nat} {L L' k : Nat} {m : Ents} (h : EOK par L k m) (hL : L ≤ L') (hp : ∀ i, i ≤ L → par' i = par i) : EOK par' L' k m :=
  ⟨fun e he => ⟨(h.ok e he).1, by have := (h.ok e he).2.1; omega, by rw [hp _ (h.ok e he).2.1]; exact (h.ok e he).2.2⟩, h.vals, h.keys⟩

theorem edel_sub (m : Ents) (a : ByteArray) : (edel m a).Sublist m := List.filter_sublist

theorem EOK.edel {par : Nat → Nat} {L k : Nat} {m : Ents} (h : EOK par L k m) (a : ByteArray) : EOK par L k (edel m a) :=
  ⟨fun e he => h.ok e ((edel_sub m a).mem he), h.vals.sublist ((edel_sub m a).map _), h.keys.sublist ((edel_sub m a).map _)⟩

theorem ehas_keys {m : Ents} {s : ByteArray} : ehas m s = true ↔ s ∈ m.map (·.1) := by
  unfold ehas
  rw [List.any_eq_true]
  constructor
  · rintro ⟨e, he, h⟩
    have : e.1 = s := by simpa using h
    exact List.mem_map.2 ⟨e, he, this⟩
  · intro h
    obtain ⟨e, he, rfl⟩ := List.mem_map.1 h
    exact ⟨e, he, by simp⟩

/-- a name that leads to a node to which none led -/
theorem EOK.eset {par : Nat → Nat} {L k : Nat} {m : Ents} (h : EOK par L k m) (s : ByteArray) {i : Nat} (hi : k + 1 < i ∧ i ≤ L ∧ par i = k) (hn : i ∉ m.map (·.2)) : EOK par L k (eset m s i) := by
  unfold Go.Proofs.Ytagjmphmdgklkaa.eset
  split
  · rename_i hs
    refine ⟨?_, ?_, ?_⟩
    · intro e he
      obtain ⟨x, hx, rfl⟩ := List.mem_map.1 he
      split
      · exact hi
      · exact h.ok x hx
    · have hv := h.vals
      have hk := h.keys
      clear hs h
      induction m with
      | nil => simp
      | cons a m ih =>
        simp only [List.map_cons, List.nodup_cons] at hv hk ⊢
        simp only [List.map_cons, List.mem_cons, not_or] at hn
        refine ⟨?_, ih hn.2 hv.2 hk.2⟩
        intro hmem
        simp only [List.map_map, List.mem_map, Function.comp] at hmem
        obtain ⟨x, hx, hxe⟩ := hmem
        by_cases h1 : (a.1 == s) = true
        · rw [if_pos h1] at hxe
          by_cases h2 : (x.1 == s) = true
          · have e1 : a.1 = s := by simpa using h1
            have e2 : x.1 = s := by simpa using h2
            exact hk.1 (List.mem_map.2 ⟨x, hx, by rw [e1, e2]⟩)
          · rw [if_neg h2] at hxe
            exact hn.2 (List.mem_map.2 ⟨x, hx, hxe⟩)
        · rw [if_neg h1] at hxe
          by_cases h2 : (x.1 == s) = true
          · rw [if_pos h2] at hxe
            exact hn.1 hxe
          · rw [if_neg h2] at hxe
            exact hv.1 (List.mem_map.2 ⟨x, hx, hxe⟩)
    · have e : (m.map fun e => if (e.1 == s) = true then (s, i) else e).map (·.1) = m.map (·.1) := by
        rw [List.map_map]
        apply List.map_congr_left
        intro x _
        simp only [Function.comp]
        split
        · rename_i h1
          exact (by simpa using h1 : x.1 = s).symm
        · rfl
      rw [e]; exact h.keys
  · rename_i hs
    have hk : s ∉ m.map (·.1) := fun hm => hs (ehas_keys.2 hm)
    refine ⟨?_, ?_, ?_⟩
    · intro e he
      rcases List.mem_append.1 he with he | he
      · exact h.ok e he
      · have : e = (s, i) := by simpa using he
        subst this
        exact hi
    · rw [List.map_append, List.nodup_append]
      refine ⟨h.vals, by simp, fun x hx y hy => ?_⟩
      have : y = i := by simpa using hy
      subst this
      exact fun e => hn (e ▸ hx)
    · rw [List.map_append, List.nodup_append]
      refine ⟨h.keys, by simp, fun x hx y hy => ?_⟩
      have : y = s := by simpa using hy
      subst this
      exact fun e => hk (e ▸ hx)

/-- what a rename leaves -/
theorem EOK.ren {par : Nat → Nat} {L k : Nat} {m : Ents} (h : EOK par L k m) {a : ByteArray} {i : Nat} (ha : (a, i) ∈ m) (b : ByteArray) : EOK par L k (Go.Proofs.Ytagjmphmdgklkaa.eset (Go.Proofs.Ytagjmphmdgklkaa.edel m a) b i) := by
  refine (h.edel a).eset b (h.ok _ ha) ?_
  intro hm
  obtain ⟨x, hx, hxi⟩ := List.mem_map.1 hm
  have hx1 := (edel_sub m a).mem hx
  have hx2 : x.1 ≠ a := by
    unfold Go.Proofs.Ytagjmphmdgklkaa.edel at hx
    simpa using (List.mem_filter.1 hx).2
  have : x = (a, i) := by
    have hv := h.vals
    exact nodup_map_inj (·.2) m hv x hx1 (a, i) ha hxi
  rw [this] at hx2
  exact hx2 rfl

/-- what is so of node k (counted from 0) of a disk with L nodes, W bytes of appends and B calls -/
structure NInv (par : Nat → Nat) (L W B k : Nat) (N : Nd) : Prop where
  seen : N.seen = full N.loose N.safe
  steps : ∀ j (h : j < N.loose.length), N.loose[j].ok (full (N.loose.take j) N.safe) ∧ 0 < N.loose[j].parts
  fits : ∀ s ∈ N.loose, s.fits N.dir = true
  dirB : N.dir = true → N.safe.bytes = []
  fileE : N.dir = false → N.safe.ents = []
  pre : ∀ q, EOK par L k (full (N.loose.take q) N.safe).ents
  weight : N.safe.bytes.length + appSum N.loose ≤ W
  len : N.loose.length ≤ B

theorem sumParts_le (l : List St) : sumParts l ≤ l.length + appSum l := by
  induction l with
  | nil => simp [sumParts, appSum]
  | cons s l ih =>
    have h3 : appSum (s :: l) = appSum [s] + appSum l := appSum_append [s] l
    have h4 : sumParts (s :: l) = s.parts + sumParts l := by simp [sumParts]
    have h5 : s.parts ≤ 1 + appSum [s] := by cases s <;> simp [St.parts, appSum]
    simp only [List.length_cons]
    omega

section
variable {par : Nat → Nat} {L W B k : Nat} {N : Nd}

theorem NInv.seenE (h : NInv par L W B k N) : EOK par L k N.seen.ents := by
  have := h.pre N.loose.length
  rw [List.take_length, ← h.seen] at this
  exact this
theorem NInv.seenB (h : NInv par L W B k N) : N.seen.bytes.length ≤ W := by
  rw [h.seen]
  have := full_bytes_le N.loose N.safe
  have := h.weight
  omega
theorem NInv.seenDir (h : NInv par L W B k N) (hd : N.dir = true) : N.seen.bytes = [] := by
  rw [h.seen, full_dir _ (fun s hs => by have := h.fits s hs; rw [hd] at this; exact this), h.dirB hd]
theorem NInv.seenFile (h : NInv par L W B k N) (hd : N.dir = false) : N.seen.ents = [] := by
  rw [h.seen, full_file _ (fun s hs => by have := h.fits s hs; rw [hd] at this; exact this), h.fileE hd]
theorem NInv.sum (h : NInv par L W B k N) : sumParts N.loose ≤ B + W := by
  have := sumParts_le N.loose
  have := h.weight
  have := h.len
  omega
theorem NInv.replayB (h : NInv par L W B k N) (q : Int) : (replay N.loose q N.safe).bytes.length ≤ W := by
  have := replay_bytes_le N.loose q N.safe
  have := h.weight
  omega
theorem NInv.nok (h : NInv par L W B k N) (hW : W ≤ 1000000) (hB : B ≤ 1000000) : NOK N :=
  ⟨h.seen, h.steps, by have := h.weight; omega, by have := h.seenB; omega, by have := h.sum; omega, by have := h.len; omega⟩

theorem NInv.mono (h : NInv par L W B k N) {par' : Nat → Nat} {L' W' B' : Nat} (hL : L ≤ L') (hp : ∀ i, i ≤ L → par' i = par i) (hW : W ≤ W') (hB : B ≤ B') : NInv par' L' W' B' k N :=
  ⟨h.seen, h.steps, h.fits, h.dirB, h.fileE, fun q => (h.pre q).mono hL hp, Nat.le_trans h.weight hW, Nat.le_trans h.len hB⟩

theorem NInv.new (par : Nat → Nat) (L W B k : Nat) (d : Bool) : NInv par L W B k (newNd d) :=
  ⟨rfl, fun j hj => by simp [newNd] at hj, by simp [newNd], fun _ => rfl, fun _ => rfl, fun q => by simp [newNd, full]; exact EOK.nil _ _ _, by simp [newNd, appSum], by simp [newNd]⟩

/-- a step more -/
theorem NInv.step (h : NInv par L W B k N) {s : St} (hf : s.fits N.dir = true) (hok : s.ok N.seen) (hpos : 0 < s.parts) (he : EOK par L k (s.act s.parts N.seen).ents) : NInv par L (W + appSum [s]) (B + 1) k (N.step s) := by
  have hfull : full (N.loose ++ [s]) N.safe = s.act s.parts N.seen := by rw [full_snoc, ← h.seen]
  refine ⟨hfull.symm, ?_, ?_, h.dirB, h.fileE, ?_, ?_, ?_⟩
  · intro j hj
    simp only [Nd.step] at hj ⊢
    have hj' : j < N.loose.length + 1 := by simpa using hj
    by_cases hlt : j < N.loose.length
    · rw [List.getElem_append_left hlt, List.take_append_of_le_length (by omega)]
      exact h.steps j hlt
    · have : j = N.loose.length := by omega
      subst this
      rw [List.getElem_append_right (Nat.le_refl _), List.take_left']
      · simp only [Nat.sub_self, List.getElem_cons_zero]
        rw [← h.seen]
        exact ⟨hok, hpos⟩
      · rfl
  · intro x hx
    rcases List.mem_append.1 hx with hx | hx
    · exact h.fits x hx
    · have : x = s := by simpa using hx
      subst this
      exact hf
  · intro q
    show EOK par L k (full ((N.loose ++ [s]).take q) N.safe).ents
    by_cases hq : q ≤ N.loose.length
    · rw [List.take_append_of_le_length hq]; exact h.pre q
    · rw [List.take_of_length_le (by simp; omega), hfull]; exact he
  · show N.safe.bytes.length + appSum (N.loose ++ [s]) ≤ _
    rw [appSum_append]
    have := h.weight
    omega
  · show (N.loose ++ [s]).length ≤ _
    have := h.len
    simp
    exact this

theorem NInv.synced (h : NInv par L W B k N) : NInv par L W B k N.synced :=
  ⟨rfl, fun j hj => by simp [Nd.synced] at hj, by simp [Nd.synced], h.seenDir, h.seenFile, fun q => by simp [Nd.synced, full]; exact h.seenE, by have := h.seenB; simpa [Nd.synced, appSum] using this, by simp [Nd.synced]⟩

theorem NInv.replayE (h : NInv par L W B k N) (q : Int) (hq : 0 ≤ q) : EOK par L k (replay N.loose q N.safe).ents := by
  cases hd : N.dir with
  | true =>
    obtain ⟨m, rfl⟩ : ∃ m : Nat, q = (m : Int) := ⟨q.toNat, by omega⟩
    rw [replay_dir _ (fun s hs => by have := h.fits s hs; rw [hd] at this; exact this)]
    exact h.pre m
  | false =>
    rw [replay_file _ (fun s hs => by have := h.fits s hs; rw [hd] at this; exact this), h.fileE hd]
    exact EOK.nil _ _ _
theorem replay_dirB (l : List St) (hl : ∀ s ∈ l, s.fits true = true) (k : Int) (c : Cont) : (replay l k c).bytes = c.bytes := by
  induction l generalizing c k with
  | nil => rfl
  | cons s l ih =>
    unfold replay
    split
    · rfl
    · rw [ih (fun x hx => hl x (by simp [hx])), act_dir s (hl s (by simp))]

theorem NInv.crashed (h : NInv par L W B k N) (q : Int) (hq : 0 ≤ q) : NInv par L W B k (N.crashed q) :=
  ⟨rfl, fun j hj => by simp [Nd.crashed] at hj, by simp [Nd.crashed], fun hd => by
      show (replay N.loose q N.safe).bytes = []
      rw [replay_dirB _ (fun s hs => by have := h.fits s hs; rw [show N.dir = true from hd] at this; exact this)]; exact h.dirB hd, fun hd => by
      show (replay N.loose q N.safe).ents = []
      rw [replay_file _ (fun s hs => by have := h.fits s hs; rw [show N.dir = false from hd] at this; exact this)]; exact h.fileE hd, fun r => by simp [Nd.crashed, full]; exact h.replayE q hq,
    by have := h.replayB q; simpa [Nd.crashed, appSum] using this, by simp [Nd.crashed]⟩
end

end Go.Proofs.Ytagjmphmdgklkaa

/- What is always so of a disk, and stays so with every call (plain). -/
namespace Go.Proofs.Ytagjmphmdgklkaa
open Go.RowKit

structure Inv (S : DS) (W B : Nat) : Prop where
  nodes : ∃ par, ∀ k, k < S.nodes.length → NInv par S.nodes.length W B k (S.nd k)
  one : 1 ≤ S.nodes.length
  few : S.nodes.length ≤ B + 1
  root : (S.nd 0).dir = true
  ops0 : 0 ≤ S.ops
  ops : S.ops ≤ B
  ch0 : 0 ≤ S.changes
  ch : S.changes ≤ B
  fa : S.failAfter ≤ 9223372036854775807
  fu : S.fullAfter ≤ 9223372036854775807
  cap0 : 0 ≤ S.capacity
  cap : S.capacity ≤ 9223372036854775807

section
variable {S : DS} {W B : Nat}

theorem Inv.small (h : Inv S W B) (hB : B ≤ 1000000) : DSmall S := ⟨h.ops0, by have := h.ops; omega, h.ch0, by have := h.ch; omega, h.fa, h.fu⟩
theorem Inv.loose (h : Inv S W B) (hB : B ≤ 1000000) : ∀ k, k < S.nodes.length → (S.nd k).loose.length ≤ 1000000 := fun k hk => by
  obtain ⟨par, hn⟩ := h.nodes
  have := (hn k hk).len
  omega
theorem Inv.nok (h : Inv S W B) (hW : W ≤ 1000000) (hB : B ≤ 1000000) : ∀ k, k < S.nodes.length → NOK (S.nd k) := fun k hk => by
  obtain ⟨par, hn⟩ := h.nodes
  exact (hn k hk).nok hW hB
theorem Inv.leads (h : Inv S W B) : Leads S := fun k hk e he => by
  obtain ⟨par, hn⟩ := h.nodes
  exact ⟨((hn k hk).seenE.ok e he).1, ((hn k hk).seenE.ok e he).2.1⟩
theorem Inv.bytes (h : Inv S W B) : ∀ k, k < S.nodes.length → (S.nd k).seen.bytes.length ≤ W := fun k hk => by
  obtain ⟨par, hn⟩ := h.nodes
  exact (hn k hk).seenB
theorem Inv.replays (h : Inv S W B) : ∀ k, k < S.nodes.length → ∀ q, (replay (S.nd k).loose q (S.nd k).safe).bytes.length ≤ W := fun k hk q => by
  obtain ⟨par, hn⟩ := h.nodes
  exact (hn k hk).replayB q
theorem Inv.fine (h : Inv S W B) (hB : B ≤ 1000000) : Fine S := ⟨h.small hB, h.loose hB, h.leads, h.root, h.one, h.cap0, h.cap⟩

theorem Inv.mono (h : Inv S W B) {W' B' : Nat} (hW : W ≤ W') (hB : B ≤ B') : Inv S W' B' := by
  obtain ⟨⟨par, hn⟩, h1, h2, h3, h4, h5, h6, h7, h8, h9, h10, h11⟩ := h
  exact ⟨⟨par, fun k hk => (hn k hk).mono (Nat.le_refl _) (fun _ _ => rfl) hW hB⟩, h1, by omega, h3, h4, by omega, h6, by omega, h8, h9, h10, h11⟩

/-- a disk with the same nodes -/
theorem Inv.same (h : Inv S W B) {T : DS} (hn : T.nodes = S.nodes) (o0 : 0 ≤ T.ops) (o1 : T.ops ≤ B) (c0 : 0 ≤ T.changes) (c1 : T.changes ≤ B) (fa : T.failAfter ≤ 9223372036854775807) (fu : T.fullAfter ≤ 9223372036854775807) (hc : T.capacity = S.capacity) : Inv T W B := by
  have e : ∀ k, T.nd k = S.nd k := fun k => by unfold DS.nd; rw [hn]
  obtain ⟨⟨par, hp⟩, h1, h2, h3, h4, h5, h6, h7, h8, h9, h10, h11⟩ := h
  exact ⟨⟨par, fun k hk => by rw [e, hn]; rw [hn] at hk; exact hp k hk⟩, by rw [hn]; exact h1, by rw [hn]; exact h2, by rw [e]; exact h3, o0, o1, c0, c1, fa, fu, by rw [hc]; exact h10, by rw [hc]; exact h11⟩

theorem tAfter_le {b : Bool} {a : Int} (h : a ≤ 9223372036854775807) : tAfter b a ≤ 9223372036854775807 := by
  unfold tAfter
  split <;> omega

theorem Inv.ticked (h : Inv S W B) (c : Bool) : Inv (S.ticked c) W (B + 1) := by
  have h' := h.mono (Nat.le_refl W) (Nat.le_succ B)
  have := h.ops0
  have := h.ops
  have := h.ch0
  have := h.ch
  refine h'.same rfl ?_ ?_ ?_ ?_ (tAfter_le h.fa) h.fu rfl
  · show 0 ≤ S.ops + 1; omega
  · show S.ops + 1 ≤ ((B + 1 : Nat) : Int); omega
  · show 0 ≤ (if c then S.changes + 1 else S.changes); split <;> omega
  · show (if c then S.changes + 1 else S.changes) ≤ ((B + 1 : Nat) : Int); split <;> omega

theorem Inv.fulled (h : Inv S W B) : Inv S.fulled W B := h.same rfl h.ops0 h.ops h.ch0 h.ch h.fa (tAfter_le h.fu) rfl
theorem Inv.downed (h : Inv S W B) (b : Bool) : Inv { S with down := b } W B := h.same rfl h.ops0 h.ops h.ch0 h.ch h.fa h.fu rfl

theorem nd_set {k : Nat} (hk : k < S.nodes.length) (N : Nd) (j : Nat) : ({ S with nodes := S.nodes.set k N } : DS).nd j = if j = k then N else S.nd j := by
  simp only [DS.nd, List.getD_eq_getElem?_getD, List.getElem?_set]
  by_cases h : k = j
  · subst h
    simp [hk]
  · rw [if_neg h, if_neg (fun e => h e.symm)]

/-- one node has become another one -/
theorem Inv.set (h : Inv S W B) {k : Nat} (hk : k < S.nodes.length) {N : Nd} {W' B' : Nat} (hW : W ≤ W') (hB : B ≤ B') (hd : N.dir = (S.nd k).dir) (hN : ∀ par, NInv par S.nodes.length W B k (S.nd k) → NInv par S.nodes.length W' B' k N) :
    Inv { S with nodes := S.nodes.set k N } W' B' := by
  obtain ⟨⟨par, hp⟩, h1, h2, h3, h4, h5, h6, h7, h8, h9, h10, h11⟩ := h
  have el : ({ S with nodes := S.nodes.set k N } : DS).nodes.length = S.nodes.length := by simp
  refine ⟨⟨par, fun j hj => ?_⟩, by rw [el]; exact h1, by rw [el]; omega, ?_, h4, by show S.ops ≤ _; omega, h6, by show S.changes ≤ _; omega, h8, h9, h10, h11⟩
  · rw [el] at hj ⊢
    rw [nd_set hk]
    split
    · rename_i e; subst e; exact hN par (hp j hk)
    · exact (hp j hj).mono (Nat.le_refl _) (fun _ _ => rfl) hW hB
  · rw [nd_set hk]
    split
    · rename_i e; subst e; rw [hd]; exact h3
    · exact h3

theorem Inv.step (h : Inv S W B) {k : Nat} (hk : k < S.nodes.length) {s : St} (hf : s.fits (S.nd k).dir = true) (hok : s.ok (S.nd k).seen) (hpos : 0 < s.parts) (he : ∀ par, EOK par S.nodes.length k (S.nd k).seen.ents → EOK par S.nodes.length k (s.act s.parts (S.nd k).seen).ents) :
    Inv (S.step k s) (W + appSum [s]) (B + 1) :=
  h.set hk (by omega) (by omega) rfl (fun par hn => hn.step hf hok hpos (he par hn.seenE))

theorem Inv.grown (h : Inv S W B) (d : Bool) (i : Nat) (hi : i < S.nodes.length) : Inv (S.grown d) W (B + 1) ∧ ∃ par, (∀ k, k < S.nodes.length + 1 → NInv par (S.nodes.length + 1) W (B + 1) k ((S.grown d).nd k)) ∧ par (S.nodes.length + 1) = i := by
  obtain ⟨⟨par, hp⟩, h1, h2, h3, h4, h5, h6, h7, h8, h9, h10, h11⟩ := h
  have el : (S.grown d).nodes.length = S.nodes.length + 1 := by simp [DS.grown]
  have e0 : ∀ k, k < S.nodes.length → (S.grown d).nd k = S.nd k := fun k hk => grown_nd hk d
  have e1 : (S.grown d).nd S.nodes.length = newNd d := by simp [DS.nd, DS.grown]
  let par' : Nat → Nat := fun x => if x = S.nodes.length + 1 then i else par x
  have hN : ∀ k, k < S.nodes.length + 1 → NInv par' (S.nodes.length + 1) W (B + 1) k ((S.grown d).nd k) := fun k hk => by
    by_cases hlt : k < S.nodes.length
    · rw [e0 k hlt]
      exact (hp k hlt).mono (Nat.le_succ _) (fun x hx => if_neg (by omega)) (Nat.le_refl _) (Nat.le_succ _)
    · have : k = S.nodes.length := by omega
      subst this
      rw [e1]
      exact NInv.new _ _ _ _ _ _
  refine ⟨⟨⟨par', fun k hk => by rw [el] at hk ⊢; exact hN k hk⟩, by rw [el]; omega, by rw [el]; omega, by rw [e0 0 (by omega)]; exact h3, h4, by show S.ops ≤ _; omega, h6, by show S.changes ≤ _; omega, h8, h9, h10, h11⟩, par', hN, if_pos rfl⟩
end

end Go.Proofs.Ytagjmphmdgklkaa
