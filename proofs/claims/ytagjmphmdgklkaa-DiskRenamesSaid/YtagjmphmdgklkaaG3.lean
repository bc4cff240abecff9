/- Parts of the proof, one behind the other: Diter Dlist Dsort0 Dsort Dreach Dreach2 Dapp Dapp2 Dapp3 Dcut Dunlink Dunlink2. -/
import Derived.Test.YtagjmphmdgklkaaG2
import Derived.Maps.RangeWalk
import Derived.Shelf.Small.Bits
import Derived.Shelf.Small.Strs
import Derived.Shelf.Strconv.Itoa0
import Derived.Shelf.Strings.Search1
import Derived.Shelf.Sort.Plain
import Derived.Ground.Names2Prog
import Derived.Shelf.Slices.ReverseS
import Derived.Shelf.Slices.Cells
import Derived.Shelf.Slices.In.SortNone
import Derived.Ground.SlsfProg
import Derived.Shelf.SlSortCmp.Insertion
import Derived.Shelf.SlSortCmp.Insertion1
import Derived.Shelf.SlSortCmp.Median1
import Derived.Shelf.SlSortCmp.Pivot1
import Derived.Shelf.SlSortCmp.ReverseRange1
import Derived.Test.YtagjmphmdgklkaaProg
/- Going through a map. -/
namespace Go.Proofs.Ytagjmphmdgklkaa
open Go.RowKit

/-- an iterator in block r over the map in block b: 'left' is still to come -/
def IterAt (w : World) (r b : Nat) (m left : Ents) : Prop :=
  ∃ es clock seen, w.heap[b]? = some (.map es clock) ∧ es.toList.map (fun e => (e.key, e.val)) = m.map encE ∧ (es.toList.map (·.born)).Nodup ∧ (∀ e ∈ es.toList, e.born < clock) ∧
    w.heap[r]? = some (.mapIter (some b) clock seen clock) ∧ (leftOf es seen).toList.map (fun e => (e.key, e.val)) = left.map encE

theorem IterAt.same {w w' : World} {r b : Nat} {m left : Ents} (h : IterAt w r b m left) (hb : w'.heap[b]? = w.heap[b]?) (hr : w'.heap[r]? = w.heap[r]?) : IterAt w' r b m left := by
  obtain ⟨es, clock, seen, h1, h2, h3, h4, h5, h6⟩ := h
  exact ⟨es, clock, seen, hb.trans h1, h2, h3, h4, hr.trans h5, h6⟩
theorem IterAt.lt {w : World} {r b : Nat} {m left : Ents} (h : IterAt w r b m left) : b < w.heap.size ∧ r < w.heap.size := by
  obtain ⟨es, clock, seen, h1, h2, h3, h4, h5, h6⟩ := h
  exact ⟨(Array.getElem?_eq_some_iff.1 h1).1, (Array.getElem?_eq_some_iff.1 h5).1⟩

theorem iter_start {P : Program} {T K E : TypeId} (hT : P.underlying T = some (.map K E)) {w : World} {b : Nat} {m : Ents} (h : MapAt w b m) :
    ∃ o, (Instr.range T (.map (some b))).run P w = .ok (.pointer (some ⟨w.heap.size, 0, none⟩)) (w.alloc o) ∧ IterAt (w.alloc o) w.heap.size b m m := by
  have hlt := h.lt
  obtain ⟨es, clock, hb, he, hnd, hborn, hkeys⟩ := h
  refine ⟨_, run_range_map w T K E b es clock hT hb, es, clock, #[], ?_, he, hnd, hborn, ?_, ?_⟩
  · rw [Below.heap_alloc _ _ _ hlt]; exact hb
  · show (w.heap.push _)[w.heap.size]? = _
    simp
  · have e1 : leftOf es #[] = es := by simp [leftOf]
    rw [e1]; exact he

theorem leftOf_push {es : Array MapEntry} {seen : Array Nat} {e : MapEntry} (he : e ∈ (leftOf es seen).toList) (hnd : (es.toList.map (·.born)).Nodup) :
    (leftOf es seen).toList.Perm (e :: (leftOf es (seen.push e.born)).toList) := by
  have h1 : (leftOf es (seen.push e.born)).toList = (leftOf es seen).toList.filter (fun x => !(x.born == e.born)) := by
    simp only [leftOf, Array.toList_filter, List.filter_filter]
    apply List.filter_congr
    intro x hx
    simp only [Array.contains_push]
    cases (seen.contains x.born) <;> cases hxe : (x.born == e.born) <;> simp_all
  rw [h1]
  have hsub : ((leftOf es seen).toList.map (·.born)).Nodup := by
    refine hnd.sublist (List.Sublist.map _ ?_)
    simp only [leftOf, Array.toList_filter]
    exact List.filter_sublist
  generalize (leftOf es seen).toList = L at he hsub
  clear h1
  induction L with
  | nil => simp at he
  | cons a L ih =>
    simp only [List.map_cons, List.nodup_cons] at hsub
    by_cases hae : a = e
    · subst hae
      have h2 : L.filter (fun x => !(x.born == a.born)) = L := by
        rw [List.filter_eq_self]
        intro x hx
        have : x.born ≠ a.born := fun e => hsub.1 (List.mem_map.2 ⟨x, hx, e⟩)
        simpa using this
      rw [List.filter_cons]
      simp [h2]
    · have heL : e ∈ L := by
        rcases List.mem_cons.1 he with h3 | h3
        · exact absurd h3.symm hae
        · exact h3
      have hne : a.born ≠ e.born := fun h4 => hsub.1 (List.mem_map.2 ⟨e, heL, h4.symm⟩)
      have h5 : (!(a.born == e.born)) = true := by simpa using hne
      rw [List.filter_cons, if_pos h5]
      exact ((ih heL hsub.2).cons a).trans (List.Perm.swap e a _)

def decE : Value × Value → ByteArray × Nat
  | (.string s, .int _ n) => (s, n.toNat)
  | _ => (⟨#[]⟩, 0)
theorem decE_encE (x : ByteArray × Nat) : (decE ∘ encE) x = id x := by
  obtain ⟨s, n⟩ := x
  simp [decE, encE]

theorem iter_next {P : Program} {w : World} {r b : Nat} {m left : Ents} (h : IterAt w r b m left) (hne : r ≠ b) (ty : TypeId) :
    (left = [] ∧ (Instr.next (.pointer (some ⟨r, 0, none⟩)) false ty).run P w = .ok (.tuple #[.bool false]) w) ∨
    ∃ e left' w', left.Perm (e :: left') ∧ (Instr.next (.pointer (some ⟨r, 0, none⟩)) false ty).run P w = .ok (.tuple #[.bool true, .string e.1, .int .i64 (e.2 : Int)]) w' ∧ IterAt w' r b m left' ∧ w.grownBy w' (some r) ∧ w'.heap.size = w.heap.size ∧
      (Instr.entry (.pointer (some ⟨r, 0, none⟩))).run P w' = .ok (.tuple #[.string e.1, .int .i64 (e.2 : Int)]) w' := by
  obtain ⟨es, clock, seen, hb, he, hnd, hborn, hr, hl⟩ := h
  rcases run_next_at (P := P) w ty r b clock clock seen es clock hr hb hborn (Nat.le_refl _) with ⟨h0, hrun⟩ | ⟨e, hem, w1, hal, hrun⟩
  · refine .inl ⟨?_, hrun⟩
    have h1 : (leftOf es seen).toList = [] := List.eq_nil_of_length_eq_zero (by simpa using h0)
    rw [h1] at hl
    simpa using hl.symm
  · have hb1 : w1.heap[b]? = some (.map es clock) := by rcases hal with rfl | rfl <;> exact hb
    have hr1 : w1.heap[r]? = some (.mapIter (some b) clock seen clock) := by rcases hal with rfl | rfl <;> exact hr
    have hrl : r < w1.heap.size := (Array.getElem?_eq_some_iff.1 hr1).1
    have hs1 : w1.heap.size = w.heap.size := by rcases hal with rfl | rfl <;> rfl
    have hr2 : (ChangeMaps.setBlock w1 r (.mapIter (some b) clock (seen.push e.born) clock)).heap[r]? = some (.mapIter (some b) clock (seen.push e.born) clock) := by simp [ChangeMaps.setBlock, hrl]
    have hb2 : (ChangeMaps.setBlock w1 r (.mapIter (some b) clock (seen.push e.born) clock)).heap[b]? = some (.map es clock) := by
      simp only [ChangeMaps.setBlock, Array.getElem?_setIfInBounds]
      rw [if_neg hne]; exact hb1
    have hmem : e ∈ es.toList := by
      simp only [leftOf, Array.toList_filter, List.mem_filter] at hem
      exact hem.1
    have hperm := leftOf_push hem hnd
    have hp2 := hperm.map (fun e : MapEntry => (e.key, e.val))
    rw [hl] at hp2
    simp only [List.map_cons] at hp2
    -- the entry that came out, as data
    have hmm : (e.key, e.val) ∈ left.map encE := hp2.mem_iff.2 (by simp)
    obtain ⟨x, hx, hxe⟩ := List.mem_map.1 hmm
    -- the others, as data
    have hinv : ∀ v ∈ (leftOf es (seen.push e.born)).toList.map (fun e : MapEntry => (e.key, e.val)), ∃ y, encE y = v := fun v hv => by
      have : v ∈ left.map encE := hp2.mem_iff.2 (List.mem_cons_of_mem _ hv)
      obtain ⟨y, _, hy⟩ := List.mem_map.1 this
      exact ⟨y, hy⟩
    obtain ⟨left', hl'⟩ : ∃ left' : Ents, (leftOf es (seen.push e.born)).toList.map (fun e : MapEntry => (e.key, e.val)) = left'.map encE := by
      generalize (leftOf es (seen.push e.born)).toList.map (fun e : MapEntry => (e.key, e.val)) = L at hinv
      clear hp2
      induction L with
      | nil => exact ⟨[], rfl⟩
      | cons v L ih =>
        obtain ⟨y, hy⟩ := hinv v (by simp)
        obtain ⟨l, hl⟩ := ih (fun v hv => hinv v (by simp [hv]))
        exact ⟨y :: l, by simp [hy, hl]⟩
    have hperm2 : left.Perm (x :: left') := by
      rw [← hxe, hl'] at hp2
      have hp3 : (left.map encE).Perm ((x :: left').map encE) := by simpa using hp2
      have hp4 := hp3.map decE
      rw [List.map_map, List.map_map] at hp4
      have hid : decE ∘ encE = id := funext decE_encE
      rw [hid, List.map_id, List.map_id] at hp4
      exact hp4
    have hk : e.key = .string x.1 := by have := congrArg Prod.fst hxe; simpa [encE] using this.symm
    have hv : e.val = .int .i64 (x.2 : Int) := by have := congrArg Prod.snd hxe; simpa [encE] using this.symm
    refine .inr ⟨x, left', _, hperm2, by rw [hrun, hk, hv], ⟨es, clock, seen.push e.born, hb2, he, hnd, hborn, hr2, hl'⟩, ?_, by simp [ChangeMaps.setBlock, hs1], ?_⟩
    · refine ⟨?_, ?_, ?_, by simp [ChangeMaps.setBlock, hs1], fun k hk hne2 => ?_⟩
      · rcases hal with rfl | rfl <;> rfl
      · rcases hal with rfl | rfl <;> rfl
      · rcases hal with rfl | rfl <;> rfl
      · simp only [ChangeMaps.setBlock, Array.getElem?_setIfInBounds]
        rw [if_neg (fun e => hne2 (by rw [e]))]
        rcases hal with rfl | rfl <;> rfl
    · rw [run_entry_at _ r b clock seen es clock e hr2 hb2 hmem hnd, hk, hv]

end Go.Proofs.Ytagjmphmdgklkaa

/- Walks: a directory's names. -/
namespace Go.Proofs.Ytagjmphmdgklkaa
open Go.RowKit

theorem wpList_next_iter {P : Program} {w : World} {ops : Array Oper} {rest : List Oper} {o : Oper} {a : Act} {Q : Exit → Act → World → Prop} (hg : o.guard = none) (it : Operand) (hop : o.op = Op.next it false) {r b : Nat} {m left : Ents}
    (hit : a.eval it = .pointer (some ⟨r, 0, none⟩)) (h : IterAt w r b m left) (hne : r ≠ b)
    (hDone : left = [] → wpList P ops Q rest (a.put o.dst (.tuple #[.bool false])) w)
    (hMore : ∀ (s : ByteArray) (n : Nat) (left' : Ents) (w' : World), left.Perm ((s, n) :: left') → IterAt w' r b m left' → w.grownBy w' (some r) → w'.heap.size = w.heap.size →
      (Instr.entry (.pointer (some ⟨r, 0, none⟩))).run P w' = .ok (.tuple #[.string s, .int .i64 (n : Int)]) w' → wpList P ops Q rest (a.put o.dst (.tuple #[.bool true, .string s, .int .i64 (n : Int)])) w') :
    wpList P ops Q (o :: rest) a w := by
  refine wpList_plain hg fun K' hK' => ?_
  unfold Oper.wp
  rcases iter_next (P := P) h hne o.type with ⟨hl, hrun⟩ | ⟨⟨s, n⟩, left', w', hp, hrun, hi, hgr, hsz, hen⟩
  · simp [execOp, hop, hit, hrun, Result.andThen]
    exact hK' _ _ (hDone hl)
  · simp [execOp, hop, hit, hrun, Result.andThen]
    exact hK' _ _ (hMore s n left' w' hp hi hgr hsz hen)

theorem wpList_range_iter {P : Program} {w : World} {ops : Array Oper} {rest : List Oper} {o : Oper} {a : Act} {Q : Exit → Act → World → Prop} (hg : o.guard = none) (x : Operand) (T K E : TypeId) (hop : o.op = Op.range T x) (hT : P.underlying T = some (.map K E)) {b : Nat} {m : Ents}
    (hx : a.eval x = .map (some b)) (h : MapAt w b m)
    (hK : ∀ w', IterAt w' w.heap.size b m m → Below w.heap.size w w' → w'.heap.size = w.heap.size + 1 → wpList P ops Q rest (a.put o.dst (.pointer (some ⟨w.heap.size, 0, none⟩))) w') : wpList P ops Q (o :: rest) a w := by
  refine wpList_plain hg fun K' hK' => ?_
  obtain ⟨ob, hrun, hi⟩ := iter_start hT h
  unfold Oper.wp
  simp [execOp, hop, hx, hrun, Result.andThen]
  exact hK' _ _ (hK _ hi ((Below.refl _ _).alloc (Nat.le_refl _) _) (by simp))

theorem tStrs : Try.prog.underlying 52 = some (.slice 9) := by kernel_rfl
theorem infoStr : (Try.prog.info? 9).map (fun i => (i.zero, i.size, i.bytes)) = some (some (.string ⟨#[]⟩), 1, 16) := by kernel_rfl

def sliceLen : Value → Nat
  | .slice _ n _ => n
  | _ => 0

def names (m : Ents) : List Value := m.map fun e => .string e.1

/-- the names that a walk through a map has collected -/
structure ListI (w wr : World) (b : Nat) (m : Ents) (out : Value) : Prop where
  ex : ∃ got left, IterAt wr w.heap.size b m left ∧ (got ++ left).Perm m ∧ Row wr 9 1 out got.length (names got) ∧ sliceLen out = got.length
  own : ∀ k, out.ownBlock = some k → w.heap.size < k
  below : Below w.heap.size w wr

theorem list_append {w wr : World} {b : Nat} {m got left : Ents} {out : Value} {s : ByteArray} {n : Nat} (hb : b < w.heap.size) (hi : IterAt wr w.heap.size b m left) (hp : (got ++ (s, n) :: left).Perm m) (hr : Row wr 9 1 out got.length (names got)) (ho : ∀ k, out.ownBlock = some k → w.heap.size < k)
    (hbl : Below w.heap.size w wr) (hm : m.length ≤ 1000000) :
    ∃ g2 n2 c2 w2, (Builtin.append_ #[52, 52] 52 #[out, .slice (some ⟨wr.heap.size, 0, none⟩) 1 1]).run Try.prog (wr.alloc (.cells #[.string s] 9)) = .ok (.slice (some ⟨g2, 0, none⟩) n2 c2) w2 ∧
      ListI w w2 b m (.slice (some ⟨g2, 0, none⟩) n2 c2) ∧ n2 = got.length + 1 ∧ got.length < m.length := by
  obtain ⟨i, hi', hz, hsz, hby⟩ := info_parts infoStr
  have hlen : got.length + (left.length + 1) = m.length := by have := hp.length_eq; simpa using this
  obtain ⟨g2, n2, c2, w2, hrun, hrow, hgr, hown, rfl⟩ := run_app_new (P := Try.prog) (w := wr) 52 52 9 i _ 1 16 tStrs hi' hz hsz hby rfl hr #[.string s] rfl (by intro u hu; simp at hu; subst hu; rfl) (by unfold maxLen; omega) (by omega)
  have hlt := hi.lt
  have ri : ∀ k, k ≤ w.heap.size → out.ownBlock ≠ some k := fun k hk e => by have := ho k e; omega
  refine ⟨g2, got.length + 1, c2, w2, hrun, ⟨⟨got ++ [(s, n)], left, hi.same (hgr.block b hlt.1 (fun e => ri b (by omega) e.symm)) (hgr.block _ hlt.2 (fun e => ri _ (by omega) e.symm)), by simpa using hp, ?_, by simp [sliceLen]⟩, ?_, ?_⟩, rfl, by omega⟩
  · have e1 : (got ++ [(s, n)]).length = got.length + 1 := by simp
    rw [e1]
    simpa [names] using hrow
  · intro k hk
    rcases hown k hk with h5 | h5
    · exact ho k h5
    · have := hlt.2; omega
  · exact hbl.grown hgr (by have := hbl.size; omega) (fun k hk => by have := ho k hk; omega)

set_option maxRecDepth 100000 in
set_option maxHeartbeats 1000000 in
theorem list_walk {w : World} {p b mb : Nat} {i : Int} {m : Ents} (ha : Calls Try.prog 61 #[.pointer (some ⟨p, 0, none⟩), .int .i64 i, .bool true] w fun e w' => e = .returned (.tuple #[.pointer (some ⟨b, 0, none⟩), .int .i64 0]) ∧ w = w')
    (c4 : w.cell? ⟨b, 4, none⟩ = some (.map (some mb))) (hm : MapAt w mb m) (hlen : m.length ≤ 1000000) {R : Value → World → Prop}
    (hs : ∀ W v, ListI w W mb m v → sliceLen v = m.length → Calls Try.prog 82 #[v] W fun e w' => e = .returned (.tuple #[]) ∧ R v w') :
    Calls Try.prog 38 #[.pointer (some ⟨p, 0, none⟩), .int .i64 i] w fun e w' => ∃ v, e = .returned (.tuple #[v, .int .i64 0]) ∧ R v w' := by
  have HA := Lib.hid ha
  have HS := Lib.hid hs
  have HM := Lib.hid hm
  have hmlt := hm.lt
  clear ha hs hm
  go_enter Try.func38, Try.ntmps38
  go_wp2_with (first | (go_at_call 61; refine (HA.out).mono ?_; rintro e w' ⟨rfl, rfl⟩) | (at_range; refine wpList_range_iter rfl _ _ _ _ rfl tMap rfl HM.out ?_; intro w0 hi0 hb0 hs0; have HI0 := Lib.hid hi0; have HB0 := Lib.hid hb0; clear hi0 hb0 hs0))
  go_frame
  go_loopw [8] (fun out wr => ListI w wr mb m out) (fun out _ => m.length - sliceLen out)
  case atStart => exact ⟨⟨[], m, HI0.out, by simp, Row.nil _ _ _, rfl⟩, by intro k hk; simp [Value.ownBlock] at hk, HB0.out⟩
  case round =>
    obtain ⟨⟨got, left, hi, hp, hrow, hsl⟩, hown, hbl⟩ := hrel
    have hne : w.heap.size ≠ mb := by omega
    have hgl : got.length ≤ m.length := by have := hp.length_eq; simp at this; omega
    obtain ⟨oa, on, oc, rfl⟩ := hrow.isSlice
    have hon : on = got.length := hsl
    have HON := Lib.hid hon
    have HI := Lib.hid hi
    have HP := Lib.hid hp
    have HR := Lib.hid hrow
    have HO := Lib.hid hown
    have HBL := Lib.hid hbl
    have HSL := Lib.hid hsl
    clear hi hp hrow hown hbl hsl HI0 HB0 hon
    go_wp2_with (first | (at_next; refine wpList_next_iter rfl _ rfl rfl HI.out hne ?_ ?_))
    · intro hl
      subst hl
      have hL : ListI w wr mb m (.slice oa on oc) := ⟨⟨got, [], HI.out, HP.out, HR.out, HSL.out⟩, HO.out, HBL.out⟩
      have hlm : sliceLen (.slice oa on oc) = m.length := by rw [HSL.out]; have := HP.out.length_eq; simpa using this
      have HSS := Lib.hid (HS.out _ _ hL hlm)
      clear hL hlm
      go_wp2_with (go_at_call 82; refine HSS.out.mono ?_; rintro e w' ⟨rfl, hR⟩; have HRR := Lib.hid hR; clear hR)
      go_ret2
      exact ⟨_, rfl, HRR.out⟩
    · intro s n left' w1 hp1 hi1 hg1 hs1 hen
      obtain ⟨g2, n2, c2, w2, hrun, hL, hn2, hgm⟩ := list_append (w := w) (wr := w1) (got := got) (left := left') (s := s) (n := n) hmlt hi1 ((hp1.append_left got).symm.trans HP.out) (HR.out.of_block fun k hk => hg1.block k (HR.out.lt k hk) (fun e => by have := HO.out k hk; simp at e; omega)) HO.out
        (HBL.out.grown hg1 (by have := HBL.out.size; omega) (fun k hk => by simp at hk; omega)) hlen
      have HL := Lib.hid hL
      have hn3 : n2 ≤ got.length + 1 := by omega
      have hn4 : got.length + 1 ≤ n2 := by omega
      clear hp1 hi1 hg1 hs1 hL hn2
      go_wp2_with (at_builtin; refine wpList_append_run rfl _ _ _ _ rfl _ _ _ rfl rfl hrun ?_; clear hrun)
      go_roundw
      case rel => exact HL.out
      case measure =>
        have := HON.out
        simp [sliceLen]; omega

end Go.Proofs.Ytagjmphmdgklkaa

/-
  DERIVED: THE SHELF's CONTRACTS AT THIS DUMP, IN PLAIN WORDS (tools/lay-plain.mjs out of 'TrySlim.lean', which tools/lay-shelf.mjs wrote): THE SAME DECLARATIONS UNDER THE SAME NAMES: 'import', 'namespace', 'open', 'def', 'theorem' AND NOTHING ELSE: no command of the shelf's: FOR A HAND-IN. Each laying: the table of numbers ('.._ren') and one theorem, a field a fact of the dump's own or the kernel's comparison; each contract: ONE APPLICATION.
-/
namespace Go.Proofs
open Go.Shelf
def Try.lays190_ren : Go.Shelf.Ren := ⟨fun | 190 => 82 | 125 => 113 | 258 => 118 | 128 => 131 | 129 => 132 | 302 => 136 | 303 => 137 | 304 => 138 | 305 => 139 | 306 => 140 | 307 => 141 | 308 => 142 | 309 => 143 | 310 => 144 | 333 => 152 | 329 => 147 | 330 => 148 | 334 => 153 | 335 => 154 | 336 => 133 | 344 => 156 | n => n, fun | 31 => 52 | 9 => 9 | 3 => 3 | 46 => 156 | 0 => 0 | 51 => 172 | 53 => 174 | 4 => 4 | 183 => 166 | 182 => 165 | 131 => 110 | 5 => 5 | 218 => 182 | 222 => 186 | 228 => 191 | 229 => 44 | n => n, fun | n => n⟩
theorem Try.lays190 : Go.Proofs.Lays.n190 Try.prog Try.lays190_ren := {
  mixed := by kernel_rfl
  f125 := Try.func113.trans (congrArg some (by kernel_rfl))
  f128 := Try.func131.trans (congrArg some (by kernel_rfl))
  f129 := Try.func132.trans (congrArg some (by kernel_rfl))
  f190 := Try.func82.trans (congrArg some (by kernel_rfl))
  f258 := Try.func118.trans (congrArg some (by kernel_rfl))
  f302 := Try.func136.trans (congrArg some (by kernel_rfl))
  f303 := Try.func137.trans (congrArg some (by kernel_rfl))
  f304 := Try.func138.trans (congrArg some (by kernel_rfl))
  f305 := Try.func139.trans (congrArg some (by kernel_rfl))
  f306 := Try.func140.trans (congrArg some (by kernel_rfl))
  f307 := Try.func141.trans (congrArg some (by kernel_rfl))
  f308 := Try.func142.trans (congrArg some (by kernel_rfl))
  f309 := Try.func143.trans (congrArg some (by kernel_rfl))
  f310 := Try.func144.trans (congrArg some (by kernel_rfl))
  f329 := Try.func147.trans (congrArg some (by kernel_rfl))
  f330 := Try.func148.trans (congrArg some (by kernel_rfl))
  f333 := Try.func152.trans (congrArg some (by kernel_rfl))
  f334 := Try.func153.trans (congrArg some (by kernel_rfl))
  f335 := Try.func154.trans (congrArg some (by kernel_rfl))
  f336 := Try.func133.trans (congrArg some (by kernel_rfl))
  f344 := Try.func156.trans (congrArg some (by kernel_rfl))
  t0 := Try.underlying0
  a0 := Try.isAgg0
  z0 := Try.sizeOf0
  v0 := Try.zeroValue0
  t3 := Try.underlying3
  a3 := Try.isAgg3
  z3 := Try.sizeOf3
  v3 := Try.zeroValue3
  t4 := Try.underlying4
  a4 := Try.isAgg4
  z4 := Try.sizeOf4
  v4 := Try.zeroValue4
  t5 := Try.underlying5
  a5 := Try.isAgg5
  z5 := Try.sizeOf5
  v5 := Try.zeroValue5
  t9 := Try.underlying9
  a9 := Try.isAgg9
  z9 := Try.sizeOf9
  v9 := Try.zeroValue9
  t31 := Try.underlying52
  a31 := Try.isAgg52
  z31 := Try.sizeOf52
  v31 := Try.zeroValue52
  t46 := Try.underlying156
  a46 := Try.isAgg156
  z46 := Try.sizeOf156
  v46 := Try.zeroValue156
  t51 := Try.underlying172
  a51 := Try.isAgg172
  z51 := Try.sizeOf172
  v51 := Try.zeroValue172
  t53 := Try.underlying174
  a53 := Try.isAgg174
  z53 := Try.sizeOf174
  v53 := Try.zeroValue174
  t131 := Try.underlying110
  a131 := Try.isAgg110
  z131 := Try.sizeOf110
  v131 := Try.zeroValue110
  t182 := Try.underlying165
  a182 := Try.isAgg165
  z182 := Try.sizeOf165
  v182 := Try.zeroValue165
  t183 := Try.underlying166
  a183 := Try.isAgg166
  z183 := Try.sizeOf166
  v183 := Try.zeroValue166
  t218 := Try.underlying182
  a218 := Try.isAgg182
  z218 := Try.sizeOf182
  v218 := Try.zeroValue182
  t222 := Try.underlying186
  a222 := Try.isAgg186
  z222 := Try.sizeOf186
  v222 := Try.zeroValue186
  t228 := Try.underlying191
  a228 := Try.isAgg191
  z228 := Try.sizeOf191
  v228 := Try.zeroValue191
  t229 := Try.underlying44
  a229 := Try.isAgg44
  z229 := Try.sizeOf44
  v229 := Try.zeroValue44 }
open Go.Sort Go.RowKit in
theorem Try.slices_Sort_string (blk off cap : Nat) (ss : List (List UInt8)) (w : World) (hH : Holds encStr w blk off ss.toArray) (hblk : blk < w.heap.size) (hsz : ss.length < 4611686018427387904) :
    Calls Try.prog 82 #[.slice (some ⟨blk, off, none⟩) ss.length cap] w fun e w' =>
      e = .returned (.tuple #[]) ∧ ∃ n os, w' = grow (putRow encStr (Sort.ahead w n) blk off (ss.mergeSort fun x y => decide (x ≤ y)).toArray) os := Any.slices_Sort_string Try.lays190 blk off cap ss w hH hblk hsz
open Go.RowKit Go.Sort in
/-- .. and plain. (LAID: no walk: one application.) -/
theorem Try.slices_Sort_string_none (p : Option Addr) (cap : Nat) (w : World) :
    Calls Try.prog 82 #[.slice p 0 cap] w fun e w' => e = .returned (.tuple #[]) ∧ w' = w := Any.slices_Sort_string_none Try.lays190 p cap w
end Go.Proofs

/- slices.Sort on a row of strings, as a contract on rows. -/
namespace Go.Proofs.Ytagjmphmdgklkaa
open Go.RowKit

theorem take_putCells {α : Type} [Inhabited α] (enc : α → Value) (d : Array α) (c : Array Value) (h : d.size ≤ c.size) : (Sort.putCells enc 0 d c).toList.take d.size = d.toList.map enc := by
  apply List.ext_getElem?
  intro k
  simp only [Sort.putCells, List.getElem?_take, Array.getElem?_toList, Array.getElem?_mapIdx, List.getElem?_map]
  by_cases hk : k < d.size
  · have hc : k < c.size := by omega
    simp [hk, hc]
  · simp [hk]

theorem sort_strs {W : World} {v : Value} {n : Nat} {ss : List (List UInt8)} (h : Row W 9 1 v n (ss.map encStr)) (hl : sliceLen v = n) (hn : n ≤ 1000000) :
    Calls Try.prog 82 #[v] W fun e w' => e = .returned (.tuple #[]) ∧ Row w' 9 1 v n ((ss.mergeSort fun x y => decide (x ≤ y)).map encStr) ∧ Keeps W w' (fun k => v.ownBlock = some k) := by
  obtain ⟨hlen, ⟨rfl, hn0⟩ | ⟨g, cap, cur, rfl, hb, h1, h2, h3, h4⟩⟩ := h
  · have : ss = [] := by
      cases ss with
      | nil => rfl
      | cons a t => simp at hlen; omega
    subst this
    subst hn0
    refine (Try.slices_Sort_string_none none 0 W).mono ?_
    rintro e w' ⟨rfl, rfl⟩
    exact ⟨rfl, ⟨by simp, .inl ⟨rfl, rfl⟩⟩, Keeps.refl _ _⟩
  · have hss : ss.length = n := by simpa using hlen
    subst hss
    have hlt : g < W.heap.size := (Array.getElem?_eq_some_iff.1 hb).1
    have h3' : ss.length ≤ cur.size := by omega
    have hcell : ∀ j (hj : j < ss.length), cur[j]? = some (encStr ss[j]) := by
      intro j hj
      have := congrArg (fun l => l[j]?) h4
      simp [List.getElem?_take, hj] at this
      rw [this]
    have hold : Sort.Holds encStr W g 0 ss.toArray := by
      intro j hj
      have hj' : j < ss.length := by simpa using hj
      refine ⟨?_, by simp [World.frozen?, hb]⟩
      simp only [World.cell?, hb, Nat.zero_add]
      rw [hcell j hj']
      simp [hj']
    refine (Try.slices_Sort_string g 0 cap ss W hold hlt (by omega)).mono ?_
    rintro e w' ⟨rfl, k, os, rfl⟩
    generalize hs : (ss.mergeSort fun x y => decide (x ≤ y)) = ms
    have hms : ms.length = ss.length := by rw [← hs]; exact List.length_mergeSort _
    have hob : (Sort.grow (Sort.putRow encStr (Sort.ahead W k) g 0 ms.toArray) os).heap[g]? = some (.cells (Sort.putCells encStr 0 ms.toArray cur) 9 (0, 0)) := by
      rw [Sort.heap_grow_old _ _ (by simpa using hlt)]
      simp [Sort.putRow, Sort.mapBlock, Array.getElem?_modify, hb, Sort.onCells]
    refine ⟨rfl, ⟨by simp [hms], .inr ⟨g, cap, _, rfl, hob, h1, h2, by simpa [Sort.putCells] using h3, ?_⟩⟩, ⟨rfl, rfl, rfl, by simp, ?_⟩⟩
    · have := take_putCells encStr ms.toArray cur (by simp; omega)
      simpa [hms] using this
    · intro x hx hn
      have hne : g ≠ x := fun e => hn (by simp [Value.ownBlock, e])
      rw [Sort.heap_grow_old _ _ (by simpa using hx)]
      simp [Sort.putRow, Sort.mapBlock, Array.getElem?_modify, hne]

def nameBytes (m : Ents) : List (List UInt8) := m.map fun e => e.1.data.toList
def listing (m : Ents) : List (List UInt8) := (nameBytes m).mergeSort fun x y => decide (x ≤ y)
def listVal (S : DS) (i : Int) : List (List UInt8) := if ofErr S i true = 0 then listing (S.nd (i - 1).toNat).seen.ents else []

theorem names_enc (m : Ents) : names m = (nameBytes m).map encStr := by simp [names, nameBytes, encStr]

theorem sort_perm {a b : List (List UInt8)} (h : a.Perm b) : (a.mergeSort fun x y => decide (x ≤ y)) = b.mergeSort fun x y => decide (x ≤ y) := by
  have tr : ∀ x y z : List UInt8, decide (x ≤ y) = true → decide (y ≤ z) = true → decide (x ≤ z) = true := by
    intro x y z h1 h2
    simp at h1 h2 ⊢
    exact List.le_trans h1 h2
  have tot : ∀ x y : List UInt8, (decide (x ≤ y) || decide (y ≤ x)) = true := by
    intro x y
    simp
    exact List.le_total x y
  refine List.Perm.eq_of_pairwise (le := fun x y => decide (x ≤ y) = true) ?_ (List.pairwise_mergeSort tr tot a) (List.pairwise_mergeSort tr tot b) ((List.mergeSort_perm a _).trans (h.trans (List.mergeSort_perm b _).symm))
  intro x y _ _ h1 h2
  simp at h1 h2
  exact List.le_antisymm h1 h2

/-- a fresh row of strings -/
structure GivenS (w w' : World) (v : Value) (l : List (List UInt8)) : Prop where
  row : Row w' 9 1 v l.length (l.map encStr)
  len : sliceLen v = l.length
  below : Below w.heap.size w w'
  own : ∀ k, v.ownBlock = some k → w.heap.size ≤ k ∧ k < w'.heap.size
theorem GivenS.nil (w : World) : GivenS w w (.slice none 0 0) [] := ⟨Row.nil _ _ _, rfl, Below.refl _ _, by intro k hk; simp [Value.ownBlock] at hk⟩

set_option maxRecDepth 100000 in
set_option maxHeartbeats 400000 in
theorem list_err {w : World} {p : Nat} {i e0 : Int} (ha : Calls Try.prog 61 #[.pointer (some ⟨p, 0, none⟩), .int .i64 i, .bool true] w fun e w' => e = .returned (.tuple #[.pointer none, .int .i64 e0]) ∧ w = w')
    (hne : (e0 != 0) = true) : Calls Try.prog 38 #[.pointer (some ⟨p, 0, none⟩), .int .i64 i] w fun e w' => e = .returned (.tuple #[.slice none 0 0, .int .i64 e0]) ∧ w = w' := by
  have HA := Lib.hid ha
  clear ha
  go_enter Try.func38, Try.ntmps38
  go_wp2_with (go_at_call 61; refine (HA.out).mono ?_; rintro e w' ⟨rfl, rfl⟩)
  go_ret2
  exact ⟨rfl, rfl⟩

theorem list_any {w : World} {p : Nat} {S : DS} {P : Nat → Prop} {vn : Value} {nb : Nat → Nat} {t : Nat → Nat} (h : DF w p S P vn nb t) (i : Int) (hb : ∀ k < S.nodes.length, (S.nd k).seen.ents.length ≤ 1000000) :
    Calls Try.prog 38 #[ptr p, .int .i64 i] w fun e w' => ∃ v, e = .returned (.tuple #[v, .int .i64 (ofErr S i true)]) ∧ GivenS w w' v (listVal S i) := by
  have ha := of_any h i true
  unfold ptr at ha ⊢
  by_cases h0 : ofErr S i true = 0
  · obtain ⟨hd, k, rfl, hk, hdir⟩ := ofErr_zero h0
    have e3 : ((k : Int) + 1 - 1).toNat = k := by omega
    have e2 : ofPtr S nb ((k : Int) + 1) true = ptr (nb k) := by unfold ofPtr; rw [if_pos h0, e3]
    rw [e2, h0] at ha
    have hn := h.nodes k hk
    rw [← S.nd_at hk] at hn
    obtain ⟨mb, c4, hm, hP⟩ := hn.dirMap hdir
    have el : listVal S ((k : Int) + 1) = listing (S.nd k).seen.ents := by unfold listVal; rw [if_pos h0, e3]
    rw [el, h0]
    refine list_walk (R := fun v w' => GivenS w w' v (listing (S.nd k).seen.ents)) ha c4 hm (hb k hk) ?_
    rintro W v ⟨⟨got, left, hi, hp, hr, hsl⟩, hown, hbl⟩ hl
    have hlen := hp.length_eq
    have hle : left = [] := by
      cases left with
      | nil => rfl
      | cons a t => simp at hlen; omega
    subst hle
    have hp' : got.Perm (S.nd k).seen.ents := by simpa using hp
    rw [names_enc] at hr
    have hgl : got.length ≤ 1000000 := by have := hb k hk; have := hp'.length_eq; omega
    refine (sort_strs hr hsl hgl).mono ?_
    rintro e w' ⟨rfl, hrow, hk2⟩
    have hs : ((nameBytes got).mergeSort fun x y => decide (x ≤ y)) = listing (S.nd k).seen.ents := sort_perm (hp'.map _)
    rw [hs] at hrow
    have hll : (listing (S.nd k).seen.ents).length = got.length := by rw [← hs, List.length_mergeSort]; simp [nameBytes]
    refine ⟨rfl, by rw [hll]; exact hrow, by rw [hll]; exact hsl, ?_, ?_⟩
    · exact hbl.trans ⟨hk2.os, hk2.tape, hk2.output, hk2.size, fun x hx => hk2.block x (by have := hbl.size; omega) (fun q => by have := hown x q; omega)⟩
    · intro k hk; exact ⟨by have := hown k hk; omega, hrow.lt k hk⟩
  · have e2 : ofPtr S nb i true = .pointer none := by unfold ofPtr; rw [if_neg h0]
    have el : listVal S i = [] := by unfold listVal; rw [if_neg h0]
    rw [el]
    rw [e2] at ha
    refine (list_err ha (by simpa using h0)).mono ?_
    rintro e w' ⟨rfl, rfl⟩
    exact ⟨_, rfl, GivenS.nil _⟩

end Go.Proofs.Ytagjmphmdgklkaa

/- Walks: the bytes of all files that entries lead to. -/
namespace Go.Proofs.Ytagjmphmdgklkaa
open Go.RowKit

/-- what a visit takes away -/
def vcost (S : DS) (file : Int) (lb : Nat) (j : Nat) : Nat := (S.nd (j - 1)).seen.bytes.length + if (j : Int) = file then lb else 0

/-- what the visitor holds -/
structure Vis (w : World) (p : Nat) (file : Int) (lb r bd bf bb : Nat) : Prop where
  d : w.cell? ⟨bd, 0, none⟩ = some (ptr p)
  f : w.cell? ⟨bf, 0, none⟩ = some (.int .i64 file)
  b : ∃ a c, w.cell? ⟨bb, 0, none⟩ = some (.slice a lb c)
  nd : bd ≠ r
  nf : bf ≠ r
  nb : bb ≠ r
  ld : bd < w.heap.size
  lf : bf < w.heap.size
  lb : bb < w.heap.size

theorem Vis.keep {w w' : World} {p : Nat} {file : Int} {lb r bd bf bb : Nat} (h : Vis w p file lb r bd bf bb) (hk : Keeps w w' (fun k => k = r)) : Vis w' p file lb r bd bf bb := by
  obtain ⟨h1, h2, ⟨a, c, h3⟩, h4, h5, h6, h7, h8, h9⟩ := h
  refine ⟨?_, ?_, ⟨a, c, ?_⟩, h4, h5, h6, Nat.lt_of_lt_of_le h7 hk.size, Nat.lt_of_lt_of_le h8 hk.size, Nat.lt_of_lt_of_le h9 hk.size⟩
  · rw [World.cell?_of_block (w := w) (hk.block bd h7 h4)]; exact h1
  · rw [World.cell?_of_block (w := w) (hk.block bf h8 h5)]; exact h2
  · rw [World.cell?_of_block (w := w) (hk.block bb h9 h6)]; exact h3

def visitor (r bd bf bb : Nat) : Value := .func (.func 84) #[] #[ptr r, ptr bd, ptr bf, ptr bb]

set_option maxRecDepth 100000 in
set_option maxHeartbeats 1000000 in
theorem visit_core {w : World} {p g cap n bk r bd bf bb k lb len cb cc : Nat} {file x : Int} {a c : Option Addr} (c0 : w.cell? ⟨p, 0, none⟩ = some (.slice (some ⟨g, 0, none⟩) n cap)) (hn : n ≤ 4096) (hk : k < n) (ck : w.cell? ⟨g, k, none⟩ = some (.pointer (some ⟨bk, 0, none⟩)))
    (c3 : w.cell? ⟨bk, 3, none⟩ = some (.slice a len cb)) (cd : w.cell? ⟨bd, 0, none⟩ = some (.pointer (some ⟨p, 0, none⟩))) (cf : w.cell? ⟨bf, 0, none⟩ = some (.int .i64 file)) (cbb : w.cell? ⟨bb, 0, none⟩ = some (.slice c lb cc)) (hr : Blk w r [.int .i64 x])
    (nd : bd ≠ r) (nf : bf ≠ r) (nb : bb ≠ r) (hx : x ≤ 9223372036854775807) (hlo : -4611686018427387904 ≤ x - len - lb) (hlen : len ≤ 140737488355328) (hlb : lb ≤ 140737488355328) :
    Calls Try.prog 84 #[.int .i64 ((k : Int) + 1), .pointer (some ⟨r, 0, none⟩), .pointer (some ⟨bd, 0, none⟩), .pointer (some ⟨bf, 0, none⟩), .pointer (some ⟨bb, 0, none⟩)] w fun e w' => e = .returned (.tuple #[]) ∧
      Blk w' r [.int .i64 (x - len - if ((k : Int) + 1) = file then (lb : Int) else 0)] ∧ Keeps w w' (fun k => k = r) := by
  have cr := hr.cell 0
  have fr := hr.frozen 0
  have hrl := hr.lt
  simp only [List.getElem?_cons_zero] at cr
  have HB := Lib.hid hr
  clear hr
  have w0 : IntKind.i64.wrap (k : Int) = (k : Int) := IntWalk.i64_in _ (by omega)
  have w1 : IntKind.i64.wrap (x - (len : Int)) = x - (len : Int) := IntWalk.i64_in _ (by omega)
  have w2 : IntKind.i64.wrap (x - (len : Int) - (lb : Int)) = x - (len : Int) - (lb : Int) := IntWalk.i64_in _ (by omega)
  have hk1 := keeps_cell w r 0 (.int .i64 (x - (len : Int)))
  by_cases hf : ((k : Int) + 1) = file
  · rw [if_pos hf]
    subst hf
    have HK := Lib.hid hk1
    clear hk1
    go_enter Try.func84, Try.ntmps84
    go_wp2
    refine wp_still_tail 15 (by kernel_rfl) (by kernel_rfl) ?_
    simp only [List.take_succ_cons, List.take_zero, List.drop_succ_cons, List.drop_zero]
    repeat still_step
    refine wpStill_nil ?_
    go_wp2
    go_end0
    exact ⟨rfl, (HB.out.set 0 _).set 0 _, (HK.out.trans (keeps_cell _ _ _ _) (fun _ _ q => q)).drew⟩
  · rw [if_neg hf]
    have HK := Lib.hid hk1
    clear hk1
    have hff : (((k : Int) + 1) == file) = false := by simpa using hf
    go_enter Try.func84, Try.ntmps84
    go_wp2
    refine wp_still_tail 15 (by kernel_rfl) (by kernel_rfl) ?_
    simp only [List.take_succ_cons, List.take_zero, List.drop_succ_cons, List.drop_zero]
    repeat still_step
    refine wpStill_nil ?_
    go_wp2
    go_end0
    rw [Int.sub_zero]
    exact ⟨rfl, HB.out.set 0 _, HK.out.drew⟩

theorem visit_any {w : World} {p : Nat} {S : DS} {P : Nat → Prop} {vn : Value} {nb : Nat → Nat} {t : Nat → Nat} (h : DF w p S P vn nb t) {file x : Int} {lb r bd bf bb j : Nat} (hv : Vis w p file lb r bd bf bb) (hr : Blk w r [.int .i64 x])
    (hj : 1 ≤ j) (hj2 : j ≤ S.nodes.length) (hx : x ≤ 9223372036854775807) (hlo : -4611686018427387904 ≤ x - (S.nd (j - 1)).seen.bytes.length - lb) (hlen : (S.nd (j - 1)).seen.bytes.length ≤ 140737488355328) (hlb : lb ≤ 140737488355328) :
    Calls Try.prog 84 #[.int .i64 (j : Int), ptr r, ptr bd, ptr bf, ptr bb] w fun e w' => e = .returned (.tuple #[]) ∧ Blk w' r [.int .i64 (x - vcost S file lb j)] ∧ Keeps w w' (fun k => k = r) := by
  obtain ⟨k, rfl⟩ : ∃ k, j = k + 1 := ⟨j - 1, by omega⟩
  have hk : k < S.nodes.length := by omega
  have e3 : k + 1 - 1 = k := by omega
  rw [e3] at hlo hlen
  obtain ⟨c0, _⟩ := dcell h.blk
  have hrow := h.row
  have hl := h.len
  have hn := h.nodes k hk
  rw [← S.nd_at hk] at hn
  obtain ⟨vb, c3, hrb, _⟩ := hn.fileBytes
  obtain ⟨a, c, rfl⟩ : ∃ a c, vb = .slice a (S.nd k).seen.bytes.length c := by
    rcases hrb.shape with ⟨rfl, e⟩ | ⟨g, cap, rfl, _⟩
    · rw [e]; exact ⟨_, _, rfl⟩
    · exact ⟨_, _, rfl⟩
  rcases hrow.shape with ⟨rfl, hn0⟩ | ⟨g, cap, rfl, hn1, hm, hg⟩
  · omega
  have hc := hrow.cellAt k (by omega)
  rw [ptrs_at hk] at hc
  obtain ⟨cd, cf, ⟨a2, c2, cb⟩, nd, nf, nb', _, _, _⟩ := hv
  unfold ptr at hc cd ⊢
  have hcast : ((k + 1 : Nat) : Int) = (k : Int) + 1 := by omega
  rw [hcast]
  refine (visit_core c0 hl hk hc c3 cd cf cb hr nd nf nb' hx hlo hlen hlb).mono ?_
  rintro e w' ⟨rfl, hb, hk2⟩
  refine ⟨rfl, ?_, hk2⟩
  have ev : x - (vcost S file lb (k + 1) : Int) = x - (S.nd k).seen.bytes.length - if ((k : Int) + 1) = file then (lb : Int) else 0 := by
    unfold vcost
    rw [hcast, e3]
    split <;> omega
  rw [ev]
  exact hb

def leftN (w : World) (r b : Nat) : Nat := match w.heap[b]?, w.heap[r]? with
  | some (.map es _), some (.mapIter _ _ seen _) => (leftOf es seen).toList.length
  | _, _ => 0
theorem IterAt.leftN {w : World} {r b : Nat} {m left : Ents} (h : IterAt w r b m left) : leftN w r b = left.length := by
  obtain ⟨es, clock, seen, h1, h2, h3, h4, h5, h6⟩ := h
  have := congrArg List.length h6
  simp only [List.length_map] at this
  unfold Go.Proofs.Ytagjmphmdgklkaa.leftN
  rw [h1, h5]
  exact this

def ecost (S : DS) (file : Int) (lb : Nat) (f : Nat → Nat) (e : ByteArray × Nat) : Nat := vcost S file lb e.2 + if (S.nd (e.2 - 1)).dir then f e.2 else 0
/-- what all visits take away -/
def rsum (S : DS) (file : Int) (lb : Nat) : Nat → Nat → Nat
  | 0, _ => 0
  | n + 1, d => ((S.nd (d - 1)).seen.ents.map (ecost S file lb (rsum S file lb n))).sum

/-- entries lead on -/
def Leads (S : DS) : Prop := ∀ k, k < S.nodes.length → ∀ e ∈ (S.nd k).seen.ents, k + 1 < e.2 ∧ e.2 ≤ S.nodes.length

structure ReachI (w wr : World) (r b0 mb : Nat) (m : Ents) (x : Int) (c : ByteArray × Nat → Nat) : Prop where
  ex : ∃ got left, IterAt wr b0 mb m left ∧ (got ++ left).Perm m ∧ Blk wr r [.int .i64 (x - ((got.map c).sum : Nat))]
  keeps : Keeps w wr (fun k => k = r)

theorem Keeps.cell {w w' : World} {P : Nat → Prop} (h : Keeps w w' P) {b o : Nat} {v : Value} (hc : w.cell? ⟨b, o, none⟩ = some v) (hp : ¬ P b) : w'.cell? ⟨b, o, none⟩ = some v := by
  have hl : b < w.heap.size := by
    refine Decidable.byContradiction fun hn => ?_
    have : w.heap[b]? = none := by simp; omega
    simp [World.cell?, this] at hc
  rw [World.cell?_of_block (w := w) (h.block b hl hp)]
  exact hc

theorem lt_of_cell {w : World} {b o : Nat} {v : Value} (h : w.cell? ⟨b, o, none⟩ = some v) : b < w.heap.size := by
  refine Decidable.byContradiction fun hn => ?_
  have : w.heap[b]? = none := by simp; omega
  simp [World.cell?, this] at h

set_option maxRecDepth 100000 in
set_option maxHeartbeats 1000000 in
theorem reach_core {w : World} {p g cap N bk k r bd bf bb mb : Nat} {x : Int} {m : Ents} {c : ByteArray × Nat → Nat} (c0 : w.cell? ⟨p, 0, none⟩ = some (.slice (some ⟨g, 0, none⟩) N cap)) (hN : N ≤ 4096) (hk : k < N) (ck : w.cell? ⟨g, k, none⟩ = some (.pointer (some ⟨bk, 0, none⟩)))
    (c4 : w.cell? ⟨bk, 4, none⟩ = some (.map (some mb))) (hm : MapAt w mb m) (hr : Blk w r [.int .i64 x]) (nrp : p ≠ r) (nrg : g ≠ r) (nrm : mb ≠ r)
    (hin : ∀ e ∈ m, 1 ≤ e.2 ∧ e.2 ≤ N) (nk : Nat → Nat) (dk : Nat → Bool) (hnk : ∀ e ∈ m, w.cell? ⟨g, e.2 - 1, none⟩ = some (.pointer (some ⟨nk e.2, 0, none⟩)) ∧ w.cell? ⟨nk e.2, 0, none⟩ = some (.bool (dk e.2)) ∧ nk e.2 ≠ r)
    (v f : ByteArray × Nat → Nat) (hc : ∀ e, c e = v e + if dk e.2 then f e else 0)
    (hvis : ∀ (wr : World) (y : Int) (got left : Ents) (e : ByteArray × Nat), Keeps w wr (fun k => k = r) → (got ++ e :: left).Perm m → Blk wr r [.int .i64 y] → y = x - ((got.map c).sum : Nat) →
      Calls Try.prog 84 #[.int .i64 (e.2 : Int), .pointer (some ⟨r, 0, none⟩), .pointer (some ⟨bd, 0, none⟩), .pointer (some ⟨bf, 0, none⟩), .pointer (some ⟨bb, 0, none⟩)] wr fun o w' => o = .returned (.tuple #[]) ∧ Blk w' r [.int .i64 (y - (v e : Nat))] ∧ Keeps wr w' (fun k => k = r))
    (hrec : ∀ (wr : World) (y : Int) (got left : Ents) (e : ByteArray × Nat), Keeps w wr (fun k => k = r) → (got ++ e :: left).Perm m → Blk wr r [.int .i64 y] → y = x - ((got.map c).sum : Nat) - (v e : Nat) → dk e.2 = true →
      Calls Try.prog 83 #[.pointer (some ⟨p, 0, none⟩), .int .i64 (e.2 : Int), .func (.func 84) #[] #[.pointer (some ⟨r, 0, none⟩), .pointer (some ⟨bd, 0, none⟩), .pointer (some ⟨bf, 0, none⟩), .pointer (some ⟨bb, 0, none⟩)]] wr fun o w' => o = .returned (.tuple #[]) ∧ Blk w' r [.int .i64 (y - (f e : Nat))] ∧ Keeps wr w' (fun k => k = r)) :
    Calls Try.prog 83 #[.pointer (some ⟨p, 0, none⟩), .int .i64 ((k : Int) + 1), .func (.func 84) #[] #[.pointer (some ⟨r, 0, none⟩), .pointer (some ⟨bd, 0, none⟩), .pointer (some ⟨bf, 0, none⟩), .pointer (some ⟨bb, 0, none⟩)]] w fun o w' =>
      o = .returned (.tuple #[]) ∧ Blk w' r [.int .i64 (x - ((m.map c).sum : Nat))] ∧ Keeps w w' (fun k => k = r) := by
  have w0 : IntKind.i64.wrap (k : Int) = (k : Int) := IntWalk.i64_in _ (by omega)
  have HV := Lib.hid hvis
  have HR := Lib.hid hrec
  have HNK := Lib.hid hnk
  have HIN := Lib.hid hin
  have HC := Lib.hid hc
  have HM := Lib.hid hm
  have HB := Lib.hid hr
  have EG := Lib.hid (enters_of Try.func84 (by kernel_rfl) rfl)
  have hmlt := hm.lt
  have hrlt := hr.lt
  have plt := lt_of_cell c0
  have glt := lt_of_cell ck
  clear hvis hrec hnk hin hc hm hr
  go_enter Try.func83, Try.ntmps83
  go_wp2_with (at_range; refine wpList_range_iter rfl _ _ _ _ rfl tMap rfl HM.out ?_; intro w0 hi0 hb0 hs0; have HI0 := Lib.hid hi0; have HB0 := Lib.hid hb0; clear hi0 hb0 hs0)
  go_frame
  go_loopw [7] (fun _ wr => ReachI w wr r w.heap.size mb m x c) (fun _ wr => leftN wr w.heap.size mb)
  case atStart => exact ⟨⟨[], m, HI0.out, by simp, by simpa using HB.out.of_block (HB0.out.block r hrlt)⟩, Keeps.of_below HB0.out _⟩
  case round =>
    obtain ⟨⟨got, left, hi, hp, hbl⟩, hkp⟩ := hrel
    have hne : w.heap.size ≠ mb := by omega
    have HI := Lib.hid hi
    have HP := Lib.hid hp
    have HBL := Lib.hid hbl
    have HKP := Lib.hid hkp
    clear hi hp hbl hkp HI0 HB0
    go_wp2_with (first | (at_next; refine wpList_next_iter rfl _ rfl rfl HI.out hne ?_ ?_))
    · intro hl
      subst hl
      have hs : (got.map c).sum = (m.map c).sum := by
        have := (HP.out.map c).sum_nat
        simpa using this
      go_wp2
      go_end0
      have hb2 := HBL.out
      rw [hs] at hb2
      exact ⟨rfl, hb2, HKP.out⟩
    · intro s n left' w1 hp1 hi1 hg1 hs1 hen
      have hpp : (got ++ (s, n) :: left').Perm m := (hp1.append_left got).symm.trans HP.out
      have hmem : (s, n) ∈ m := hpp.mem_iff.1 (by simp)
      obtain ⟨h1n, h2n⟩ := HIN.out _ hmem
      obtain ⟨e1, e2, e3⟩ := HNK.out _ hmem
      have hc1 := HC.out (s, n)
      obtain ⟨q, rfl⟩ : ∃ q, n = q + 1 := ⟨n - 1, by simp at h1n; omega⟩
      simp only [Nat.add_sub_cancel] at e1 e2 e3 h1n h2n hc1
      have hcast : ((q + 1 : Nat) : Int) = (q : Int) + 1 := by omega
      have hqN : q < N := by omega
      have wq : IntKind.i64.wrap (q : Int) = (q : Int) := IntWalk.i64_in _ (by omega)
      have k1 : Keeps w w1 (fun k => k = r) := HKP.out.grownBy hg1 (fun k hk => by simp at hk; omega)
      have b1 := HBL.out.of_block (hg1.block r HBL.out.lt (fun e => by simp at e; omega))
      have hv1 := HV.out w1 _ got left' _ k1 hpp b1 rfl
      simp only [hcast] at hv1 hen
      have HI1 := Lib.hid hi1
      have HV1 := Lib.hid hv1
      have K1 := Lib.hid k1
      have HPP := Lib.hid hpp
      have hs1' := hs1
      have HLL := Lib.hid hp1.length_eq
      clear hv1 k1 hpp b1 hp1 hi1 hg1 hs1
      cases hdk : dk (q + 1) <;> rw [hdk] at e2
      · go_wp2_with (refine HV1.out.mono ?_; rintro o w2 ⟨rfl, hb2, hk2⟩; have k2 := K1.out.trans hk2 (fun _ _ q => q); have d0 := k2.cell c0 nrp; have d1 := k2.cell e1 nrg; have d2 := k2.cell e2 e3; have HB2 := Lib.hid hb2; have HK2 := Lib.hid hk2; have K2 := Lib.hid k2; clear hb2 hk2 k2)
        have hi2 := HI1.out.same (HK2.out.block _ HI1.out.lt.1 (fun e => nrm e)) (HK2.out.block _ HI1.out.lt.2 (fun e => by omega))
        refine ⟨⟨⟨got ++ [(s, q + 1)], left', hi2, by simpa using HPP.out, ?_⟩, K2.out⟩, ?_⟩
        · have ev : x - ((((got ++ [(s, q + 1)]).map c).sum : Nat) : Int) = x - ((got.map c).sum : Nat) - (v (s, q + 1) : Nat) := by
            simp only [List.map_append, List.map_cons, List.map_nil, List.sum_append, List.sum_cons, List.sum_nil]
            rw [hc1, hdk]
            simp
            omega
          rw [ev]
          exact HB2.out
        · rw [hi2.leftN, HI.out.leftN]
          have := HLL.out
          simp at this
          omega
      · go_wp2_with (first | (refine HV1.out.mono ?_; rintro o w2 ⟨rfl, hb2, hk2⟩; have k2 := K1.out.trans hk2 (fun _ _ q => q); have d0 := k2.cell c0 nrp; have d1 := k2.cell e1 nrg; have d2 := k2.cell e2 e3; have HB2 := Lib.hid hb2; have HK2 := Lib.hid hk2; have K2 := Lib.hid k2; clear hb2 hk2 k2) | (go_at_call 83; refine (HR.out w2 _ got left' _ K2.out HPP.out HB2.out rfl hdk).mono ?_; rintro o w3 ⟨rfl, hb3, hk3⟩; have HB3 := Lib.hid hb3; have HK3 := Lib.hid hk3; clear hb3 hk3))
        have hk3 := HK2.out.trans HK3.out (fun _ _ q => q)
        have hi2 := HI1.out.same (hk3.block _ HI1.out.lt.1 (fun e => nrm e)) (hk3.block _ HI1.out.lt.2 (fun e => by omega))
        refine ⟨⟨⟨got ++ [(s, q + 1)], left', hi2, by simpa using HPP.out, ?_⟩, K2.out.trans HK3.out (fun _ _ q => q)⟩, ?_⟩
        · have ev : x - ((((got ++ [(s, q + 1)]).map c).sum : Nat) : Int) = x - ((got.map c).sum : Nat) - (v (s, q + 1) : Nat) - (f (s, q + 1) : Nat) := by
            simp only [List.map_append, List.map_cons, List.map_nil, List.sum_append, List.sum_cons, List.sum_nil]
            rw [hc1, hdk]
            simp
            omega
          rw [ev]
          exact HB3.out
        · rw [hi2.leftN, HI.out.leftN]
          have := HLL.out
          simp at this
          omega

end Go.Proofs.Ytagjmphmdgklkaa

/- Walks: the bytes of all files that entries lead to, as a contract on the whole disk. -/
namespace Go.Proofs.Ytagjmphmdgklkaa
open Go.RowKit

theorem rsum_step (S : DS) (file : Int) (lb n d : Nat) : rsum S file lb (n + 1) d = ((S.nd (d - 1)).seen.ents.map (ecost S file lb (rsum S file lb n))).sum := rfl

theorem DF.pRow {w : World} {p : Nat} {S : DS} {P : Nat → Prop} {vn : Value} {nb : Nat → Nat} {t : Nat → Nat} (h : DF w p S P vn nb t) {k : Nat} (hk : k < S.nodes.length) : ∃ g cap, vn = .slice (some ⟨g, 0, none⟩) S.nodes.length cap ∧ P g ∧ ∀ j, j < S.nodes.length → w.cell? ⟨g, j, none⟩ = some (.pointer (some ⟨nb j, 0, none⟩)) := by
  have hr := h.row
  rcases hr.shape with ⟨rfl, hn0⟩ | ⟨g, cap, rfl, hn1, hm, hg⟩
  · omega
  · refine ⟨g, cap, rfl, h.inP g (by rw [h.vnT g (by simp [Value.ownBlock])]; omega), fun j hj => ?_⟩
    have hc := hr.cellAt j (by omega)
    rw [ptrs_at hj] at hc
    exact hc

theorem NodeAt.inQ {w : World} {b : Nat} {N : Nd} {P : Nat → Prop} (h : NodeAt w b N P) : P b := by
  obtain ⟨vsb, vsm, veb, vem, vl, f, t, h1, h2, h3, h4, h5, h6, h7, h8, h9, h10⟩ := h
  exact h10 b (by omega)

theorem reach_any {p : Nat} {S : DS} {P : Nat → Prop} {vn : Value} {nb : Nat → Nat} {t : Nat → Nat} {file : Int} {lb r bd bf bb : Nat} (hL : Leads S) (hB : ∀ k, k < S.nodes.length → (S.nd k).seen.bytes.length ≤ 140737488355328)
    (hlb : lb ≤ 140737488355328) (hlen : S.nodes.length ≤ 4096) (rP : ¬ P r) :
    ∀ (n d : Nat) (w : World) (x : Int), DF w p S P vn nb t → Vis w p file lb r bd bf bb → Blk w r [.int .i64 x] → 1 ≤ d → d ≤ S.nodes.length → S.nodes.length - d < n → (S.nd (d - 1)).dir = true →
      x ≤ 9223372036854775807 → -4611686018427387904 + (lb : Int) ≤ x - (rsum S file lb n d : Nat) →
      Calls Try.prog 83 #[ptr p, .int .i64 (d : Int), visitor r bd bf bb] w fun o w' => o = .returned (.tuple #[]) ∧ Blk w' r [.int .i64 (x - (rsum S file lb n d : Nat))] ∧ Keeps w w' (fun k => k = r) := by
  intro n
  induction n with
  | zero => intro d w x _ _ _ _ _ h; omega
  | succ n ih =>
    intro d w x h hv hr h1 h2 h3 hdir hx hlo
    obtain ⟨k, rfl⟩ : ∃ k, d = k + 1 := ⟨d - 1, by omega⟩
    have hk : k < S.nodes.length := by omega
    simp only [Nat.add_sub_cancel] at hdir
    obtain ⟨g, cap, rfl, hg, hcells⟩ := h.pRow hk
    obtain ⟨c0, _⟩ := dcell h.blk
    have hn := h.nodes k hk
    rw [← S.nd_at hk] at hn
    obtain ⟨mb, c4, hm, hP⟩ := hn.dirMap hdir
    have hPP := h.inP mb (by rw [hP]; omega)
    have hcast : ((k + 1 : Nat) : Int) = (k : Int) + 1 := by omega
    rw [hcast]
    rw [rsum_step] at hlo ⊢
    simp only [Nat.add_sub_cancel] at hlo ⊢
    have hne : ∀ z, P z → z ≠ r := fun z hz e => rP (e ▸ hz)
    have hmem : ∀ e ∈ (S.nd k).seen.ents, 1 ≤ e.2 ∧ e.2 ≤ S.nodes.length := fun e he => ⟨by have := (hL k hk e he).1; omega, (hL k hk e he).2⟩
    have hsum : ∀ (got left : Ents) (e : ByteArray × Nat), (got ++ e :: left).Perm (S.nd k).seen.ents → (got.map (ecost S file lb (rsum S file lb n))).sum + ecost S file lb (rsum S file lb n) e ≤ ((S.nd k).seen.ents.map (ecost S file lb (rsum S file lb n))).sum := by
      intro got left e hp
      have := (hp.map (ecost S file lb (rsum S file lb n))).sum_nat
      simp only [List.map_append, List.map_cons, List.sum_append, List.sum_cons] at this
      omega
    refine reach_core (c := ecost S file lb (rsum S file lb n)) c0 hlen hk (hcells k hk) c4 hm hr (hne p h.pP) (hne g hg) (hne mb hPP) hmem (fun j => nb (j - 1)) (fun j => (S.nd (j - 1)).dir) ?_ (fun e => vcost S file lb e.2) (fun e => rsum S file lb n e.2) (fun e => rfl) ?_ ?_
    · intro e he
      have hj := hmem e he
      have hj' : e.2 - 1 < S.nodes.length := by omega
      have hnj := h.nodes (e.2 - 1) hj'
      rw [← S.nd_at hj'] at hnj
      exact ⟨hcells _ hj', hnj.dirCell, hne _ (h.inP _ (by rw [hnj.inQ]; omega))⟩
    · intro wr y got left e hkp hp hb hy
      have hj := hmem e (hp.mem_iff.1 (by simp))
      have hs := hsum got left e hp
      have hdf := h.keep hkp (fun z hz hz2 => hne z hz2 hz)
      subst hy
      refine (visit_any hdf (hv.keep hkp) hb hj.1 hj.2 (by omega) ?_ (hB _ (by omega)) hlb).mono ?_
      · have h7 : vcost S file lb e.2 ≤ ecost S file lb (rsum S file lb n) e := Nat.le_add_right _ _
        have h8 : (S.nd (e.2 - 1)).seen.bytes.length ≤ vcost S file lb e.2 := Nat.le_add_right _ _
        omega
      · rintro o w' ⟨rfl, h5, h6⟩
        exact ⟨rfl, h5, h6⟩
    · intro wr y got left e hkp hp hb hy hd
      have hme := hp.mem_iff.1 (show e ∈ got ++ e :: left by simp)
      have hj := hmem e hme
      have hl := hL k hk e hme
      have hs := hsum got left e hp
      have hdf := h.keep hkp (fun z hz hz2 => hne z hz2 hz)
      subst hy
      have hee : ecost S file lb (rsum S file lb n) e = vcost S file lb e.2 + rsum S file lb n e.2 := by unfold ecost; rw [if_pos hd]
      refine (ih e.2 wr _ hdf (hv.keep hkp) hb hj.1 hj.2 (by omega) hd (by omega) (by omega)).mono ?_
      rintro o w' ⟨rfl, h5, h6⟩
      exact ⟨rfl, h5, h6⟩

end Go.Proofs.Ytagjmphmdgklkaa

/- Walks: what Append does, as an op. -/
namespace Go.Proofs.Ytagjmphmdgklkaa
open Go.RowKit

def DS.appended (S : DS) (k : Nat) (l : List UInt8) : DS := if l = [] then S else S.step k (.app l)

set_option maxRecDepth 100000 in
set_option maxHeartbeats 1000000 in
theorem app2_nil {w : World} {bb bN : Nat} {a : Option Addr} {c : Nat} (h : w.cell? ⟨bb, 0, none⟩ = some (.slice a 0 c)) :
    Calls Try.prog 87 #[.pointer (some ⟨bb, 0, none⟩), .pointer (some ⟨bN, 0, none⟩)] w fun e w' => e = .returned (.tuple #[]) ∧ w = w' := by
  go_enter Try.func87, Try.ntmps87
  go_wp2
  go_end0
  exact ⟨rfl, rfl⟩

set_option maxRecDepth 100000 in
set_option maxHeartbeats 1000000 in
theorem app2_core {w : World} {bb bN b n : Nat} {a : Option Addr} {c : Nat} (h : w.cell? ⟨bb, 0, none⟩ = some (.slice a n c)) (hn : 0 < n) (hN : w.cell? ⟨bN, 0, none⟩ = some (.pointer (some ⟨b, 0, none⟩))) {R : World → Prop}
    (ha : Calls Try.prog 88 #[.pointer (some ⟨b, 0, none⟩), .agg #[.int .i64 (n : Int), .func (.func 89) #[] #[.pointer (some ⟨bb, 0, none⟩)]]] w fun e w' => e = .returned (.tuple #[]) ∧ R w') :
    Calls Try.prog 87 #[.pointer (some ⟨bb, 0, none⟩), .pointer (some ⟨bN, 0, none⟩)] w fun e w' => e = .returned (.tuple #[]) ∧ R w' := by
  have HA := Lib.hid ha
  clear ha
  go_enter Try.func87, Try.ntmps87
  go_wp2_with (go_at_call 88; refine HA.out.mono ?_; rintro e w' ⟨rfl, hR⟩; have HR := Lib.hid hR; clear hR)
  go_end0
  exact ⟨rfl, HR.out⟩

theorem app2_any {w : World} {p : Nat} {S : DS} {P : Nat → Prop} {vn : Value} {nb : Nat → Nat} {t : Nat → Nat} (h : DF w p S P vn nb t) {k : Nat} (hk : k < S.nodes.length) (hdir : (S.nd k).dir = false) (hll : (S.nd k).loose.length ≤ 1000000)
    {bb bN : Nat} {vb : Value} {l : List UInt8} (hb : Blk w bb [vb]) (hr : Row w 5 1 vb l.length (bcells l)) (hN : Blk w bN [ptr (nb k)]) (hl : l.length + (S.nd k).seen.bytes.length ≤ 140737488355328) (n1 : ¬ P bb) (n2 : ∀ x, vb.ownBlock = some x → ¬ P x) :
    Calls Try.prog 87 #[ptr bb, ptr bN] w fun e w' => e = .returned (.tuple #[]) ∧
      Keeps w w' P ∧ ∃ P2 vn2 nb2 t2, DF w' p (S.appended k l) P2 vn2 nb2 t2 ∧ ∀ x, P2 x → grow P w w' x ∨ x = bb ∨ vb.ownBlock = some x := by
  obtain ⟨a, c, rfl⟩ : ∃ a c, vb = .slice a l.length c := by
    rcases hr.shape with ⟨rfl, e⟩ | ⟨g, cap, rfl, _⟩
    · rw [e]; exact ⟨_, _, rfl⟩
    · exact ⟨_, _, rfl⟩
  by_cases h0 : l = []
  · subst h0
    refine (app2_nil (bN := bN) (hb.cell 0)).mono ?_
    rintro e w' ⟨rfl, rfl⟩
    exact ⟨rfl, Keeps.refl _ _, P, vn, nb, t, h, fun x hx => .inl (.inl hx)⟩
  · have hpos : 0 < l.length := by cases l with
      | nil => exact absurd rfl h0
      | cons x t => simp
    have hs : StepVal w (.func (.func 89) #[] #[ptr bb]) (.app l) (fun x => x = bb ∨ (Value.slice a l.length c).ownBlock = some x) := ⟨bb, _, rfl, hb, hr, .inl rfl, fun x hx => .inr hx, hpos⟩
    have hadd := disk_add h hk hs (by rw [hdir]; rfl) (show (S.nd k).seen.bytes.length + l.length ≤ 140737488355328 by omega) (fun x hx => by rcases hx with rfl | hx; exact n1; exact n2 x hx) (fun x hx => by rcases hx with rfl | hx; exact hb.lt; exact hr.lt x hx) hll hpos
    refine (app2_core (hb.cell 0) hpos (hN.cell 0) hadd).mono ?_
    rintro e w' ⟨rfl, ⟨t', hd⟩, hk2⟩
    have e2 : S.appended k l = S.step k (.app l) := by unfold DS.appended; rw [if_neg h0]
    rw [e2]
    refine ⟨rfl, hk2, _, vn, nb, t', hd, ?_⟩
    rintro x (hx | hx | hx)
    · exact .inl hx
    · exact .inr (.inl hx)
    · exact .inr (.inr hx)

end Go.Proofs.Ytagjmphmdgklkaa

/- Walks: Append. -/
namespace Go.Proofs.Ytagjmphmdgklkaa
open Go.RowKit

theorem cell_alloc {W : World} {a : Addr} {v : Value} (o : Obj) (h : W.cell? a = some v) : (W.alloc o).cell? a = some v := by
  obtain ⟨b, j, q⟩ := a
  have hl : b < W.heap.size := by
    refine Decidable.byContradiction fun hn => ?_
    have : W.heap[b]? = none := by simp; omega
    simp [World.cell?, this] at h
  rw [World.cell?_of_block (w := W) (Below.heap_alloc W o b hl)]
  exact h

theorem ap_cap {w : World} {p : Nat} {room : Int} (sa : Option Addr) (sn sc b : Nat) (i : Int) (h : w.cell? ⟨p, 1, none⟩ = some (.int .i64 room)) (T0 T1 T2 T3 : TypeId) :
    ((((w.alloc (.cells #[.pointer (some ⟨p, 0, none⟩)] T0)).alloc (.cells #[.int .i64 i] T1)).alloc (.cells #[.slice sa sn sc] T2)).alloc (.cells #[.pointer (some ⟨b, 0, none⟩)] T3)).cell? ⟨p, 1, none⟩ = some (.int .i64 room) :=
  cell_alloc _ (cell_alloc _ (cell_alloc _ (cell_alloc _ h)))

theorem five_below {w : World} (a b c d e : Obj) : Below w.heap.size w (((((w.alloc a).alloc b).alloc c).alloc d).alloc e) := (four_below a b c d).alloc (by simp; omega) _

/-- the boxes of Append's variables -/
structure ABoxes (w W : World) (p b : Nat) (file : Int) (vb : Value) (room : Int) : Prop where
  below : Below w.heap.size w W
  b0 : Blk W w.heap.size [ptr p]
  b1 : Blk W (w.heap.size + 1) [.int .i64 file]
  b2 : Blk W (w.heap.size + 1 + 1) [vb]
  b3 : Blk W (w.heap.size + 1 + 1 + 1) [ptr b]
  b4 : Blk W (w.heap.size + 1 + 1 + 1 + 1) [.int .i64 room]

theorem aboxes_made (w : World) (p b : Nat) (file room : Int) (vb : Value) (T0 T1 T2 T3 T4 : TypeId) :
    ABoxes w (((((w.alloc (.cells #[.pointer (some ⟨p, 0, none⟩)] T0)).alloc (.cells #[.int .i64 file] T1)).alloc (.cells #[vb] T2)).alloc (.cells #[.pointer (some ⟨b, 0, none⟩)] T3)).alloc (.cells #[.int .i64 room] T4)) p b file vb room := by
  have al : ∀ {W : World} {k : Nat} {cs : List Value} (o : Obj), Blk W k cs → Blk (W.alloc o) k cs := fun o h => h.of_block (Below.heap_alloc _ _ _ h.lt)
  refine ⟨five_below _ _ _ _ _, ?_, ?_, ?_, ?_, ?_⟩
  · exact al _ (al _ (al _ (al _ (Blk.made w _ T0))))
  · have := Blk.made (w.alloc (.cells #[.pointer (some ⟨p, 0, none⟩)] T0)) #[.int .i64 file] T1
    simp only [World.size_alloc] at this
    exact al _ (al _ (al _ this))
  · have := Blk.made ((w.alloc (.cells #[.pointer (some ⟨p, 0, none⟩)] T0)).alloc (.cells #[.int .i64 file] T1)) #[vb] T2
    simp only [World.size_alloc] at this
    exact al _ (al _ this)
  · have := Blk.made (((w.alloc (.cells #[.pointer (some ⟨p, 0, none⟩)] T0)).alloc (.cells #[.int .i64 file] T1)).alloc (.cells #[vb] T2)) #[.pointer (some ⟨b, 0, none⟩)] T3
    simp only [World.size_alloc] at this
    exact al _ this
  · have := Blk.made ((((w.alloc (.cells #[.pointer (some ⟨p, 0, none⟩)] T0)).alloc (.cells #[.int .i64 file] T1)).alloc (.cells #[vb] T2)).alloc (.cells #[.pointer (some ⟨b, 0, none⟩)] T3)) #[.int .i64 room] T4
    simp only [World.size_alloc] at this
    exact this

set_option maxRecDepth 100000 in
set_option maxHeartbeats 1000000 in
theorem append_e1 {w : World} {p : Nat} {i e0 : Int} {sa : Option Addr} {sn sc : Nat} (ha : ∀ W, Below w.heap.size w W → Calls Try.prog 61 #[.pointer (some ⟨p, 0, none⟩), .int .i64 i, .bool false] W fun e w' => e = .returned (.tuple #[.pointer none, .int .i64 e0]) ∧ W = w')
    (hne : (e0 != 0) = true) : Calls Try.prog 39 #[.pointer (some ⟨p, 0, none⟩), .int .i64 i, (.slice sa sn sc)] w fun e w' => e = .returned (.int .i64 e0) ∧ Below w.heap.size w w' := by
  have HA := Lib.hid ha
  clear ha
  go_enter Try.func39, Try.ntmps39
  go_wp2_with (go_at_call 61; refine (HA.out _ ?_).mono ?_; exact three_below _ _ _; rintro e w' ⟨rfl, rfl⟩)
  go_ret
  exact ⟨rfl, four_below _ _ _ _⟩

/-- what is known of Append's first calls -/
structure ApPre (w : World) (p b : Nat) (i : Int) (vb : Value) (room y : Int) : Prop where
  of : ∀ W, Below w.heap.size w W → Calls Try.prog 61 #[.pointer (some ⟨p, 0, none⟩), .int .i64 i, .bool false] W fun e w' => e = .returned (.tuple #[.pointer (some ⟨b, 0, none⟩), .int .i64 0]) ∧ W = w'
  cap : w.cell? ⟨p, 1, none⟩ = some (.int .i64 room) ∧ p < w.heap.size
  reach : ∀ W, ABoxes w W p b i vb room → Calls Try.prog 83 #[.pointer (some ⟨p, 0, none⟩), .int .i64 1, .func (.func 84) #[] #[.pointer (some ⟨w.heap.size + 1 + 1 + 1 + 1, 0, none⟩), .pointer (some ⟨w.heap.size, 0, none⟩), .pointer (some ⟨w.heap.size + 1, 0, none⟩), .pointer (some ⟨w.heap.size + 1 + 1, 0, none⟩)]] W fun e w' =>
    e = .returned (.tuple #[]) ∧ Blk w' (w.heap.size + 1 + 1 + 1 + 1) [.int .i64 y] ∧ Keeps W w' (fun k => k = w.heap.size + 1 + 1 + 1 + 1)

set_option maxRecDepth 100000 in
set_option maxHeartbeats 1000000 in
theorem append_e2 {w : World} {p b : Nat} {i room y : Int} {sa : Option Addr} {sn sc : Nat} (h : ApPre w p b i (.slice sa sn sc) room y) (hy : y < 0) :
    Calls Try.prog 39 #[.pointer (some ⟨p, 0, none⟩), .int .i64 i, (.slice sa sn sc)] w fun e w' => e = .returned (.int .i64 11) ∧ Below w.heap.size w w' := by
  obtain ⟨ha, ⟨c1, hp⟩, hr⟩ := h
  have HA := Lib.hid ha
  have HR := Lib.hid hr
  have qa := ap_cap sa sn sc b i c1 26 3 34 98
  clear ha hr
  go_enter Try.func39, Try.ntmps39
  go_wp2_with (first | (go_at_call 61; refine (HA.out _ ?_).mono ?_; exact three_below _ _ _; rintro e w' ⟨rfl, rfl⟩) | (go_at_call 83; refine (HR.out _ ?_).mono ?_; exact aboxes_made _ _ _ _ _ _ _ _ _ _ _; rintro e w' ⟨rfl, hb, hk⟩; have q4 := hb.cell 0; simp only [List.getElem?_cons_zero] at q4; have HK := Lib.hid hk; clear hb hk))
  go_ret
  exact ⟨rfl, (five_below _ _ _ _ _).trans ⟨HK.out.os, HK.out.tape, HK.out.output, HK.out.size, fun k hk => HK.out.block k (by simp; omega) (fun e => by omega)⟩⟩

theorem ap_keep {w W W' : World} {k : Nat} (h : Below w.heap.size w W) (hk : Keeps W W' (fun x => x = k)) (hle : w.heap.size ≤ k) : Below w.heap.size w W' :=
  h.trans ⟨hk.os, hk.tape, hk.output, hk.size, fun j hj => hk.block j (by have := h.size; omega) (fun e => by omega)⟩

set_option maxRecDepth 100000 in
set_option maxHeartbeats 1000000 in
theorem append_e3 {w : World} {p b : Nat} {i room y : Int} {sa : Option Addr} {sn sc : Nat} (h : ApPre w p b i (.slice sa sn sc) room y) (hy : 0 ≤ y) {R : World → World → Prop} (hx : MkNext w p true R) :
    Calls Try.prog 39 #[.pointer (some ⟨p, 0, none⟩), .int .i64 i, .slice sa sn sc] w fun e w' => e = .returned (.int .i64 11) ∧ ∃ W, Below w.heap.size w W ∧ R W w' ∧ Keeps W w' (fun k => k = p) := by
  obtain ⟨ha, ⟨c1, hp⟩, hr⟩ := h
  have HA := Lib.hid ha
  have HR := Lib.hid hr
  have HX := Lib.hid hx
  have qa := ap_cap sa sn sc b i c1 26 3 34 98
  clear ha hr hx
  go_enter Try.func39, Try.ntmps39
  go_wp2_with (first | (go_at_call 61; refine (HA.out _ ?_).mono ?_; exact three_below _ _ _; rintro e w' ⟨rfl, rfl⟩) |
    (go_at_call 83; have hB := aboxes_made w p b i room (.slice sa sn sc) 26 3 34 98 3; refine (HR.out _ hB).mono ?_; rintro e w' ⟨rfl, hb, hk⟩; have q4 := hb.cell 0; simp only [List.getElem?_cons_zero] at q4; have q0 : w'.cell? ⟨w.heap.size, 0, none⟩ = some (.pointer (some ⟨p, 0, none⟩)) := hk.cell (hB.b0.cell 0) (by omega); have HBL := Lib.hid (ap_keep hB.below hk (by omega)); have HK := Lib.hid hk; clear hb hk hB) |
    (go_at_call 85; refine (HX.out.next _ HBL.out).mono ?_; rintro e w2 ⟨rfl, hR⟩; have HRR := Lib.hid hR; clear hR))
  go_ret
  exact ⟨rfl, _, HBL.out, HRR.out⟩

/-- what is known when Append's op comes -/
structure AppAt (w W : World) (p b : Nat) (R : World → World → Prop) (v : Value) (l : List UInt8) : Prop where
  pre : ∃ W6 W7, Below w.heap.size w W6 ∧ R W6 W7 ∧ Keeps W6 W7 (fun k => k = p) ∧ Keeps W7 W (fun k => k = w.heap.size + 1 + 1) ∧ w.heap.size + 1 + 1 < W7.heap.size
  b2 : Blk W (w.heap.size + 1 + 1) [v]
  b3 : Blk W (w.heap.size + 1 + 1 + 1) [ptr b]
  row : Row W 5 1 v l.length (bcells l)
  own : ∀ k, v.ownBlock = some k → w.heap.size + 1 + 1 < k

set_option maxRecDepth 100000 in
set_option maxHeartbeats 1000000 in
theorem append_e4 {w : World} {p b : Nat} {i room y z : Int} {sa : Option Addr} {sn sc : Nat} {l : List UInt8} (h : ApPre w p b i (.slice sa sn sc) room y) (hy : 0 ≤ y) {R : World → World → Prop} (hx : MkNext w p false R) {F : World → Prop}
    (hcl : ∀ W W7, Below w.heap.size w W → Keeps W W7 (fun k => k = p) → Calls Try.prog 62 #[.slice sa sn sc] W7 fun e w' => ∃ v', e = .returned v' ∧ Row w' 5 1 v' l.length (bcells l) ∧ Below W7.heap.size W7 w' ∧ (∀ k, v'.ownBlock = some k → W7.heap.size ≤ k ∧ k < w'.heap.size))
    (ho : ∀ W v, AppAt w W p b R v l → Calls Try.prog 86 #[.pointer (some ⟨p, 0, none⟩), .bool true, .func (.func 87) #[] #[.pointer (some ⟨w.heap.size + 1 + 1, 0, none⟩), .pointer (some ⟨w.heap.size + 1 + 1 + 1, 0, none⟩)]] W fun e w' => e = .returned (.int .i64 z) ∧ F w') :
    Calls Try.prog 39 #[.pointer (some ⟨p, 0, none⟩), .int .i64 i, .slice sa sn sc] w fun e w' => e = .returned (.int .i64 z) ∧ F w' := by
  obtain ⟨ha, ⟨c1, hp⟩, hr⟩ := h
  have HA := Lib.hid ha
  have HR := Lib.hid hr
  have HX := Lib.hid hx
  have HC := Lib.hid hcl
  have HO := Lib.hid ho
  have qa := ap_cap sa sn sc b i c1 26 3 34 98
  clear ha hr hx hcl ho
  go_enter Try.func39, Try.ntmps39
  go_wp2_with (first | (go_at_call 61; refine (HA.out _ ?_).mono ?_; exact three_below _ _ _; rintro e w' ⟨rfl, rfl⟩) |
    (go_at_call 83; have hB := aboxes_made w p b i room (.slice sa sn sc) 26 3 34 98 3; refine (HR.out _ hB).mono ?_; rintro e w' ⟨rfl, hb, hk⟩; have q4 := hb.cell 0; simp only [List.getElem?_cons_zero] at q4; have q0 : w'.cell? ⟨w.heap.size, 0, none⟩ = some (.pointer (some ⟨p, 0, none⟩)) := hk.cell (hB.b0.cell 0) (by omega); have HB0 := Lib.hid (hk.blk hB.b0 (by omega)); have HB2 := Lib.hid (hk.blk hB.b2 (by omega)); have HB3 := Lib.hid (hk.blk hB.b3 (by omega)); have HBL := Lib.hid (ap_keep hB.below hk (by omega)); have HK := Lib.hid hk; clear hb hk hB) |
    (go_at_call 85; refine (HX.out.next _ HBL.out).mono ?_; rintro e w2 ⟨rfl, hR, hk⟩; have HB20 := Lib.hid (hk.blk HB0.out (by omega)); have HB22 := Lib.hid (hk.blk HB2.out (by omega)); have HB23 := Lib.hid (hk.blk HB3.out (by omega)); have p2 : w2.cell? ⟨w.heap.size + 1 + 1, 0, none⟩ = some (.slice sa sn sc) := HB22.out.cell 0; have HRR := Lib.hid hR; have HK2 := Lib.hid hk; clear hR hk) |
    (go_at_call 62; refine (HC.out _ _ HBL.out HK2.out).mono ?_; rintro e w3 ⟨v', rfl, hrow, hbl, hown⟩; obtain ⟨a3, n3, c3, rfl⟩ := hrow.isSlice; have r2 : w3.cell? ⟨w.heap.size + 1 + 1, 0, none⟩ = some (.slice sa sn sc) := (HB22.out.of_block (hbl.block _ HB22.out.lt)).cell 0; have f2 := (HB22.out.of_block (hbl.block _ HB22.out.lt)).frozen 0; have HB33 := Lib.hid (HB23.out.of_block (hbl.block _ HB23.out.lt)); have HB32 := Lib.hid (HB22.out.of_block (hbl.block _ HB22.out.lt)); have HB30 := Lib.hid (HB20.out.of_block (hbl.block _ HB20.out.lt)); have r0 : (w3.setCell ⟨w.heap.size + 1 + 1, 0, none⟩ (.slice a3 n3 c3)).cell? ⟨w.heap.size, 0, none⟩ = some (.pointer (some ⟨p, 0, none⟩)) := ((keeps_cell w3 (w.heap.size + 1 + 1) 0 (.slice a3 n3 c3)).blk HB30.out (by omega)).cell 0; have HROW := Lib.hid hrow; have HBL3 := Lib.hid hbl; have HOWN := Lib.hid hown; clear hrow hbl hown) |
    (go_at_call 86; refine (HO.out _ (.slice a3 n3 c3) ?_).mono ?_; rotate_left 1; rintro e w4 ⟨rfl, hF⟩; have HF := Lib.hid hF; clear hF))
  · go_ret
    exact ⟨rfl, HF.out⟩
  · have l2 := HB22.out.lt
    have l3 := HB23.out.lt
    refine ⟨⟨_, _, HBL.out, HRR.out, HK2.out, (Keeps.of_below HBL3.out _).trans (keeps_cell _ _ _ _) (fun _ _ q => q), l2⟩, HB32.out.set 0 _, (keeps_cell _ _ _ _).blk HB33.out (by omega), HROW.out.of_block (fun k hk => (keeps_cell w3 (w.heap.size + 1 + 1) 0 _).block k (HROW.out.lt k hk) (fun e => by have := (HOWN.out k hk).1; omega)), fun k hk => by have := (HOWN.out k hk).1; omega⟩

end Go.Proofs.Ytagjmphmdgklkaa

/- Append, as a contract on the whole disk. -/
namespace Go.Proofs.Ytagjmphmdgklkaa
open Go.RowKit

/-- bytes that may be read outside P -/
def Src (w : World) (v : Value) (l : List UInt8) (P : Nat → Prop) : Prop :=
  (v = .slice none 0 0 ∧ l = []) ∨ ∃ (a : Addr) (n c : Nat), v = .slice (some a) n c ∧ l.length = n ∧ (0 < n → a.block < w.heap.size) ∧ (0 < n → ¬ P a.block) ∧ ∀ j u, (bcells l)[j]? = some u → w.cell? (a.add j) = some u

theorem Src.keep {w w' : World} {v : Value} {l : List UInt8} {P Q : Nat → Prop} (h : Src w v l P) (hk : Keeps w w' Q) (hq : ∀ x, Q x → P x) : Src w' v l P := by
  rcases h with h | ⟨a, n, c, h1, h2, h3, h4, h5⟩
  · exact .inl h
  · refine .inr ⟨a, n, c, h1, h2, fun h0 => Nat.lt_of_lt_of_le (h3 h0) hk.size, h4, fun j u hu => ?_⟩
    have e : (a.add j).block = a.block := by unfold Addr.add; split <;> rfl
    have h0 : 0 < n := by
      have := (List.getElem?_eq_some_iff.1 hu).1
      simp [bcells] at this
      omega
    rw [World.cell?_of_block (w := w) (hk.block (a.add j).block (by rw [e]; exact h3 h0) (fun q => h4 h0 (hq _ (by rw [e] at q; exact q))))]
    exact h5 j u hu

theorem Src.clone {w : World} {v : Value} {l : List UInt8} {P : Nat → Prop} (h : Src w v l P) (hb : l.length ≤ 140737488355328) :
    Calls Try.prog 62 #[v] w fun e w' => ∃ v', e = .returned v' ∧ Row w' 5 1 v' l.length (bcells l) ∧ Below w.heap.size w w' ∧ (∀ k, v'.ownBlock = some k → w.heap.size ≤ k ∧ k < w'.heap.size) := by
  rcases h with ⟨rfl, rfl⟩ | ⟨a, n, c, rfl, h2, h3, h4, h5⟩
  · refine (bytes_clone_nil w).mono ?_
    rintro e w' ⟨rfl, rfl⟩
    exact ⟨_, rfl, Row.nil _ _ _, Below.refl _ _, by intro k hk; simp [Value.ownBlock] at hk⟩
  · exact bytes_clone2 h2 h5 hb

theorem Src.shape {w : World} {v : Value} {l : List UInt8} {P : Nat → Prop} (h : Src w v l P) : ∃ a c, v = .slice a l.length c := by
  rcases h with ⟨rfl, rfl⟩ | ⟨a, n, c, rfl, h2, h3, h4⟩
  · exact ⟨_, _, rfl⟩
  · subst h2; exact ⟨_, _, rfl⟩

def DS.total (S : DS) (i : Int) (lb : Nat) : Nat := rsum S i lb S.nodes.length 1
def DS.append (S : DS) (i : Int) (l : List UInt8) : DS × Int :=
  if ofErr S i false ≠ 0 then (S, ofErr S i false)
  else if S.capacity < S.total i l.length then (S, 11)
  else if fired S.fullIs S.fullAfter then (S.fulled, 11)
  else (if S.runs then S.fulled.after ((S.fulled.ticked true).appended (i - 1).toNat l) else { S.fulled.ticked true with down := true }, if S.fires then 12 else 0)

/-- the op of Append -/
theorem app_op {w : World} {p : Nat} {S : DS} {P : Nat → Prop} {vn : Value} {nb : Nat → Nat} {t : Nat → Nat} (h : DF w p S P vn nb t) (hsm : DSmall S) {k : Nat} (hk : k < S.nodes.length) (hdir : (S.nd k).dir = false) (hll : (S.nd k).loose.length ≤ 1000000)
    {bb bN : Nat} {vb : Value} {l : List UInt8} (hb : Blk w bb [vb]) (hr : Row w 5 1 vb l.length (bcells l)) (hN : Blk w bN [ptr (nb k)]) (hl : l.length + (S.nd k).seen.bytes.length ≤ 140737488355328) (n1 : ¬ P bb) (n2 : ∀ x, vb.ownBlock = some x → ¬ P x) (n3 : ¬ P bN) :
    Calls Try.prog 86 #[ptr p, .bool true, .func (.func 87) #[] #[ptr bb, ptr bN]] w fun e w' =>
      e = .returned (.int .i64 (if S.fires then 12 else 0)) ∧ Keeps w w' (fun y => P y ∨ y = bb ∨ vb.ownBlock = some y) ∧
        ∃ P2, DAt w' p (if S.runs then S.after ((S.ticked true).appended k l) else { S.ticked true with down := true }) P2 ∧ ∀ y, P2 y → grow P w w' y ∨ y = bb ∨ vb.ownBlock = some y := by
  have pp := h.pP
  refine (op_any h hsm true (g := 87) (enters_of Try.func87 (by kernel_rfl) rfl) (S2 := (S.ticked true).appended k l) (E := fun y => y = bb ∨ vb.ownBlock = some y)
    (X := fun W => True) (fun a b hk hx => trivial) (fun _ w1 hk1 hdf => ?_)).mono ?_
  · have kb : ∀ {b : Nat} {cs : List Value}, Blk w b cs → ¬ P b → Blk w1 b cs := fun hb hn => hk1.blk hb (fun e => hn (e ▸ pp))
    refine (app2_any hdf (k := k) hk hdir hll (kb hb n1) (hr.of_block fun x hx => hk1.block x (hr.lt x hx) (fun e => n2 x hx (e ▸ pp))) (kb hN n3) hl n1 n2).mono ?_
    rintro e w2 ⟨rfl, hkp, P2, vn2, nb2, t2, hd2, hg⟩
    exact ⟨rfl, trivial, hkp.mono (fun _ q => .inl q), P2, ⟨vn2, nb2, t2, hd2⟩, hg⟩
  · rintro e w' ⟨rfl, hkp, hrun, hskip⟩
    refine ⟨rfl, hkp, ?_⟩
    cases hr : S.runs with
    | true =>
      obtain ⟨_, P2, hd2, hg⟩ := hrun hr
      exact ⟨P2, by simpa using hd2, hg⟩
    | false => exact ⟨P, by simpa using hskip hr, fun y hy => .inl (.inl hy)⟩

structure Fine (S : DS) : Prop where
  small : DSmall S
  loose : ∀ k, k < S.nodes.length → (S.nd k).loose.length ≤ 1000000
  leads : Leads S
  root : (S.nd 0).dir = true
  one : 1 ≤ S.nodes.length
  cap0 : 0 ≤ S.capacity
  cap : S.capacity ≤ 9223372036854775807

theorem append_any {w : World} {p : Nat} {S : DS} {P : Nat → Prop} (hd : DAt w p S P) (hf : Fine S) (i : Int) {vb : Value} {l : List UInt8} (hsrc : Src w vb l P) (hby : ∀ k, k < S.nodes.length → (S.nd k).seen.bytes.length + l.length ≤ 140737488355328)
    (htot : S.total i l.length + l.length ≤ 4611686018427387904) :
    Calls Try.prog 39 #[ptr p, .int .i64 i, vb] w fun e w' => e = .returned (.int .i64 (S.append i l).2) ∧ Leaves w w' p (S.append i l).1 P := by
  obtain ⟨vn, nb, t, h⟩ := hd
  have plt := h.plt
  have hsm := hf.small
  have stay : ∀ w', Below w.heap.size w w' → Leaves w w' p S P := fun w' hb => ⟨Keeps.of_below hb P, P, ⟨vn, nb, t, h.below hb⟩, fun k hk => .inl hk⟩
  have hof : ∀ W, Below w.heap.size w W → _ := fun W hW => of_any (h.below hW) i false
  obtain ⟨sa, sc, rfl⟩ := hsrc.shape
  have hlb : l.length ≤ 140737488355328 := by have := hby 0 (by have := hf.one; omega); omega
  by_cases h0 : ofErr S i false = 0
  · obtain ⟨hdn, k, rfl, hk, hdir⟩ := ofErr_zero h0
    have e3 : ((k : Int) + 1 - 1).toNat = k := by omega
    have e2 : ofPtr S nb ((k : Int) + 1) false = ptr (nb k) := by unfold ofPtr; rw [if_pos h0, e3]
    rw [e2, h0] at hof
    have hPl : ∀ x, P x → x < w.heap.size := h.lt
    have hcap0 := hf.cap0
    have hcap := hf.cap
    have pre : ApPre w p (nb k) ((k : Int) + 1) (.slice sa l.length sc) S.capacity (S.capacity - (S.total ((k : Int) + 1) l.length : Nat)) := by
      refine ⟨fun W hW => hof W hW, ⟨h.blk.cell 1, plt⟩, fun W hB => ?_⟩
      have s1 := hB.below.size
      have l0 := hB.b0.lt
      have l1 := hB.b1.lt
      have l2 := hB.b2.lt
      refine reach_any hf.leads (fun j hj => by have := hby j hj; omega) hlb h.len (fun hp => by have := hPl _ hp; omega) S.nodes.length 1 W S.capacity (h.below hB.below) ⟨hB.b0.cell 0, hB.b1.cell 0, ⟨sa, sc, hB.b2.cell 0⟩, by omega, by omega, by omega, l0, l1, l2⟩ hB.b4 (Nat.le_refl 1) hf.one (by have := hf.one; omega) hf.root hcap ?_
      show -4611686018427387904 + (l.length : Int) ≤ S.capacity - (S.total ((k : Int) + 1) l.length : Nat)
      omega
    by_cases hroom : S.capacity < S.total ((k : Int) + 1) l.length
    · have er : S.append ((k : Int) + 1) l = (S, 11) := by unfold DS.append; rw [if_neg (by simpa using h0), if_pos hroom]
      rw [er]
      refine (append_e2 pre (by omega)).mono ?_
      rintro e w' ⟨rfl, hb⟩
      exact ⟨rfl, stay w' hb⟩
    · have nx : ∀ W, Below w.heap.size w W → Calls Try.prog 85 #[.pointer (some ⟨p, 8, none⟩)] W fun e w' => e = .returned (.bool (fired S.fullIs S.fullAfter)) ∧ DF w' p S.fulled P vn nb t ∧ Keeps W w' (fun k => k = p) := fun W hW => by
        refine (next_walk (o := 8) (h.below hW).blk rfl rfl hsm.fu).mono ?_
        rintro e w' ⟨rfl, hk, hb⟩
        exact ⟨rfl, (h.below hW).reset hk hb rfl, hk⟩
      cases hfi : fired S.fullIs S.fullAfter with
      | true =>
        have er : S.append ((k : Int) + 1) l = (S.fulled, 11) := by unfold DS.append; rw [if_neg (by simpa using h0), if_neg hroom, if_pos hfi]
        rw [er]
        refine (append_e3 (R := fun _ w' => DF w' p S.fulled P vn nb t) pre (by omega) ⟨fun W hW => by rw [← hfi]; exact nx W hW⟩).mono ?_
        rintro e w' ⟨rfl, W, hW, hdf, hk⟩
        exact ⟨rfl, (Keeps.of_below hW P).trans hk (fun x _ q => by rw [q]; exact h.pP), P, ⟨vn, nb, t, hdf⟩, fun k hk => .inl hk⟩
      | false =>
        have er : S.append ((k : Int) + 1) l = (if S.runs then S.fulled.after ((S.fulled.ticked true).appended k l) else { S.fulled.ticked true with down := true }, if S.fires then 12 else 0) := by
          unfold DS.append; rw [if_neg (by simpa using h0), if_neg hroom, if_neg (by simp [hfi]), e3]
        rw [er]
        have hsm' : DSmall S.fulled := ⟨hsm.ops0, hsm.ops, hsm.ch0, hsm.ch, hsm.fa, by
          have := hsm.fu
          show tAfter S.fullIs S.fullAfter ≤ _
          unfold tAfter
          split <;> omega⟩
        refine (append_e4 (l := l) (R := fun _ w' => DF w' p S.fulled P vn nb t) (z := if S.fires then 12 else 0)
          (F := fun w' => Leaves w w' p (if S.runs then S.fulled.after ((S.fulled.ticked true).appended k l) else { S.fulled.ticked true with down := true }) P)
          pre (by omega) ⟨fun W hW => by rw [← hfi]; exact nx W hW⟩ (fun W W7 hB hK => ?_) (fun W v hA => ?_)).mono ?_
        · have hs7 := (hsrc.keep (Keeps.of_below hB (fun _ => False)) (fun _ q => q.elim)).keep hK (fun x e => e ▸ h.pP)
          exact hs7.clone hlb
        · obtain ⟨⟨W6, W7, hb6, hdf7, hk67, hk7, hlt⟩, hb2, hb3, hrow, hown⟩ := hA
          have s6 := hb6.size
          have s67 := hk67.size
          have s7 := hk7.size
          have hdf : DF W p S.fulled P vn nb t := hdf7.keep hk7 (fun x e hp => by have := hPl x hp; omega)
          refine (app_op hdf hsm' (k := k) hk hdir (hf.loose k hk) hb2 hrow hb3 (by have := hby k hk; show l.length + (S.nd k).seen.bytes.length ≤ _; omega) (fun hp => by have := hPl _ hp; omega) (fun x hx hp => by have := hPl _ hp; have := hown x hx; omega) (fun hp => by have := hPl _ hp; omega)).mono ?_
          rintro e w' ⟨rfl, hkp, P2, hd2, hg⟩
          have s3 := hkp.size
          refine ⟨rfl, ?_, P2, hd2, fun y hy => ?_⟩
          · refine (((Keeps.of_below hb6 P).trans hk67 (fun x _ q => by rw [q]; exact h.pP)).trans hk7 (fun x hx q => by omega)).trans hkp (fun x hx q => ?_)
            rcases q with q | q | q
            · exact q
            · omega
            · have := hown x q; omega
          · rcases hg y hy with (h5 | h5) | h5 | h5
            · exact .inl h5
            · exact .inr ⟨by have := h5.1; omega, h5.2⟩
            · exact .inr ⟨by omega, by have := hb2.lt; omega⟩
            · exact .inr ⟨by have := hown y h5; omega, by have := hrow.lt y h5; omega⟩
        · rintro e w' ⟨rfl, hF⟩
          exact ⟨rfl, hF⟩
  · have e2 : ofPtr S nb i false = .pointer none := by unfold ofPtr; rw [if_neg h0]
    have er : S.append i l = (S, ofErr S i false) := by unfold DS.append; rw [if_pos h0]
    rw [er]
    rw [e2] at hof
    refine (append_e1 (fun W hW => hof W hW) (by simpa using h0)).mono ?_
    rintro e w' ⟨rfl, hb⟩
    exact ⟨rfl, stay w' hb⟩

end Go.Proofs.Ytagjmphmdgklkaa

/- Walks: Cut. -/
namespace Go.Proofs.Ytagjmphmdgklkaa
open Go.RowKit

set_option maxRecDepth 100000 in
set_option maxHeartbeats 1000000 in
theorem cut1_core {w : World} {bs bN b : Nat} (hN : w.cell? ⟨bN, 0, none⟩ = some (.pointer (some ⟨b, 0, none⟩))) {R : World → Prop}
    (ha : Calls Try.prog 88 #[.pointer (some ⟨b, 0, none⟩), .agg #[.int .i64 1, .func (.func 100) #[] #[.pointer (some ⟨bs, 0, none⟩)]]] w fun e w' => e = .returned (.tuple #[]) ∧ R w') :
    Calls Try.prog 99 #[.pointer (some ⟨bN, 0, none⟩), .pointer (some ⟨bs, 0, none⟩)] w fun e w' => e = .returned (.tuple #[]) ∧ R w' := by
  have HA := Lib.hid ha
  clear ha
  go_enter Try.func99, Try.ntmps99
  go_wp2_with (go_at_call 88; refine HA.out.mono ?_; rintro e w' ⟨rfl, hR⟩; have HR := Lib.hid hR; clear hR)
  go_end0
  exact ⟨rfl, HR.out⟩

def DS.cut (S : DS) (i n : Int) : DS × Int :=
  if ofErr S i false ≠ 0 then (S, ofErr S i false)
  else if n < 0 ∨ ((S.nd (i - 1).toNat).seen.bytes.length : Int) < n then (S, 13)
  else S.opped true (fun T => T.step (i - 1).toNat (.cut n.toNat))

set_option maxRecDepth 100000 in
set_option maxHeartbeats 1000000 in
theorem cut_e1 {w : World} {p : Nat} {i n e0 : Int} (ha : ∀ W, Below w.heap.size w W → Calls Try.prog 61 #[.pointer (some ⟨p, 0, none⟩), .int .i64 i, .bool false] W fun e w' => e = .returned (.tuple #[.pointer none, .int .i64 e0]) ∧ W = w')
    (hne : (e0 != 0) = true) : Calls Try.prog 49 #[.pointer (some ⟨p, 0, none⟩), .int .i64 i, .int .i64 n] w fun e w' => e = .returned (.int .i64 e0) ∧ Below w.heap.size w w' := by
  have HA := Lib.hid ha
  clear ha
  go_enter Try.func49, Try.ntmps49
  go_wp2_with (go_at_call 61; refine (HA.out _ ?_).mono ?_; exact ((Below.refl _ _).alloc (Nat.le_refl _) _); rintro e w' ⟨rfl, rfl⟩)
  go_ret
  exact ⟨rfl, ((Below.refl _ _).alloc (Nat.le_refl _) _).alloc (by simp) _⟩

structure CBoxes (w W : World) (b : Nat) (n : Int) : Prop where
  below : Below w.heap.size w W
  b0 : Blk W w.heap.size [.int .i64 n]
  b1 : Blk W (w.heap.size + 1) [ptr b]

theorem cboxes_made (w : World) (b : Nat) (n : Int) (T0 T1 : TypeId) : CBoxes w ((w.alloc (.cells #[.int .i64 n] T0)).alloc (.cells #[.pointer (some ⟨b, 0, none⟩)] T1)) b n := by
  refine ⟨((Below.refl _ _).alloc (Nat.le_refl _) _).alloc (by simp) _, (Blk.made w _ T0).of_block (Below.heap_alloc _ _ _ (by simp)), ?_⟩
  have := Blk.made (w.alloc (.cells #[.int .i64 n] T0)) #[.pointer (some ⟨b, 0, none⟩)] T1
  simp only [World.size_alloc] at this
  exact this

structure CutPre (w : World) (p b : Nat) (i : Int) (len : Nat) : Prop where
  of : ∀ W, Below w.heap.size w W → Calls Try.prog 61 #[.pointer (some ⟨p, 0, none⟩), .int .i64 i, .bool false] W fun e w' => e = .returned (.tuple #[.pointer (some ⟨b, 0, none⟩), .int .i64 0]) ∧ W = w'
  c3 : ∃ a c, w.cell? ⟨b, 3, none⟩ = some (.slice a len c)
  lt : b < w.heap.size

set_option maxRecDepth 100000 in
set_option maxHeartbeats 1000000 in
theorem cut_e2 {w : World} {p b len : Nat} {i n : Int} (h : CutPre w p b i len) (hbad : n < 0 ∨ (len : Int) < n) :
    Calls Try.prog 49 #[.pointer (some ⟨p, 0, none⟩), .int .i64 i, .int .i64 n] w fun e w' => e = .returned (.int .i64 13) ∧ Below w.heap.size w w' := by
  obtain ⟨ha, ⟨a, c, c3⟩, hlt⟩ := h
  have HA := Lib.hid ha
  clear ha
  have hB := cboxes_made w b n 3 98
  rcases hbad with h1 | h1
  · have g1 : decide (n < 0) = true := by simpa using h1
    go_enter Try.func49, Try.ntmps49
    go_wp2_with (go_at_call 61; refine (HA.out _ ?_).mono ?_; exact ((Below.refl _ _).alloc (Nat.le_refl _) _); rintro e w' ⟨rfl, rfl⟩)
    generalize ((w.alloc (.cells #[.int .i64 n] 3)).alloc (.cells #[.pointer (some ⟨b, 0, none⟩)] 98)) = W at *
    have q3 := (hB.below.cell (p := ⟨b, 3, none⟩) hlt).trans c3
    have q0 : W.cell? ⟨w.heap.size, 0, none⟩ = some (.int .i64 n) := hB.b0.cell 0
    have q1 : W.cell? ⟨w.heap.size + 1, 0, none⟩ = some (.pointer (some ⟨b, 0, none⟩)) := hB.b1.cell 0
    have HB := Lib.hid hB.below
    clear hB c3
    go_region
    all_goals
      go_wp2
      go_ret
      exact ⟨rfl, HB.out.drew⟩
  · have g1 : decide (n < 0) = false := by simp; omega
    have g2 : decide ((len : Int) < n) = true := by simpa using h1
    go_enter Try.func49, Try.ntmps49
    go_wp2_with (go_at_call 61; refine (HA.out _ ?_).mono ?_; exact ((Below.refl _ _).alloc (Nat.le_refl _) _); rintro e w' ⟨rfl, rfl⟩)
    generalize ((w.alloc (.cells #[.int .i64 n] 3)).alloc (.cells #[.pointer (some ⟨b, 0, none⟩)] 98)) = W at *
    have q3 := (hB.below.cell (p := ⟨b, 3, none⟩) hlt).trans c3
    have q0 : W.cell? ⟨w.heap.size, 0, none⟩ = some (.int .i64 n) := hB.b0.cell 0
    have q1 : W.cell? ⟨w.heap.size + 1, 0, none⟩ = some (.pointer (some ⟨b, 0, none⟩)) := hB.b1.cell 0
    have HB := Lib.hid hB.below
    clear hB c3
    go_region
    all_goals
      go_wp2
      go_ret
      exact ⟨rfl, HB.out.drew⟩

set_option maxRecDepth 100000 in
set_option maxHeartbeats 1000000 in
theorem cut_e3 {w : World} {p b len : Nat} {i n z : Int} (h : CutPre w p b i len) (h0 : 0 ≤ n) (h1 : n ≤ len) {F : World → Prop}
    (ho : ∀ W, CBoxes w W b n → Calls Try.prog 86 #[.pointer (some ⟨p, 0, none⟩), .bool true, .func (.func 99) #[] #[.pointer (some ⟨w.heap.size + 1, 0, none⟩), .pointer (some ⟨w.heap.size, 0, none⟩)]] W fun e w' => e = .returned (.int .i64 z) ∧ F w') :
    Calls Try.prog 49 #[.pointer (some ⟨p, 0, none⟩), .int .i64 i, .int .i64 n] w fun e w' => e = .returned (.int .i64 z) ∧ F w' := by
  obtain ⟨ha, ⟨a, c, c3⟩, hlt⟩ := h
  have HA := Lib.hid ha
  have HO := Lib.hid ho
  clear ha ho
  have hB := cboxes_made w b n 3 98
  have g1 : decide (n < 0) = false := by simp; omega
  have g2 : decide ((len : Int) < n) = false := by simp; omega
  go_enter Try.func49, Try.ntmps49
  go_wp2_with (go_at_call 61; refine (HA.out _ ?_).mono ?_; exact ((Below.refl _ _).alloc (Nat.le_refl _) _); rintro e w' ⟨rfl, rfl⟩)
  generalize ((w.alloc (.cells #[.int .i64 n] 3)).alloc (.cells #[.pointer (some ⟨b, 0, none⟩)] 98)) = W at *
  have q3 := (hB.below.cell (p := ⟨b, 3, none⟩) hlt).trans c3
  have q0 : W.cell? ⟨w.heap.size, 0, none⟩ = some (.int .i64 n) := hB.b0.cell 0
  have q1 : W.cell? ⟨w.heap.size + 1, 0, none⟩ = some (.pointer (some ⟨b, 0, none⟩)) := hB.b1.cell 0
  have HB := Lib.hid (⟨hB.below.drew, hB.b0, hB.b1⟩ : CBoxes w W.drew b n)
  clear hB c3
  go_region
  all_goals
    go_wp2_with (go_at_call 86; refine (HO.out _ HB.out).mono ?_; rintro e w' ⟨rfl, hF⟩; have HF := Lib.hid hF; clear hF)
    go_ret
    exact ⟨rfl, HF.out⟩

/-- from an op behind fresh boxes to the whole -/
theorem leaves_of {w W w' : World} {p : Nat} {S2 : DS} {P E : Nat → Prop} (hb : Below w.heap.size w W) (hP : ∀ k, P k → k < w.heap.size) (hE : ∀ k, E k → w.heap.size ≤ k ∧ k < W.heap.size) (hk : Keeps W w' (fun k => P k ∨ E k)) (hd : ∃ P2, DAt w' p S2 P2 ∧ ∀ k, P2 k → grow P W w' k ∨ E k) : Leaves w w' p S2 P := by
  obtain ⟨P2, hd2, hg⟩ := hd
  have s1 := hb.size
  have s2 := hk.size
  refine ⟨(Keeps.of_below hb P).trans hk (fun x hx q => ?_), P2, hd2, fun y hy => ?_⟩
  · rcases q with q | q
    · exact q
    · have := (hE x q).1; omega
  · rcases hg y hy with (h5 | h5) | h5
    · exact .inl h5
    · exact .inr ⟨by have := h5.1; omega, h5.2⟩
    · exact .inr ⟨(hE y h5).1, by have := (hE y h5).2; omega⟩

theorem cut_any {w : World} {p : Nat} {S : DS} {P : Nat → Prop} (hd : DAt w p S P) (hsm : DSmall S) (hll : ∀ k, k < S.nodes.length → (S.nd k).loose.length ≤ 1000000) (i n : Int) :
    Calls Try.prog 49 #[ptr p, .int .i64 i, .int .i64 n] w fun e w' => e = .returned (.int .i64 (S.cut i n).2) ∧ Leaves w w' p (S.cut i n).1 P := by
  obtain ⟨vn, nb, t, h⟩ := hd
  have stay : ∀ w', Below w.heap.size w w' → Leaves w w' p S P := fun w' hb => ⟨Keeps.of_below hb P, P, ⟨vn, nb, t, h.below hb⟩, fun k hk => .inl hk⟩
  have hof : ∀ W, Below w.heap.size w W → _ := fun W hW => of_any (h.below hW) i false
  by_cases h0 : ofErr S i false = 0
  · obtain ⟨hdn, k, rfl, hk, hdir⟩ := ofErr_zero h0
    have e3 : ((k : Int) + 1 - 1).toNat = k := by omega
    have e2 : ofPtr S nb ((k : Int) + 1) false = ptr (nb k) := by unfold ofPtr; rw [if_pos h0, e3]
    rw [e2, h0] at hof
    have hn := h.nodes k hk
    rw [← S.nd_at hk] at hn
    obtain ⟨vb, c3, hrb, _⟩ := hn.fileBytes
    obtain ⟨a, c, rfl⟩ : ∃ a c, vb = .slice a (S.nd k).seen.bytes.length c := by
      rcases hrb.shape with ⟨rfl, e⟩ | ⟨g, cap, rfl, _⟩
      · rw [e]; exact ⟨_, _, rfl⟩
      · exact ⟨_, _, rfl⟩
    have pre : CutPre w p (nb k) ((k : Int) + 1) (S.nd k).seen.bytes.length := ⟨fun W hW => hof W hW, ⟨a, c, c3⟩, hn.lt⟩
    by_cases hbad : n < 0 ∨ ((S.nd k).seen.bytes.length : Int) < n
    · have er : S.cut ((k : Int) + 1) n = (S, 13) := by unfold DS.cut; rw [if_neg (by simpa using h0), e3, if_pos hbad]
      rw [er]
      refine (cut_e2 pre hbad).mono ?_
      rintro e w' ⟨rfl, hb⟩
      exact ⟨rfl, stay w' hb⟩
    · have er : S.cut ((k : Int) + 1) n = S.opped true (fun T => T.step k (.cut n.toNat)) := by unfold DS.cut; rw [if_neg (by simpa using h0), e3, if_neg hbad]
      rw [er]
      obtain ⟨m, rfl⟩ : ∃ m : Nat, n = (m : Int) := ⟨n.toNat, by omega⟩
      have hm : m ≤ (S.nd k).seen.bytes.length := by omega
      rw [Int.toNat_natCast]
      refine cut_e3 pre (by omega) (by omega) (fun W hB => ?_)
      have hPl : ∀ x, P x → x < w.heap.size := h.lt
      have l0 := hB.b0.lt
      have l1 := hB.b1.lt
      refine (op_work (h.below hB.below) hsm true (g := 99) (first := #[]) (enters_of Try.func99 (by kernel_rfl) rfl) (fun T => T.step k (.cut m)) (E := fun y => y = w.heap.size) (fun w1 hk1 hdf => ?_)).mono ?_
      · have b0 := hk1.blk hB.b0 (fun e => by have := hPl p h.pP; omega)
        have b1 := hk1.blk hB.b1 (fun e => by have := hPl p h.pP; omega)
        have hs : StepVal w1 (.func (.func 100) #[] #[ptr w.heap.size]) (.cut m) (fun x => x = w.heap.size) := ⟨_, rfl, b0, rfl⟩
        have hadd := disk_add hdf (k := k) hk hs (by show (!(S.nd k).dir) = true; rw [hdir]; rfl) hm (fun x hx hp => by have := hPl x hp; omega) (fun x hx => by rw [hx]; exact b0.lt) (hll k hk) (by simp [St.parts])
        refine (cut1_core (b1.cell 0) hadd).mono ?_
        rintro e w2 ⟨rfl, ⟨t', hd2⟩, hk2⟩
        exact ⟨rfl, hk2, _, ⟨_, _, _, hd2⟩, fun x hx => hx⟩
      · rintro e w' ⟨rfl, hkp, hd2⟩
        exact ⟨rfl, leaves_of hB.below hPl (fun k hk => by subst hk; exact ⟨Nat.le_refl _, l0⟩) hkp hd2⟩
  · have e2 : ofPtr S nb i false = .pointer none := by unfold ofPtr; rw [if_neg h0]
    have er : S.cut i n = (S, ofErr S i false) := by unfold DS.cut; rw [if_pos h0]
    rw [er]
    rw [e2] at hof
    refine (cut_e1 (fun W hW => hof W hW) (by simpa using h0)).mono ?_
    rintro e w' ⟨rfl, hb⟩
    exact ⟨rfl, stay w' hb⟩

end Go.Proofs.Ytagjmphmdgklkaa

/- Walks: Unlink. -/
namespace Go.Proofs.Ytagjmphmdgklkaa
open Go.RowKit

set_option maxRecDepth 100000 in
set_option maxHeartbeats 1000000 in
theorem unl1_core {w : World} {bd bi bs p b g cap n k : Nat} (hd : w.cell? ⟨bd, 0, none⟩ = some (.pointer (some ⟨p, 0, none⟩))) (hi : w.cell? ⟨bi, 0, none⟩ = some (.int .i64 ((k : Int) + 1))) (c0 : w.cell? ⟨p, 0, none⟩ = some (.slice (some ⟨g, 0, none⟩) n cap))
    (hn : n ≤ 4096) (hk : k < n) (ck : w.cell? ⟨g, k, none⟩ = some (.pointer (some ⟨b, 0, none⟩))) {R : World → Prop}
    (ha : Calls Try.prog 88 #[.pointer (some ⟨b, 0, none⟩), .agg #[.int .i64 1, .func (.func 102) #[] #[.pointer (some ⟨bs, 0, none⟩)]]] w.drew fun e w' => e = .returned (.tuple #[]) ∧ R w') :
    Calls Try.prog 101 #[.pointer (some ⟨bd, 0, none⟩), .pointer (some ⟨bi, 0, none⟩), .pointer (some ⟨bs, 0, none⟩)] w fun e w' => e = .returned (.tuple #[]) ∧ R w' := by
  have HA := Lib.hid ha
  have w0 : IntKind.i64.wrap (k : Int) = (k : Int) := IntWalk.i64_in _ (by omega)
  clear ha
  go_enter Try.func101, Try.ntmps101
  go_wp2
  go_region_with (go_at_call 88; refine HA.out.mono ?_; rintro e w' ⟨rfl, hR⟩; have HR := Lib.hid hR; clear hR)
  all_goals
    go_end0
    exact ⟨rfl, HR.out⟩

def DS.unlink (S : DS) (i : Int) (s : ByteArray) : DS × Int :=
  if findErr S i s ≠ 0 then (S, findErr S i s)
  else if (S.nd (findVal S i s - 1)).dir then (S, 10)
  else S.opped true (fun T => T.step (i - 1).toNat (.unl s))

structure UBoxes (w W : World) (p : Nat) (i : Int) (s : ByteArray) : Prop where
  below : Below w.heap.size w W
  b0 : Blk W w.heap.size [ptr p]
  b1 : Blk W (w.heap.size + 1) [.int .i64 i]
  b2 : Blk W (w.heap.size + 1 + 1) [.string s]

theorem uboxes_made (w : World) (p : Nat) (i : Int) (s : ByteArray) (T0 T1 T2 : TypeId) : UBoxes w (((w.alloc (.cells #[.pointer (some ⟨p, 0, none⟩)] T0)).alloc (.cells #[.int .i64 i] T1)).alloc (.cells #[.string s] T2)) p i s := by
  have al : ∀ {W : World} {k : Nat} {cs : List Value} (o : Obj), Blk W k cs → Blk (W.alloc o) k cs := fun o h => h.of_block (Below.heap_alloc _ _ _ h.lt)
  refine ⟨three_below _ _ _, al _ (al _ (Blk.made w _ T0)), ?_, ?_⟩
  · have := Blk.made (w.alloc (.cells #[.pointer (some ⟨p, 0, none⟩)] T0)) #[.int .i64 i] T1
    simp only [World.size_alloc] at this
    exact al _ this
  · have := Blk.made ((w.alloc (.cells #[.pointer (some ⟨p, 0, none⟩)] T0)).alloc (.cells #[.int .i64 i] T1)) #[.string s] T2
    simp only [World.size_alloc] at this
    exact this

set_option maxRecDepth 100000 in
set_option maxHeartbeats 1000000 in
theorem unlink_e1 {w : World} {p : Nat} {i e0 j : Int} {s : ByteArray} (ha : ∀ W, Below w.heap.size w W → Calls Try.prog 18 #[.pointer (some ⟨p, 0, none⟩), .int .i64 i, .string s] W fun e w' => e = .returned (.tuple #[.int .i64 j, .int .i64 e0]) ∧ Below W.heap.size W w')
    (hne : (e0 != 0) = true) : Calls Try.prog 52 #[.pointer (some ⟨p, 0, none⟩), .int .i64 i, .string s] w fun e w' => e = .returned (.int .i64 e0) ∧ Below w.heap.size w w' := by
  have HA := Lib.hid ha
  clear ha
  have HB := Lib.hid (uboxes_made w p i s 26 3 9)
  go_enter Try.func52, Try.ntmps52
  go_wp2_with (go_at_call 18; refine (HA.out _ HB.out.below).mono ?_; rintro e w' ⟨rfl, hb⟩; have HBB := Lib.hid hb; clear hb)
  go_ret
  exact ⟨rfl, HB.out.below.trans (HBB.out.mono HB.out.below.size)⟩

end Go.Proofs.Ytagjmphmdgklkaa

/- Unlink, as a contract on the whole disk. -/
namespace Go.Proofs.Ytagjmphmdgklkaa
open Go.RowKit

structure UPre (w : World) (p : Nat) (i : Int) (s : ByteArray) (j : Nat) (isDir : Bool) : Prop where
  find : ∀ W, Below w.heap.size w W → Calls Try.prog 18 #[.pointer (some ⟨p, 0, none⟩), .int .i64 i, .string s] W fun e w' => e = .returned (.tuple #[.int .i64 ((j : Int) + 1), .int .i64 0]) ∧ W = w'
  cells : ∃ g n cap b, w.cell? ⟨p, 0, none⟩ = some (.slice (some ⟨g, 0, none⟩) n cap) ∧ p < w.heap.size ∧ n ≤ 4096 ∧ j < n ∧ w.cell? ⟨g, j, none⟩ = some (.pointer (some ⟨b, 0, none⟩)) ∧ g < w.heap.size ∧ w.cell? ⟨b, 0, none⟩ = some (.bool isDir) ∧ b < w.heap.size

set_option maxRecDepth 100000 in
set_option maxHeartbeats 1000000 in
theorem unlink_e2 {w : World} {p j : Nat} {i : Int} {s : ByteArray} (h : UPre w p i s j true) :
    Calls Try.prog 52 #[.pointer (some ⟨p, 0, none⟩), .int .i64 i, .string s] w fun e w' => e = .returned (.int .i64 10) ∧ Below w.heap.size w w' := by
  obtain ⟨ha, g, n, cap, b, c0, hp, hn, hj, cg, hg, cb, hb⟩ := h
  have HA := Lib.hid ha
  have w0 : IntKind.i64.wrap (j : Int) = (j : Int) := IntWalk.i64_in _ (by omega)
  clear ha
  have hB := uboxes_made w p i s 26 3 9
  have q0 := (hB.below.cell (p := ⟨p, 0, none⟩) hp).trans c0
  have q1 := (hB.below.cell (p := ⟨g, j, none⟩) hg).trans cg
  have q2 := (hB.below.cell (p := ⟨b, 0, none⟩) hb).trans cb
  have HB := Lib.hid hB
  clear hB
  go_enter Try.func52, Try.ntmps52
  go_wp2_with (go_at_call 18; refine (HA.out _ HB.out.below).mono ?_; rintro e w' ⟨rfl, rfl⟩)
  go_ret
  exact ⟨rfl, HB.out.below⟩

set_option maxRecDepth 100000 in
set_option maxHeartbeats 1000000 in
theorem unlink_e3 {w : World} {p j : Nat} {i z : Int} {s : ByteArray} (h : UPre w p i s j false) {F : World → Prop}
    (ho : ∀ W, UBoxes w W p i s → Calls Try.prog 86 #[.pointer (some ⟨p, 0, none⟩), .bool true, .func (.func 101) #[] #[.pointer (some ⟨w.heap.size, 0, none⟩), .pointer (some ⟨w.heap.size + 1, 0, none⟩), .pointer (some ⟨w.heap.size + 1 + 1, 0, none⟩)]] W fun e w' => e = .returned (.int .i64 z) ∧ F w') :
    Calls Try.prog 52 #[.pointer (some ⟨p, 0, none⟩), .int .i64 i, .string s] w fun e w' => e = .returned (.int .i64 z) ∧ F w' := by
  obtain ⟨ha, g, n, cap, b, c0, hp, hn, hj, cg, hg, cb, hb⟩ := h
  have HA := Lib.hid ha
  have HO := Lib.hid ho
  have w0 : IntKind.i64.wrap (j : Int) = (j : Int) := IntWalk.i64_in _ (by omega)
  clear ha ho
  have hB := uboxes_made w p i s 26 3 9
  have q0 := (hB.below.cell (p := ⟨p, 0, none⟩) hp).trans c0
  have q1 := (hB.below.cell (p := ⟨g, j, none⟩) hg).trans cg
  have q2 := (hB.below.cell (p := ⟨b, 0, none⟩) hb).trans cb
  have HB := Lib.hid hB
  clear hB
  go_enter Try.func52, Try.ntmps52
  go_wp2_with (first | (go_at_call 18; refine (HA.out _ HB.out.below).mono ?_; rintro e w' ⟨rfl, rfl⟩) | (go_at_call 86; refine (HO.out _ HB.out).mono ?_; rintro e w' ⟨rfl, hF⟩; have HF := Lib.hid hF; clear hF))
  go_ret
  exact ⟨rfl, HF.out⟩

theorem findErr_zero {S : DS} {i : Int} {s : ByteArray} (h : findErr S i s = 0) : ofErr S i true = 0 ∧ ∃ n, (s, n) ∈ (S.nd (i - 1).toNat).seen.ents ∧ findVal S i s = n := by
  unfold findErr at h
  split at h
  · rename_i h0
    refine ⟨h0, ?_⟩
    split at h
    · rename_i h1
      rw [ehas_eget] at h1
      cases hx : eget (S.nd (i - 1).toNat).seen.ents s with
      | none => rw [hx] at h1; simp at h1
      | some n =>
        refine ⟨n, ?_, by unfold findVal; rw [if_pos h0, hx]; rfl⟩
        unfold eget at hx
        rw [Option.map_eq_some_iff] at hx
        obtain ⟨e, he, rfl⟩ := hx
        have h2 := List.mem_of_find?_eq_some he
        have h3 := List.find?_some he
        have h4 : e.1 = s := by simpa using h3
        rw [← h4]
        exact h2
    · omega
  · rename_i h0
    exact absurd h h0

theorem unlink_any {w : World} {p : Nat} {S : DS} {P : Nat → Prop} (hd : DAt w p S P) (hsm : DSmall S) (hll : ∀ k, k < S.nodes.length → (S.nd k).loose.length ≤ 1000000) (hL : Leads S) (i : Int) (s : ByteArray) :
    Calls Try.prog 52 #[ptr p, .int .i64 i, .string s] w fun e w' => e = .returned (.int .i64 (S.unlink i s).2) ∧ Leaves w w' p (S.unlink i s).1 P := by
  obtain ⟨vn, nb, t, h⟩ := hd
  have stay : ∀ w', Below w.heap.size w w' → Leaves w w' p S P := fun w' hb => ⟨Keeps.of_below hb P, P, ⟨vn, nb, t, h.below hb⟩, fun k hk => .inl hk⟩
  have hfd : ∀ W, Below w.heap.size w W → _ := fun W hW => find_any (h.below hW) i s
  by_cases h0 : findErr S i s = 0
  · obtain ⟨h1, n, hmem, hv⟩ := findErr_zero h0
    obtain ⟨hdn, k, rfl, hk, hdir⟩ := ofErr_zero h1
    have e3 : ((k : Int) + 1 - 1).toNat = k := by omega
    rw [e3] at hmem
    obtain ⟨hn1, hn2⟩ := hL k hk _ hmem
    obtain ⟨j, rfl⟩ : ∃ j, n = j + 1 := ⟨n - 1, by omega⟩
    have hj : j < S.nodes.length := by simp at hn2; omega
    have hcast : ((j + 1 : Nat) : Int) = (j : Int) + 1 := by omega
    rw [hv, h0, hcast] at hfd
    obtain ⟨g, cap, rfl, hPg, hcells⟩ := h.pRow hk
    have hnj := h.nodes j hj
    rw [← S.nd_at hj] at hnj
    have plt := h.plt
    have hPl : ∀ x, P x → x < w.heap.size := h.lt
    have pre : ∀ b, (S.nd j).dir = b → UPre w p ((k : Int) + 1) s j b := fun b hb => ⟨fun W hW => hfd W hW, g, S.nodes.length, cap, nb j, h.blk.cell 0, plt, h.len, hj, hcells j hj, hPl _ hPg, by rw [← hb]; exact hnj.dirCell, hnj.lt⟩
    have ev : findVal S ((k : Int) + 1) s - 1 = j := by rw [hv]; omega
    cases hdj : (S.nd j).dir with
    | true =>
      have er : S.unlink ((k : Int) + 1) s = (S, 10) := by unfold DS.unlink; rw [if_neg (by simpa using h0), ev, if_pos hdj]
      rw [er]
      refine (unlink_e2 (pre _ hdj)).mono ?_
      rintro e w' ⟨rfl, hb⟩
      exact ⟨rfl, stay w' hb⟩
    | false =>
      have er : S.unlink ((k : Int) + 1) s = S.opped true (fun T => T.step k (.unl s)) := by unfold DS.unlink; rw [if_neg (by simpa using h0), ev, if_neg (by simp [hdj]), e3]
      rw [er]
      refine unlink_e3 (pre _ hdj) (fun W hB => ?_)
      have l0 := hB.b0.lt
      have l1 := hB.b1.lt
      have l2 := hB.b2.lt
      refine (op_work (h.below hB.below) hsm true (g := 101) (first := #[]) (enters_of Try.func101 (by kernel_rfl) rfl) (fun T => T.step k (.unl s)) (E := fun y => y = w.heap.size + 1 + 1) (fun w1 hk1 hdf => ?_)).mono ?_
      · have b0 := hk1.blk hB.b0 (fun e => by have := hPl p h.pP; omega)
        have b1 := hk1.blk hB.b1 (fun e => by have := hPl p h.pP; omega)
        have b2 := hk1.blk hB.b2 (fun e => by have := hPl p h.pP; omega)
        have hs : StepVal w1.drew (.func (.func 102) #[] #[ptr (w.heap.size + 1 + 1)]) (.unl s) (fun x => x = w.heap.size + 1 + 1) := ⟨_, rfl, b2.of_block rfl, rfl⟩
        have hdf' := hdf.drew
        obtain ⟨g2, cap2, eg2, hPg2, hcells2⟩ := hdf.pRow (k := k) hk
        have hadd := disk_add hdf' (k := k) hk hs (by show (S.nd k).dir = true; rw [hdir]) trivial (fun x hx hp => by have := hPl x hp; omega) (fun x hx => by rw [hx]; exact b2.lt) (hll k hk) (by simp [St.parts])
        refine (unl1_core (b0.cell 0) (b1.cell 0) (by rw [← eg2]; exact hdf.blk.cell 0) hdf.len (show k < _ from hk) (hcells2 k hk) hadd).mono ?_
        rintro e w2 ⟨rfl, ⟨t', hd2⟩, hk2⟩
        exact ⟨rfl, drew_keeps hk2, _, ⟨_, _, _, hd2⟩, fun x hx => hx⟩
      · rintro e w' ⟨rfl, hkp, hd2⟩
        exact ⟨rfl, leaves_of hB.below hPl (fun k hk => by subst hk; exact ⟨by omega, l2⟩) hkp hd2⟩
  · have er : S.unlink i s = (S, findErr S i s) := by unfold DS.unlink; rw [if_pos h0]
    rw [er]
    refine (unlink_e1 (j := (findVal S i s : Int)) (fun W hW => (hfd W hW).mono ?_) (by simpa using h0)).mono ?_
    · rintro e w' ⟨rfl, rfl⟩
      exact ⟨rfl, Below.refl _ _⟩
    · rintro e w' ⟨rfl, hb⟩
      exact ⟨rfl, stay w' hb⟩

end Go.Proofs.Ytagjmphmdgklkaa
