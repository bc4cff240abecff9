/- Parts of the proof, one behind the other: Dfull Dfresh Dop Dread Dread2 Dmay Dlink Dmake1 Dmake Dsyncop Dcrashall. -/
import Derived.Test.YtagjmphmdgklkaaG1
import Derived.Lib.Bytealg
/- The disk as a whole in memory. -/
namespace Go.Proofs.Ytagjmphmdgklkaa
open Go.RowKit

structure DF (w : World) (p : Nat) (S : DS) (P : Nat → Prop) (vn : Value) (nb : Nat → Nat) (t : Nat → Nat) : Prop where
  blk : Blk w p (dcells vn S)
  tp : t p = 1
  row : Row w 98 1 vn S.nodes.length (ptrs nb S.nodes.length)
  vnT : BlkIn vn (fun k => t k = 2)
  nodes : ∀ i (h : i < S.nodes.length), NodeAt w (nb i) S.nodes[i] (fun k => t k = i + 3)
  inP : ∀ k, t k ≠ 0 → P k
  lt : ∀ k, P k → k < w.heap.size
  len : S.nodes.length ≤ 4096

def DAt (w : World) (p : Nat) (S : DS) (P : Nat → Prop) : Prop := ∃ vn nb t, DF w p S P vn nb t

section
variable {w w' : World} {p : Nat} {S : DS} {P : Nat → Prop} {vn : Value} {nb : Nat → Nat} {t : Nat → Nat}

theorem DF.base (h : DF w p S P vn nb t) : DBase w p S vn nb := ⟨h.blk, h.row, h.len⟩
theorem DF.pP (h : DF w p S P vn nb t) : P p := h.inP p (by rw [h.tp]; omega)
theorem DF.plt (h : DF w p S P vn nb t) : p < w.heap.size := h.blk.lt

/-- what lies elsewhere may turn -/
theorem DF.keep (h : DF w p S P vn nb t) {Q : Nat → Prop} (hk : Keeps w w' Q) (hQ : ∀ k, Q k → ¬ P k) : DF w' p S P vn nb t :=
  have hs : ∀ n, n ≠ 0 → Same w w' (fun k => t k = n) := fun n hn k hk' e => hk.block k hk' (fun q => hQ k q (h.inP k (by omega)))
  ⟨h.blk.same (hs 1 (by omega)) h.tp, h.tp, h.row.same (hs 2 (by omega)) h.vnT, h.vnT, fun i hi => (h.nodes i hi).same (hs (i + 3) (by omega)), h.inP,
    fun k hp => Nat.lt_of_lt_of_le (h.lt k hp) hk.size, h.len⟩
theorem DAt.keep (h : DAt w p S P) {Q : Nat → Prop} (hk : Keeps w w' Q) (hQ : ∀ k, Q k → ¬ P k) : DAt w' p S P := by
  obtain ⟨vn, nb, t, h⟩ := h
  exact ⟨vn, nb, t, h.keep hk hQ⟩
theorem DAt.below (h : DAt w p S P) (hk : Below w.heap.size w w') : DAt w' p S P := h.keep (Keeps.of_below hk (fun _ => False)) (fun _ q => q.elim)
theorem DF.below (h : DF w p S P vn nb t) (hk : Below w.heap.size w w') : DF w' p S P vn nb t := h.keep (Keeps.of_below hk (fun _ => False)) (fun _ q => q.elim)
theorem DAt.pP (h : DAt w p S P) : P p := by obtain ⟨vn, nb, t, h⟩ := h; exact h.pP
theorem DAt.plt (h : DAt w p S P) : p < w.heap.size := by obtain ⟨vn, nb, t, h⟩ := h; exact h.plt
theorem DAt.lt (h : DAt w p S P) : ∀ k, P k → k < w.heap.size := by obtain ⟨vn, nb, t, h⟩ := h; exact h.lt

/-- other cells in the disk's own block -/
theorem DF.reset (h : DF w p S P vn nb t) {S' : DS} (hk : Keeps w w' (fun k => k = p)) (hb : Blk w' p (dcells vn S')) (hn : S'.nodes = S.nodes) : DF w' p S' P vn nb t :=
  have hs : ∀ n, n ≠ 1 → Same w w' (fun k => t k = n) := fun n hn k hk' e => hk.block k hk' (fun q => hn (by rw [← e, q, h.tp]))
  ⟨hb, h.tp, by rw [hn]; exact h.row.same (hs 2 (by omega)) h.vnT, h.vnT, fun i hi => by
      have hi' : i < S.nodes.length := by rw [← hn]; exact hi
      have := (h.nodes i hi').same (hs (i + 3) (by omega))
      simpa only [hn] using this, h.inP,
    fun k hp => Nat.lt_of_lt_of_le (h.lt k hp) hk.size, by rw [hn]; exact h.len⟩

open Classical in
/-- one node has become another one -/
theorem DF.setNode (h : DF w p S P vn nb t) {i : Nat} (hi : i < S.nodes.length) {N' : Nd} {Qs : Nat → Prop} (hk : Keeps w w' (fun k => t k = i + 3)) (hQP : ∀ k, Qs k → ¬ P k) (hQl : ∀ k, Qs k → k < w.heap.size)
    (hN : NodeAt w' (nb i) N' (fun k => grow (fun k => t k = i + 3) w w' k ∨ Qs k)) :
    DF w' p { S with nodes := S.nodes.set i N' } (fun k => grow P w w' k ∨ Qs k) vn nb (fun k => if k < w.heap.size then (if Qs k then i + 3 else t k) else if k < w'.heap.size then i + 3 else 0) := by
  have tlt : ∀ k, t k ≠ 0 → k < w.heap.size := fun k hk => h.lt k (h.inP k hk)
  have nq : ∀ k, t k ≠ 0 → ¬ Qs k := fun k hk q => hQP k q (h.inP k hk)
  have hs : ∀ n, n ≠ i + 3 → Same w w' (fun k => t k = n) := fun n hn k hk' e => hk.block k hk' (fun q => hn (by rw [← e, q]))
  have te : ∀ k n, n ≠ 0 → t k = n → (if k < w.heap.size then (if Qs k then i + 3 else t k) else if k < w'.heap.size then i + 3 else 0) = n := fun k n hn e => by
    rw [if_pos (tlt k (by omega)), if_neg (nq k (by omega)), e]
  have hlen : ({ S with nodes := S.nodes.set i N' } : DS).nodes.length = S.nodes.length := by simp
  refine ⟨?_, te p 1 (by omega) h.tp, ?_, fun k hk => te k 2 (by omega) (h.vnT k hk), ?_, ?_, ?_, by rw [hlen]; exact h.len⟩
  · exact h.blk.same (hs 1 (by omega)) h.tp
  · rw [hlen]; exact h.row.same (hs 2 (by omega)) h.vnT
  · intro j hj
    have hj' : j < S.nodes.length := by simpa using hj
    show NodeAt w' (nb j) (S.nodes.set i N')[j] _
    rw [List.getElem_set]
    by_cases hji : i = j
    · subst hji
      rw [if_pos rfl]
      refine hN.mono (fun k hk => ?_)
      rcases hk with (hk | hk) | hk
      · exact te k _ (by omega) hk
      · rw [if_neg (by have := hk.1; omega), if_pos hk.2]
      · rw [if_pos (hQl k hk), if_pos hk]
    · rw [if_neg hji]
      exact ((h.nodes j hj').same (hs (j + 3) (by omega))).mono (fun k hk => te k _ (by omega) hk)
  · intro k hk0
    by_cases h1 : k < w.heap.size
    · rw [if_pos h1] at hk0
      by_cases h2 : Qs k
      · exact .inr h2
      · rw [if_neg h2] at hk0; exact .inl (.inl (h.inP k hk0))
    · rw [if_neg h1] at hk0
      by_cases h2 : k < w'.heap.size
      · exact .inl (.inr ⟨by omega, h2⟩)
      · rw [if_neg h2] at hk0; exact absurd rfl hk0
  · intro k hk0
    have := hk.size
    rcases hk0 with (hk0 | hk0) | hk0
    · have := h.lt k hk0; omega
    · exact hk0.2
    · have := hQl k hk0; omega

/-- a node more -/
theorem DF.addNode (h : DF w p S P vn nb t) {N' : Nd} {b : Nat} {vn' : Value} (hk : Keeps w w' (fun k => k = p ∨ t k = 2)) (hb : Blk w' p (dcells vn' { S with nodes := S.nodes ++ [N'] }))
    (hrow : Row w' 98 1 vn' (S.nodes.length + 1) (ptrs nb S.nodes.length ++ [ptr b])) (m : Nat) (hm : w.heap.size ≤ m) (hm' : m ≤ w'.heap.size) (hvn : ∀ k, vn'.ownBlock = some k → t k = 2 ∨ (m ≤ k ∧ k < w'.heap.size))
    (hN : NodeAt w' b N' (fun k => w.heap.size ≤ k ∧ k < m)) (hl : S.nodes.length < 4096) :
    ∃ vn' nb' t', DF w' p { S with nodes := S.nodes ++ [N'] } (grow P w w') vn' nb' t' ∧ (∀ i, i < S.nodes.length → nb' i = nb i) ∧ nb' S.nodes.length = b := by
  have tlt : ∀ k, t k ≠ 0 → k < w.heap.size := fun k hk => h.lt k (h.inP k hk)
  have hs : ∀ n, n ≠ 1 → n ≠ 2 → Same w w' (fun k => t k = n) := fun n n1 n2 k hk' e => hk.block k hk' (fun q => by
    rcases q with q | q
    · exact n1 (by rw [← e, q, h.tp])
    · exact n2 (by rw [← e, q]))
  have te : ∀ k n, n ≠ 0 → t k = n → (if k < w.heap.size then t k else if k < m then S.nodes.length + 3 else if k < w'.heap.size then 2 else 0) = n := fun k n hn e => by
    rw [if_pos (tlt k (by omega)), e]
  have hlen : ({ S with nodes := S.nodes ++ [N'] } : DS).nodes.length = S.nodes.length + 1 := by simp
  refine ⟨vn', fun i => if i = S.nodes.length then b else nb i, fun k => if k < w.heap.size then t k else if k < m then S.nodes.length + 3 else if k < w'.heap.size then 2 else 0,
    ?_, fun i hi => if_neg (by omega), if_pos rfl⟩
  refine ⟨hb, te p 1 (by omega) h.tp, ?_, ?_, ?_, ?_, ?_, by rw [hlen]; omega⟩
  · rw [hlen]
    have : ptrs (fun i => if i = S.nodes.length then b else nb i) (S.nodes.length + 1) = ptrs nb S.nodes.length ++ [ptr b] := by
      unfold ptrs
      rw [List.range_succ, List.map_append]
      congr 1
      · apply List.map_congr_left
        intro j hj
        have hj := List.mem_range.1 hj
        have hne : j ≠ S.nodes.length := by omega
        simp only [if_neg hne]
      · simp
    rw [this]
    exact hrow
  · intro k hk0
    rcases hvn k hk0 with h2 | h2
    · exact te k 2 (by omega) h2
    · rw [if_neg (by omega), if_neg (by omega), if_pos h2.2]
  · intro i hi
    have hi' : i < S.nodes.length + 1 := by simpa using hi
    show NodeAt w' (if i = S.nodes.length then b else nb i) (S.nodes ++ [N'])[i] _
    by_cases hil : i = S.nodes.length
    · subst hil
      rw [if_pos rfl, List.getElem_append_right (by omega)]
      simp only [Nat.sub_self, List.getElem_cons_zero]
      refine hN.mono (fun k hk => ?_)
      rw [if_neg (by omega), if_pos hk.2]
    · have hi2 : i < S.nodes.length := by omega
      rw [if_neg hil, List.getElem_append_left hi2]
      exact ((h.nodes i hi2).same (hs (i + 3) (by omega) (by omega))).mono (fun k hk => te k _ (by omega) hk)
  · intro k hk0
    by_cases h1 : k < w.heap.size
    · rw [if_pos h1] at hk0; exact .inl (h.inP k hk0)
    · refine .inr ⟨by omega, ?_⟩
      rw [if_neg h1] at hk0
      by_cases h2 : k < m
      · omega
      · rw [if_neg h2] at hk0
        by_cases h3 : k < w'.heap.size
        · exact h3
        · rw [if_neg h3] at hk0; exact absurd rfl hk0
  · intro k hk0
    have := hk.size
    rcases hk0 with hk0 | hk0
    · have := h.lt k hk0; omega
    · exact hk0.2

end
end Go.Proofs.Ytagjmphmdgklkaa

/- Walks: a new node; a new disk. -/
namespace Go.Proofs.Ytagjmphmdgklkaa
open Go.RowKit

/-- append of one new element, which lies in the newest block -/
theorem run_app_new {P : Program} {w : World} (t ty e : TypeId) (i : TypeInfo) (z : Value) (size bytes : Nat) (ht : P.underlying t = some (.slice e)) (hi : P.info? e = some i) (hz : i.zero = some z)
    (hsize : i.size = size) (hby : i.bytes = bytes) (hzs : z.cells.size = size) {v : Value} {n : Nat} {xs : List Value} (hr : Row w e size v n xs) (cs : Array Value) (hcs : cs.size = size) (h1 : ∀ u ∈ cs.toList, u.oneCell' = true)
    (hn : n + 1 ≤ maxLen) (hb : (n + 1) * bytes ≤ 140737488355328) :
    ∃ g2 n2 c2 w', (Builtin.append_ #[t, t] ty #[v, .slice (some ⟨w.heap.size, 0, none⟩) 1 1]).run P (w.alloc (.cells cs e)) = .ok (.slice (some ⟨g2, 0, none⟩) n2 c2) w' ∧
      Row w' e size (.slice (some ⟨g2, 0, none⟩) n2 c2) (n + 1) (xs ++ cs.toList) ∧ w.grownBy w' v.ownBlock ∧ (∀ k, (Value.slice (some ⟨g2, 0, none⟩) n2 c2).ownBlock = some k → v.ownBlock = some k ∨ (w.heap.size ≤ k ∧ k < w'.heap.size)) ∧ n2 = n + 1 := by
  have hr' : Row (w.alloc (.cells cs e)) e size v n xs := hr.of_block fun k hk => Below.heap_alloc _ _ _ (hr.lt k hk)
  obtain ⟨v', w', hrun, hrow, hgr, hown⟩ := run_append_row (P := P) (w.alloc (.cells cs e)) t ty e i z size bytes ht hi hz hsize hby hzs v n xs hr'
    ⟨w.heap.size, 0, none⟩ 1 1 cs.toList (by simp [hcs]) (fun j u hu => by
      have := (Blk.made w cs e).cell j
      rw [Addr.add_lit, hu] at *
      simpa using this) h1 hn hb (.inl (by omega))
  rcases hrow.shape with ⟨_, h0⟩ | ⟨g2, c2, e2, _⟩
  · omega
  refine ⟨g2, n + 1, c2, w', ?_, ?_, ?_, ?_, rfl⟩
  · rw [hrun, e2]
  · rw [← e2]; exact hrow
  · refine ⟨hgr.os, hgr.tape, hgr.output, ?_, fun k hk hne => ?_⟩
    · have := hgr.size; simp at this; omega
    · rw [hgr.block k (by simp; omega) hne]
      exact Below.heap_alloc _ _ _ hk
  · intro k hk
    rw [← e2] at hk
    rcases hown k hk with h5 | h5
    · exact .inl h5
    · exact .inr ⟨by have := h5.1; simp at this; omega, h5.2⟩

theorem tNodes : Try.prog.underlying 76 = some (.slice 98) := by kernel_rfl
theorem infoNodeP : (Try.prog.info? 98).map (fun i => (i.zero, i.size, i.bytes)) = some (some (.pointer none), 1, 8) := by kernel_rfl

def newCells (dir : Bool) (m : Value) : Array Value := #[.bool dir, .slice none 0 0, .map none, .slice none 0 0, m, .slice none 0 0]

/-- what stands behind the sync of a new node -/
def FreshEnd (p n b : Nat) (vn : Value) (nb : Nat → Nat) (S : DS) (R : World → Prop) (w' : World) : Prop :=
  ∃ w1 w2 vn', R w1 ∧ w' = w2.setCell ⟨p, 0, none⟩ vn' ∧ Row w2 98 1 vn' (n + 1) (ptrs nb n ++ [ptr b]) ∧ w1.grownBy w2 vn.ownBlock ∧
      (∀ k, vn'.ownBlock = some k → vn.ownBlock = some k ∨ (w1.heap.size ≤ k ∧ k < w2.heap.size)) ∧ Blk w2 p (dcells vn S)

theorem fresh_tail {w1 : World} {p n : Nat} {vn : Value} {S : DS} {nb : Nat → Nat} {R : World → Prop} (hR : R w1) (hp : Blk w1 p (dcells vn S)) (hr : Row w1 98 1 vn n (ptrs nb n)) (hn : n ≤ 4096) (b : Nat) (hne : vn.ownBlock ≠ some p) :
    ∃ g2 c2 w2, (Builtin.append_ #[76, 76] 76 #[vn, .slice (some ⟨w1.heap.size, 0, none⟩) 1 1]).run Try.prog (w1.alloc (.cells #[ptr b] 98)) = .ok (.slice (some ⟨g2, 0, none⟩) (n + 1) c2) w2 ∧
      Hid (FreshEnd p n b vn nb S R (w2.setCell ⟨p, 0, none⟩ (.slice (some ⟨g2, 0, none⟩) (n + 1) c2))) ∧ w1.cell? ⟨p, 0, none⟩ = some vn ∧ w2.cell? ⟨p, 0, none⟩ = some vn ∧ w2.frozen? ⟨p, 0, none⟩ = false ∧ ∃ a m c, vn = .slice a m c := by
  obtain ⟨i, hi, hz, hsz, hby⟩ := info_parts infoNodeP
  obtain ⟨g2, n2, c2, w2, hrun, hrow, hgr, hown, rfl⟩ := run_app_new (P := Try.prog) (w := w1) 76 76 98 i _ 1 8 tNodes hi hz hsz hby rfl hr #[ptr b] rfl (by intro u hu; simp at hu; subst hu; rfl) (by unfold maxLen; omega) (by omega)
  have hb2 : Blk w2 p (dcells vn S) := hp.of_block (hgr.block p hp.lt (fun e => hne e.symm))
  exact ⟨g2, c2, w2, hrun, ⟨w1, w2, _, hR, rfl, hrow, hgr, hown, hb2⟩, hp.cell 0, hb2.cell 0, hb2.frozen 0, hr.isSlice⟩

set_option maxRecDepth 100000 in
set_option maxHeartbeats 1000000 in
theorem fresh_walk_file {w : World} {p : Nat} {vn : Value} {S : DS} (hp : Blk w p (dcells vn S)) {nb : Nat → Nat} {n : Nat} (hn : n ≤ 4096) {R : World → Prop}
    (hsync : Calls Try.prog 91 #[ptr w.heap.size] (w.alloc (.cells (newCells false (.map none)) 106)) fun e w1 => e = .returned (.tuple #[]) ∧ R w1 ∧ Blk w1 p (dcells vn S) ∧ Row w1 98 1 vn n (ptrs nb n)) (hne : vn.ownBlock ≠ some p) :
    Calls Try.prog 46 #[ptr p, .bool false] w fun e w' => e = .returned (.int .i64 ((n : Int) + 1)) ∧ FreshEnd p n w.heap.size vn nb S R w' := by
  unfold ptr
  have HS := Lib.hid hsync
  have HNE := Lib.hid hne
  have hpl := hp.lt
  clear hsync hne hp
  unfold ptr newCells at HS
  go_enter Try.func46, Try.ntmps46
  go_wp2_with (first | (go_at_call 91; refine HS.out.mono ?_; rintro e w1 ⟨rfl, hR, hpb, hrow⟩; obtain ⟨g2, c2, w2, hrun, HF, d0, d1, f1, av, nv, cv, rfl⟩ := fresh_tail hR hpb hrow hn w.heap.size HNE.out; have hpl1 := hpb.lt; clear hR hpb hrow; unfold ptr at hrun) | (at_builtin; refine wpList_append_run rfl _ _ _ _ rfl _ _ _ rfl rfl hrun ?_; clear hrun))
  go_ret
  exact ⟨rfl, HF.out⟩

set_option maxRecDepth 100000 in
set_option maxHeartbeats 1000000 in
theorem fresh_walk_dir {w : World} {p : Nat} {vn : Value} {S : DS} (hp : Blk w p (dcells vn S)) {nb : Nat → Nat} {n : Nat} (hn : n ≤ 4096) {R : World → Prop}
    (hsync : Calls Try.prog 91 #[ptr w.heap.size] ((w.alloc (.cells (newCells true (.map (some (w.heap.size + 1)))) 106)).alloc (.map #[] 0)) fun e w1 => e = .returned (.tuple #[]) ∧ R w1 ∧ Blk w1 p (dcells vn S) ∧ Row w1 98 1 vn n (ptrs nb n)) (hne : vn.ownBlock ≠ some p) :
    Calls Try.prog 46 #[ptr p, .bool true] w fun e w' => e = .returned (.int .i64 ((n : Int) + 1)) ∧ FreshEnd p n w.heap.size vn nb S R w' := by
  unfold ptr
  have HS := Lib.hid hsync
  have HNE := Lib.hid hne
  have hpl := hp.lt
  clear hsync hne hp
  unfold ptr newCells at HS
  have hmm := @run_makeMap Try.prog
  go_enter Try.func46, Try.ntmps46
  go_wp2_with (first | (go_at_call 91; refine HS.out.mono ?_; rintro e w1 ⟨rfl, hR, hpb, hrow⟩; obtain ⟨g2, c2, w2, hrun, HF, d0, d1, f1, av, nv, cv, rfl⟩ := fresh_tail hR hpb hrow hn w.heap.size HNE.out; have hpl1 := hpb.lt; clear hR hpb hrow; unfold ptr at hrun) | (at_builtin; refine wpList_append_run rfl _ _ _ _ rfl _ _ _ rfl rfl hrun ?_; clear hrun))
  go_ret
  exact ⟨rfl, HF.out⟩

def newNd (dir : Bool) : Nd := ⟨dir, ⟨[], []⟩, ⟨[], []⟩, []⟩

theorem MapAt.made (w : World) : MapAt (w.alloc (.map #[] 0)) w.heap.size [] :=
  ⟨#[], 0, by show (w.heap.push _)[w.heap.size]? = _; simp, by simp, by simp, by simp, by simp⟩

theorem disk_fresh {w : World} {p : Nat} {S : DS} {P : Nat → Prop} {vn : Value} {nb : Nat → Nat} {t : Nat → Nat} (h : DF w p S P vn nb t) (dir : Bool) (hl : S.nodes.length < 4096) :
    Calls Try.prog 46 #[ptr p, .bool dir] w fun e w' => e = .returned (.int .i64 ((S.nodes.length : Int) + 1)) ∧
      (∃ vn' nb' t', DF w' p { S with nodes := S.nodes ++ [newNd dir] } (grow P w w') vn' nb' t' ∧ (∀ i, i < S.nodes.length → nb' i = nb i) ∧ nb' S.nodes.length = w.heap.size) ∧ Keeps w w' P := by
  have hne : vn.ownBlock ≠ some p := fun e => by have h1 : t p = 2 := h.vnT p e; have h2 := h.tp; omega
  -- what the sync leaves
  have main : ∀ W : World, Below w.heap.size w W → NodeAt W w.heap.size (newNd dir) (fun k => w.heap.size ≤ k ∧ k < W.heap.size) →
      ∀ w' , FreshEnd p S.nodes.length w.heap.size vn nb S (fun w1 => w1 = W) w' →
      (∃ vn' nb' t', DF w' p { S with nodes := S.nodes ++ [newNd dir] } (grow P w w') vn' nb' t' ∧ (∀ i, i < S.nodes.length → nb' i = nb i) ∧ nb' S.nodes.length = w.heap.size) ∧ Keeps w w' P := by
    rintro W hbl hN w' ⟨w1, w2, vn', rfl, rfl, hrow, hgr, hown, hb2⟩
    have s1 := hbl.size
    have s2 := hgr.size
    have tlt : ∀ k, t k ≠ 0 → k < w.heap.size := fun k hk => h.lt k (h.inP k hk)
    have ssz : (w2.setCell ⟨p, 0, none⟩ vn').heap.size = w2.heap.size := by simp [World.setCell]
    have kk : Keeps w (w2.setCell ⟨p, 0, none⟩ vn') (fun k => k = p ∨ t k = 2) :=
      (((Keeps.of_below hbl _).grownBy hgr (fun k hk => .inr (.inr (h.vnT k hk)))).setCell (.inr (.inl rfl)) _)
    have vp : ∀ k, vn'.ownBlock = some k → k ≠ p := fun k hk e => by
      rcases hown k hk with h5 | h5
      · exact hne (e ▸ h5)
      · have := h.plt; omega
    refine ⟨h.addNode (b := w.heap.size) (vn' := vn') kk ?_ ?_ w1.heap.size s1 (by rw [ssz]; exact s2) (fun k hk => ?_) ?_ hl, kk.mono (fun x hx => ?_)⟩
    · have := hb2.set 0 vn'
      exact this
    · exact hrow.of_block fun k hk => Below.heap_setCell _ _ _ _ (vp k hk)
    · rw [ssz]
      rcases hown k hk with h5 | h5
      · exact .inl (h.vnT k h5)
      · exact .inr h5
    · refine hN.same (fun k hk hq => ?_)
      rw [Below.heap_setCell _ _ _ _ (by have := h.plt; simp; omega), hgr.block k hk (fun e => by have := tlt k (by rw [h.vnT k e.symm]; omega); omega)]
    · rcases hx with rfl | hx
      · exact h.pP
      · exact h.inP x (by omega)
  cases dir with
  | false =>
    have hb := Blk.made w (newCells false (.map none)) 106
    have hs := node_sync0 (N := newNd false) (P := fun k => k = w.heap.size) (t := fun k => if k = w.heap.size then 1 else 0) hb (by simp) ⟨Row.nil _ _ _, by intro k hk; simp [Value.ownBlock] at hk, fun _ => rfl⟩ (by simp [EntsAt, newNd]) (by intro k hk; by_cases e : k = w.heap.size; exact e; simp [e] at hk) (by simp [newNd])
    refine (fresh_walk_file h.blk (nb := nb) (n := S.nodes.length) h.len (R := fun w1 => Below w.heap.size w w1 ∧ NodeAt w1 w.heap.size (newNd false) (fun k => w.heap.size ≤ k ∧ k < w1.heap.size)) (hs.mono ?_) hne).mono ?_
    · rintro e w1 ⟨rfl, hN, hk⟩
      have s0 := hk.size
      simp only [World.size_alloc] at s0
      have hbl : Below w.heap.size w w1 := ((Below.refl _ _).alloc (Nat.le_refl _) _).trans ⟨hk.os, hk.tape, hk.output, hk.size, fun k hk' => hk.block k (by simp; omega) (by omega)⟩
      refine ⟨rfl, ⟨hbl, hN.mono (fun k hk => ?_)⟩, h.blk.of_block (hbl.block p h.plt), h.row.of_block fun k hk => hbl.block k (h.row.lt k hk)⟩
      rcases hk with hk | hk
      · subst hk; exact ⟨Nat.le_refl _, by omega⟩
      · exact ⟨by have := hk.1; simp at this; omega, hk.2⟩
    · rintro e w' ⟨rfl, w1, w2, vn', ⟨hbl, hN⟩, r⟩
      exact ⟨rfl, main w1 hbl hN w' ⟨w1, w2, vn', rfl, r⟩⟩
  | true =>
    have hb := (Blk.made w (newCells true (.map (some (w.heap.size + 1)))) 106).of_block (w' := (w.alloc (.cells (newCells true (.map (some (w.heap.size + 1)))) 106)).alloc (.map #[] 0)) (Below.heap_alloc _ _ _ (by simp))
    have hm := MapAt.made (w.alloc (.cells (newCells true (.map (some (w.heap.size + 1)))) 106))
    simp only [World.size_alloc] at hm
    have hs := node_sync0 (N := newNd true) (P := fun k => k = w.heap.size ∨ k = w.heap.size + 1) (t := fun k => if k = w.heap.size then 1 else if k = w.heap.size + 1 then 5 else 0) hb (by simp) ⟨Row.nil _ _ _, by intro k hk; simp [Value.ownBlock] at hk, fun _ => rfl⟩
      (by simp only [EntsAt, newNd, if_true]; exact ⟨w.heap.size + 1, rfl, by simp, hm⟩) (by intro k hk; by_cases e : k = w.heap.size; exact .inl e; by_cases e2 : k = w.heap.size + 1; exact .inr e2; simp [e, e2] at hk) (by simp [newNd])
    refine (fresh_walk_dir h.blk (nb := nb) (n := S.nodes.length) h.len (R := fun w1 => Below w.heap.size w w1 ∧ NodeAt w1 w.heap.size (newNd true) (fun k => w.heap.size ≤ k ∧ k < w1.heap.size)) (hs.mono ?_) hne).mono ?_
    · rintro e w1 ⟨rfl, hN, hk⟩
      have s0 := hk.size
      simp only [World.size_alloc] at s0
      have hbl : Below w.heap.size w w1 := (((Below.refl _ _).alloc (Nat.le_refl _) _).alloc (by simp) _).trans ⟨hk.os, hk.tape, hk.output, hk.size, fun k hk' => hk.block k (by simp; omega) (by omega)⟩
      refine ⟨rfl, ⟨hbl, hN.mono (fun k hk => ?_)⟩, h.blk.of_block (hbl.block p h.plt), h.row.of_block fun k hk => hbl.block k (h.row.lt k hk)⟩
      rcases hk with (hk | hk) | hk
      · subst hk; exact ⟨Nat.le_refl _, by omega⟩
      · subst hk; exact ⟨by omega, by omega⟩
      · exact ⟨by have := hk.1; simp at this; omega, hk.2⟩
    · rintro e w' ⟨rfl, w1, w2, vn', ⟨hbl, hN⟩, r⟩
      exact ⟨rfl, main w1 hbl hN w' ⟨w1, w2, vn', rfl, r⟩⟩

def newDS (capacity : Int) : DS := ⟨[newNd true], max 0 capacity, 0, 0, false, false, false, 0, false, 0⟩

theorem DAt.empty (w : World) (c : Int) : DAt (w.alloc (.cells (dcells (.slice none 0 0) ⟨[], c, 0, 0, false, false, false, 0, false, 0⟩).toArray 80)) w.heap.size ⟨[], c, 0, 0, false, false, false, 0, false, 0⟩ (fun k => k = w.heap.size) :=
  ⟨.slice none 0 0, fun _ => 0, fun k => if k = w.heap.size then 1 else 0,
    ⟨by have := Blk.made w (dcells (.slice none 0 0) ⟨[], c, 0, 0, false, false, false, 0, false, 0⟩).toArray 80; simpa using this, by simp, Row.nil _ _ _, by intro k hk; simp [Value.ownBlock] at hk, by intro i hi; simp at hi,
      by intro k hk; by_cases e : k = w.heap.size; exact e; simp [e] at hk, by rintro k rfl; simp, by simp⟩⟩

set_option maxRecDepth 100000 in
set_option maxHeartbeats 1000000 in
theorem disk_New (c : Int) (w : World) :
    Calls Try.prog 13 #[.int .i64 c] w fun e w' => ∃ p, e = .returned (ptr p) ∧ DAt w' p (newDS c) (fun k => w.heap.size ≤ k ∧ k < w'.heap.size) ∧ Below w.heap.size w w' := by
  have key : ∀ c0 : Int, c0 = max 0 c → Calls Try.prog 46 #[.pointer (some ⟨w.heap.size, 0, none⟩), .bool true] (w.alloc (.cells #[.slice none 0 0, .int .i64 c0, .int .i64 0, .int .i64 0, .bool false, .bool false, .bool false, .int .i64 0, .bool false, .int .i64 0] 80))
      fun e w' => e = .returned (.int .i64 1) ∧ (DAt w' w.heap.size (newDS c) (fun k => w.heap.size ≤ k ∧ k < w'.heap.size) ∧ Below w.heap.size w w') := by
    rintro c0 rfl
    obtain ⟨vn0, nb0, t0, h0⟩ := DAt.empty w (max 0 c)
    refine (disk_fresh h0 true (by simp)).mono ?_
    rintro e w' ⟨rfl, ⟨vn, nb, t, h, _⟩, hk⟩
    have s0 := hk.size
    simp only [World.size_alloc] at s0
    refine ⟨rfl, ?_, ((Below.refl _ _).alloc (Nat.le_refl _) _).trans ⟨hk.os, hk.tape, hk.output, hk.size, fun k hk' => hk.block k (by simp; omega) (by omega)⟩⟩
    refine ⟨vn, nb, t, h.blk, h.tp, h.row, h.vnT, h.nodes, fun k hk0 => ?_, fun k hk0 => hk0.2, h.len⟩
    have h1 := h.inP k hk0
    have h2 := h.lt k h1
    rcases h1 with h1 | h1
    · exact ⟨by omega, h2⟩
    · exact ⟨by have := h1.1; simp at this; omega, h2⟩
  rcases Int.lt_trichotomy c 0 with hc | rfl | hc
  · have HK := Lib.hid (key 0 (by omega))
    clear key
    go_enter Try.func13, Try.ntmps13
    go_wp2_with (go_at_call 46; refine HK.out.mono ?_; rintro e w1 ⟨rfl, hR⟩)
    go_ret
    exact ⟨_, rfl, hR⟩
  · have HK := Lib.hid (key 0 (by omega))
    clear key
    go_enter Try.func13, Try.ntmps13
    go_wp2_with (go_at_call 46; refine HK.out.mono ?_; rintro e w1 ⟨rfl, hR⟩)
    go_ret
    exact ⟨_, rfl, hR⟩
  · have HK := Lib.hid (key c (by omega))
    clear key
    go_enter Try.func13, Try.ntmps13
    go_wp2_with (go_at_call 46; refine HK.out.mono ?_; rintro e w1 ⟨rfl, hR⟩)
    go_ret
    exact ⟨_, rfl, hR⟩

end Go.Proofs.Ytagjmphmdgklkaa

/- Walks: what is told to go wrong, and an op. -/
namespace Go.Proofs.Ytagjmphmdgklkaa
open Go.RowKit

def tIs (b : Bool) (a : Int) : Bool := b && decide (0 < a)
def tAfter (b : Bool) (a : Int) : Int := if b && decide (0 < a) then a - 1 else a
def fired (b : Bool) (a : Int) : Bool := b && decide (a ≤ 0)

theorem keeps_cell (w : World) (p o : Nat) (v : Value) : Keeps w (w.setCell ⟨p, o, none⟩ v) (fun k => k = p) := (Keeps.refl w (fun k => k = p)).setCell (.inr rfl) _

set_option maxRecDepth 100000 in
set_option maxHeartbeats 400000 in
theorem next_walk {w : World} {p o : Nat} {cs : List Value} (hb : Blk w p cs) {b : Bool} {a : Int} (h0 : cs[o]? = some (.bool b)) (h1 : cs[o + 1]? = some (.int .i64 a)) (ha : a ≤ 9223372036854775807) :
    Calls Try.prog 85 #[cptr p o] w fun e w' => e = .returned (.bool (fired b a)) ∧ Keeps w w' (fun k => k = p) ∧ Blk w' p ((cs.set o (.bool (tIs b a))).set (o + 1) (.int .i64 (tAfter b a))) := by
  have c0 := (hb.cell o).trans h0
  have c1 := (hb.cell (o + 1)).trans h1
  have f0 := hb.frozen o
  have f1 := hb.frozen (o + 1)
  have e1 : (cs.set o (.bool b))[o + 1]? = some (.int .i64 a) := by rw [List.getElem?_set, if_neg (by omega)]; exact h1
  cases b with
  | false =>
    have hbb : Blk w p ((cs.set o (.bool false)).set (o + 1) (.int .i64 a)) := by rw [set_self e1, set_self h0]; exact hb
    have HB := Lib.hid hbb
    clear hb hbb h0 h1 e1
    unfold cptr
    go_enter Try.func85, Try.ntmps85
    go_wp2
    go_ret
    exact ⟨rfl, Keeps.refl _ _, HB.out⟩
  | true =>
    by_cases hp : 0 < a
    · have ef : fired true a = false := by simp [fired]; omega
      have e2 : tIs true a = true := by simp [tIs, hp]
      have e3 : tAfter true a = a - 1 := by simp [tAfter, hp]
      have hbb : Blk (w.setCell ⟨p, o + 1, none⟩ (.int .i64 (a - 1))) p ((cs.set o (.bool true)).set (o + 1) (.int .i64 (a - 1))) := by rw [set_self h0]; exact hb.set (o + 1) _
      rw [ef, e2, e3]
      have HB := Lib.hid hbb
      clear hb hbb h0 h1 e1 ef e2 e3
      unfold cptr
      go_enter Try.func85, Try.ntmps85
      go_wp2
      go_ret
      exact ⟨rfl, keeps_cell _ _ _ _, HB.out⟩
    · have ef : fired true a = true := by simp [fired]; omega
      have e2 : tIs true a = false := by simp [tIs, hp]
      have e3 : tAfter true a = a := by simp [tAfter, hp]
      have hbb : Blk (w.setCell ⟨p, o, none⟩ (.bool false)) p ((cs.set o (.bool false)).set (o + 1) (.int .i64 a)) := by
        have e4 : (cs.set o (.bool false))[o + 1]? = some (.int .i64 a) := by rw [List.getElem?_set, if_neg (by omega)]; exact h1
        rw [set_self e4]; exact hb.set o _
      rw [ef, e2, e3]
      have HB := Lib.hid hbb
      clear hb hbb h0 h1 e1 ef e2 e3
      unfold cptr
      go_enter Try.func85, Try.ntmps85
      go_wp2
      go_ret
      exact ⟨rfl, keeps_cell _ _ _ _, HB.out⟩

def DS.ticked (S : DS) (change : Bool) : DS :=
  { S with ops := S.ops + 1, changes := if change then S.changes + 1 else S.changes, failIs := tIs S.failIs S.failAfter, failAfter := tAfter S.failIs S.failAfter }

/-- small numbers in the disk's cells -/
structure DSmall (S : DS) : Prop where
  ops0 : 0 ≤ S.ops
  ops : S.ops ≤ 4611686018427387904
  ch0 : 0 ≤ S.changes
  ch : S.changes ≤ 4611686018427387904
  fa : S.failAfter ≤ 9223372036854775807
  fu : S.fullAfter ≤ 9223372036854775807

theorem op_head {w : World} {p : Nat} {S : DS} {vn : Value} (hb : Blk w p (dcells vn S)) (hs : DSmall S) (change : Bool) (W : World)
    (hW : W = if change then ((w.setCell ⟨p, 2, none⟩ (.int .i64 (S.ops + 1))).setCell ⟨p, 3, none⟩ (.int .i64 (S.changes + 1))) else w.setCell ⟨p, 2, none⟩ (.int .i64 (S.ops + 1))) :
    Calls Try.prog 85 #[.pointer (some ⟨p, 6, none⟩)] W fun e w' => e = .returned (.bool (fired S.failIs S.failAfter)) ∧ Keeps w w' (fun k => k = p) ∧ Blk w' p (dcells vn (S.ticked change)) := by
  cases change with
  | false =>
    rw [if_neg (by simp)] at hW
    subst hW
    refine (next_walk (o := 6) (hb.set 2 (.int .i64 (S.ops + 1))) rfl rfl hs.fa).mono ?_
    rintro e w' ⟨rfl, hk, hb'⟩
    exact ⟨rfl, ((Keeps.refl w (fun k => k = p)).setCell (.inr rfl) _).trans hk (fun _ _ q => q), hb'⟩
  | true =>
    rw [if_pos rfl] at hW
    subst hW
    refine (next_walk (o := 6) ((hb.set 2 (.int .i64 (S.ops + 1))).set 3 (.int .i64 (S.changes + 1))) rfl rfl hs.fa).mono ?_
    rintro e w' ⟨rfl, hk, hb'⟩
    exact ⟨rfl, (((Keeps.refl w (fun k => k = p)).setCell (.inr rfl) _).setCell (.inr rfl) _).trans hk (fun _ _ q => q), hb'⟩

set_option maxRecDepth 100000 in
set_option maxHeartbeats 400000 in
theorem op_run {w : World} {p : Nat} {S : DS} {vn : Value} (hb : Blk w p (dcells vn S)) (hs : DSmall S) (change : Bool) {g : Nat} {first caps : Array Value} (eg : Enter g) (hf : fired S.failIs S.failAfter = false) {R : World → Prop}
    (hdo : ∀ w1, Keeps w w1 (fun k => k = p) → Blk w1 p (dcells vn (S.ticked change)) → Calls Try.prog g (first ++ #[] ++ caps) w1 fun e w2 => e = .returned (.tuple #[]) ∧ R w2) :
    Calls Try.prog 86 #[ptr p, .bool change, .func (.func g) first caps] w fun e w' => e = .returned (.int .i64 0) ∧ R w' := by
  obtain ⟨c0, c1, c2, c3, c4, c5, c6, c7, c8, c9⟩ := dcell hb
  have f2 := hb.frozen 2
  have f3 := hb.frozen 3
  have hh := op_head hb hs change _ rfl
  rw [hf] at hh
  have HD := Lib.hid hdo
  obtain ⟨o0, o1, k0, k1, _, _⟩ := hs
  have eg' : ∀ args w, (callFunc g args).run Try.prog w = .ok (.enter g args) w := eg
  clear eg hdo hf c0 c1 c4 c5 c6 c7 c8 c9 hb
  unfold ptr
  cases change with
  | false =>
    rw [if_neg (by simp)] at hh
    have HH := Lib.hid hh
    clear hh
    go_enter Try.func86, Try.ntmps86
    go_wp2_with (first | (go_at_call 85; refine HH.out.mono ?_; rintro e w1 ⟨rfl, hk, hb1⟩; have HK := Lib.hid hk; have HB := Lib.hid hb1; clear hk hb1) | (go_at_fn g; refine (HD.out _ HK.out HB.out).mono ?_; rintro e w2 ⟨rfl, hR⟩))
    go_ret
    exact ⟨rfl, hR⟩
  | true =>
    rw [if_pos rfl] at hh
    have HH := Lib.hid hh
    clear hh
    go_enter Try.func86, Try.ntmps86
    go_wp2_with (first | (go_at_call 85; refine HH.out.mono ?_; rintro e w1 ⟨rfl, hk, hb1⟩; have HK := Lib.hid hk; have HB := Lib.hid hb1; clear hk hb1) | (go_at_fn g; refine (HD.out _ HK.out HB.out).mono ?_; rintro e w2 ⟨rfl, hR⟩))
    go_ret
    exact ⟨rfl, hR⟩

set_option maxRecDepth 100000 in
set_option maxHeartbeats 400000 in
theorem op_skip {w : World} {p : Nat} {S : DS} {vn : Value} (hb : Blk w p (dcells vn S)) (hs : DSmall S) (change : Bool) {g : Nat} {first caps : Array Value} (hf : fired S.failIs S.failAfter = true) (hd : S.done = false) :
    Calls Try.prog 86 #[ptr p, .bool change, .func (.func g) first caps] w fun e w' => e = .returned (.int .i64 12) ∧ Keeps w w' (fun k => k = p) ∧ Blk w' p (dcells vn { S.ticked change with down := true }) := by
  obtain ⟨c0, c1, c2, c3, c4, c5, c6, c7, c8, c9⟩ := dcell hb
  have f2 := hb.frozen 2
  have f3 := hb.frozen 3
  have hh := op_head hb hs change _ rfl
  rw [hf] at hh
  obtain ⟨o0, o1, k0, k1, _, _⟩ := hs
  have HD := Lib.hid hd
  clear hd hf c0 c1 c4 c5 c6 c7 c8 c9 hb
  unfold ptr
  cases change with
  | false =>
    rw [if_neg (by simp)] at hh
    have HH := Lib.hid hh
    clear hh
    go_enter Try.func86, Try.ntmps86
    go_wp2_with (go_at_call 85; refine HH.out.mono ?_; rintro e w1 ⟨rfl, hk, hb1⟩; have d5 : w1.cell? ⟨p, 5, none⟩ = some (.bool false) := by { rw [hb1.cell 5]; simp [dcells, DS.ticked, HD.out] }; have d4 := hb1.cell 4; have f4 := hb1.frozen 4; simp only [dcells, List.getElem?_cons_succ, List.getElem?_cons_zero] at d4; have HK := Lib.hid hk; have HB := Lib.hid hb1; clear hk hb1)
    go_ret
    exact ⟨rfl, HK.out.trans (keeps_cell _ _ _ _) (fun _ _ q => q), HB.out.set 4 _⟩
  | true =>
    rw [if_pos rfl] at hh
    have HH := Lib.hid hh
    clear hh
    go_enter Try.func86, Try.ntmps86
    go_wp2_with (go_at_call 85; refine HH.out.mono ?_; rintro e w1 ⟨rfl, hk, hb1⟩; have d5 : w1.cell? ⟨p, 5, none⟩ = some (.bool false) := by { rw [hb1.cell 5]; simp [dcells, DS.ticked, HD.out] }; have d4 := hb1.cell 4; have f4 := hb1.frozen 4; simp only [dcells, List.getElem?_cons_succ, List.getElem?_cons_zero] at d4; have HK := Lib.hid hk; have HB := Lib.hid hb1; clear hk hb1)
    go_ret
    exact ⟨rfl, HK.out.trans (keeps_cell _ _ _ _) (fun _ _ q => q), HB.out.set 4 _⟩

set_option maxRecDepth 100000 in
set_option maxHeartbeats 400000 in
theorem op_done {w : World} {p : Nat} {S : DS} {vn : Value} (hb : Blk w p (dcells vn S)) (hs : DSmall S) (change : Bool) {g : Nat} {first caps : Array Value} (eg : Enter g) (hf : fired S.failIs S.failAfter = true) (hd : S.done = true) {R : World → Prop}
    (hdo : ∀ w1, Keeps w w1 (fun k => k = p) → Blk w1 p (dcells vn (S.ticked change)) → Calls Try.prog g (first ++ #[] ++ caps) w1 fun e w2 => e = .returned (.tuple #[]) ∧ R w2 ∧ ∃ cs u, Blk w2 p cs ∧ cs[4]? = some (.bool u)) :
    Calls Try.prog 86 #[ptr p, .bool change, .func (.func g) first caps] w fun e w' => e = .returned (.int .i64 12) ∧ ∃ w2, R w2 ∧ w' = w2.setCell ⟨p, 4, none⟩ (.bool true) := by
  obtain ⟨c0, c1, c2, c3, c4, c5, c6, c7, c8, c9⟩ := dcell hb
  have f2 := hb.frozen 2
  have f3 := hb.frozen 3
  have hh := op_head hb hs change _ rfl
  rw [hf] at hh
  obtain ⟨o0, o1, k0, k1, _, _⟩ := hs
  have HD := Lib.hid hd
  have HDO := Lib.hid hdo
  have eg' : ∀ args w, (callFunc g args).run Try.prog w = .ok (.enter g args) w := eg
  clear hd hf c0 c1 c4 c5 c6 c7 c8 c9 hb hdo eg
  unfold ptr
  cases change with
  | false =>
    rw [if_neg (by simp)] at hh
    have HH := Lib.hid hh
    clear hh
    go_enter Try.func86, Try.ntmps86
    go_wp2_with (first | (go_at_call 85; refine HH.out.mono ?_; rintro e w1 ⟨rfl, hk, hb1⟩; have d5 : w1.cell? ⟨p, 5, none⟩ = some (.bool true) := by { rw [hb1.cell 5]; simp [dcells, DS.ticked, HD.out] }; have HK := Lib.hid hk; have HB := Lib.hid hb1; clear hk hb1) | (go_at_fn g; refine (HDO.out _ HK.out HB.out).mono ?_; rintro e w2 ⟨rfl, hR, cs, u, hb2, hu⟩; have d4 := (hb2.cell 4).trans hu; have f4 := hb2.frozen 4; have HR := Lib.hid hR; clear hb2 hu hR))
    go_ret
    exact ⟨rfl, _, HR.out, rfl⟩
  | true =>
    rw [if_pos rfl] at hh
    have HH := Lib.hid hh
    clear hh
    go_enter Try.func86, Try.ntmps86
    go_wp2_with (first | (go_at_call 85; refine HH.out.mono ?_; rintro e w1 ⟨rfl, hk, hb1⟩; have d5 : w1.cell? ⟨p, 5, none⟩ = some (.bool true) := by { rw [hb1.cell 5]; simp [dcells, DS.ticked, HD.out] }; have HK := Lib.hid hk; have HB := Lib.hid hb1; clear hk hb1) | (go_at_fn g; refine (HDO.out _ HK.out HB.out).mono ?_; rintro e w2 ⟨rfl, hR, cs, u, hb2, hu⟩; have d4 := (hb2.cell 4).trans hu; have f4 := hb2.frozen 4; have HR := Lib.hid hR; clear hb2 hu hR))
    go_ret
    exact ⟨rfl, _, HR.out, rfl⟩

/-- does an op do its work? -/
def DS.runs (S : DS) : Bool := !fired S.failIs S.failAfter || S.done
def DS.fires (S : DS) : Bool := fired S.failIs S.failAfter
/-- the state behind an op: its work, and the disk down if it was told to fail -/
def DS.after (S S2 : DS) : DS := if S.fires then { S2 with down := true } else S2

theorem DAt.blk {w : World} {p : Nat} {S : DS} {P : Nat → Prop} (h : DAt w p S P) : ∃ vn, Blk w p (dcells vn S) := by obtain ⟨vn, nb, t, h⟩ := h; exact ⟨vn, h.blk⟩
theorem DAt.reset {w w' : World} {p : Nat} {S S' : DS} {P : Nat → Prop} (h : DAt w p S P) (hk : Keeps w w' (fun k => k = p)) (hn : S'.nodes = S.nodes) (hb : ∀ vn, Blk w p (dcells vn S) → Blk w' p (dcells vn S')) : DAt w' p S' P := by
  obtain ⟨vn, nb, t, h⟩ := h
  exact ⟨vn, nb, t, h.reset hk (hb vn h.blk) hn⟩
theorem DAt.setDown {w : World} {p : Nat} {S : DS} {P : Nat → Prop} (h : DAt w p S P) : DAt (w.setCell ⟨p, 4, none⟩ (.bool true)) p { S with down := true } P :=
  h.reset (keeps_cell _ _ _ _) rfl (fun vn hb => hb.set 4 _)

/-- an op, by what its work does: X is what the caller wants to know besides -/
theorem op_any {w : World} {p : Nat} {S : DS} {P : Nat → Prop} {vn : Value} {nb : Nat → Nat} {t : Nat → Nat} (h : DF w p S P vn nb t) (hs : DSmall S) (change : Bool) {g : Nat} {first caps : Array Value} (eg : Enter g) {S2 : DS} {E : Nat → Prop} {X : World → Prop}
    (hX : ∀ a b, Keeps a b (fun k => k = p) → X a → X b)
    (hdo : S.runs = true → ∀ w1, Keeps w w1 (fun k => k = p) → DF w1 p (S.ticked change) P vn nb t → Calls Try.prog g (first ++ #[] ++ caps) w1 fun e w2 => e = .returned (.tuple #[]) ∧ X w2 ∧ Keeps w1 w2 (fun k => P k ∨ E k) ∧ ∃ P2, DAt w2 p S2 P2 ∧ ∀ k, P2 k → grow P w1 w2 k ∨ E k) :
    Calls Try.prog 86 #[ptr p, .bool change, .func (.func g) first caps] w fun e w' => e = .returned (.int .i64 (if S.fires then 12 else 0)) ∧ Keeps w w' (fun k => P k ∨ E k) ∧
      (S.runs = true → X w' ∧ ∃ P2, DAt w' p (S.after S2) P2 ∧ ∀ k, P2 k → grow P w w' k ∨ E k) ∧ (S.runs = false → DAt w' p { S.ticked change with down := true } P) := by
  have kp : ∀ w1, Keeps w w1 (fun k => k = p) → Keeps w w1 (fun k => P k ∨ E k) := fun w1 hk => hk.mono (fun x e => .inl (e ▸ h.pP))
  cases hf : fired S.failIs S.failAfter with
  | false =>
    have hr : S.runs = true := by simp [DS.runs, hf]
    have hfi : S.fires = false := hf
    refine (op_run (R := fun w2 => X w2 ∧ Keeps w w2 (fun k => P k ∨ E k) ∧ ∃ P2, DAt w2 p S2 P2 ∧ ∀ k, P2 k → grow P w w2 k ∨ E k) h.blk hs change eg hf (fun w1 hk hb => ?_)).mono ?_
    · refine (hdo hr w1 hk (h.reset hk hb rfl)).mono ?_
      rintro e w2 ⟨rfl, hx, hk2, P2, hd, hg⟩
      refine ⟨rfl, hx, (kp w1 hk).trans hk2 (fun x _ q => q), P2, hd, fun k hk3 => ?_⟩
      have := hk.size
      rcases hg k hk3 with (h1 | h1) | h1
      · exact .inl (.inl h1)
      · exact .inl (.inr ⟨by have := h1.1; omega, h1.2⟩)
      · exact .inr h1
    · rintro e w' ⟨rfl, hx, hk, P2, hd, hg⟩
      rw [hr, hfi]
      refine ⟨rfl, hk, fun _ => ⟨hx, P2, ?_, hg⟩, fun e => by cases e⟩
      simpa [DS.after, hfi] using hd
  | true =>
    have hfi : S.fires = true := hf
    cases hdn : S.done with
    | false =>
      have hr : S.runs = false := by simp [DS.runs, hf, hdn]
      refine (op_skip h.blk hs change hf hdn).mono ?_
      rintro e w' ⟨rfl, hk, hb⟩
      rw [hr, hfi]
      exact ⟨rfl, kp _ hk, fun e => (by cases e), fun _ => ⟨vn, nb, t, h.reset hk hb rfl⟩⟩
    | true =>
      have hr : S.runs = true := by simp [DS.runs, hdn]
      refine (op_done (R := fun w2 => X w2 ∧ Keeps w w2 (fun k => P k ∨ E k) ∧ ∃ P2, DAt w2 p S2 P2 ∧ ∀ k, P2 k → grow P w w2 k ∨ E k) h.blk hs change eg hf hdn (fun w1 hk hb => ?_)).mono ?_
      · refine (hdo hr w1 hk (h.reset hk hb rfl)).mono ?_
        rintro e w2 ⟨rfl, hx, hk2, P2, hd, hg⟩
        obtain ⟨vn2, hb2⟩ := hd.blk
        refine ⟨rfl, ⟨hx, (kp w1 hk).trans hk2 (fun x _ q => q), P2, hd, fun k hk3 => ?_⟩, _, _, hb2, rfl⟩
        have := hk.size
        rcases hg k hk3 with (h1 | h1) | h1
        · exact .inl (.inl h1)
        · exact .inl (.inr ⟨by have := h1.1; omega, h1.2⟩)
        · exact .inr h1
      · rintro e w' ⟨rfl, w2, ⟨hx, hk, P2, hd, hg⟩, rfl⟩
        rw [hr, hfi]
        have ssz : (w2.setCell ⟨p, 4, none⟩ (.bool true)).heap.size = w2.heap.size := by simp [World.setCell]
        refine ⟨rfl, hk.setCell (.inr (.inl h.pP)) _, fun _ => ⟨hX _ _ (keeps_cell _ _ _ _) hx, P2, ?_, fun k hk3 => ?_⟩, fun e => by cases e⟩
        · simpa [DS.after, hfi] using hd.setDown
        · rcases hg k hk3 with (h1 | h1) | h1
          · exact .inl (.inl h1)
          · exact .inl (.inr ⟨h1.1, by rw [ssz]; exact h1.2⟩)
          · exact .inr h1

end Go.Proofs.Ytagjmphmdgklkaa

/- Walks: the readers of a disk. -/
namespace Go.Proofs.Ytagjmphmdgklkaa
open Go.RowKit

def DS.nd (S : DS) (k : Nat) : Nd := S.nodes.getD k (newNd false)
theorem DS.nd_at {S : DS} {k : Nat} (h : k < S.nodes.length) : S.nd k = S.nodes[k] := by simp [DS.nd, h]

def ofErr (S : DS) (i : Int) (dir : Bool) : Int := if anyErr S i = 0 then (if (S.nd (i - 1).toNat).dir = dir then 0 else 10) else anyErr S i
def ofPtr (S : DS) (nb : Nat → Nat) (i : Int) (dir : Bool) : Value := if ofErr S i dir = 0 then ptr (nb (i - 1).toNat) else .pointer none

theorem anyErr_zero {S : DS} {i : Int} (h : anyErr S i = 0) : S.down = false ∧ ∃ k : Nat, i = (k : Int) + 1 ∧ k < S.nodes.length := by
  unfold anyErr at h
  split at h
  · omega
  · rename_i hd
    split at h
    · rename_i h1
      exact ⟨by simpa using hd, (i - 1).toNat, by omega, by omega⟩
    · omega
theorem ofErr_zero {S : DS} {i : Int} {dir : Bool} (h : ofErr S i dir = 0) : S.down = false ∧ ∃ k : Nat, i = (k : Int) + 1 ∧ k < S.nodes.length ∧ (S.nd k).dir = dir := by
  unfold ofErr at h
  split at h
  · rename_i h0
    split at h
    · rename_i h1
      obtain ⟨hd, k, rfl, hk⟩ := anyErr_zero h0
      have e3 : ((k : Int) + 1 - 1).toNat = k := by omega
      rw [e3] at h1
      exact ⟨hd, k, rfl, hk, h1⟩
    · omega
  · rename_i h0
    exact absurd h h0
theorem anyErr_pos (S : DS) (i : Int) : 0 ≤ anyErr S i := by
  unfold anyErr
  split
  · omega
  · split <;> omega

theorem NodeAt.dirCell {w : World} {b : Nat} {N : Nd} {P : Nat → Prop} (h : NodeAt w b N P) : w.cell? ⟨b, 0, none⟩ = some (.bool N.dir) := by
  obtain ⟨vsb, vsm, veb, vem, vl, f, t, h1, _⟩ := h
  exact h1.cell 0

set_option maxRecDepth 100000 in
set_option maxHeartbeats 400000 in
theorem of_any {w : World} {p : Nat} {S : DS} {P : Nat → Prop} {vn : Value} {nb : Nat → Nat} {t : Nat → Nat} (h : DF w p S P vn nb t) (i : Int) (dir : Bool) :
    Calls Try.prog 61 #[ptr p, .int .i64 i, .bool dir] w fun e w' => e = .returned (.tuple #[ofPtr S nb i dir, .int .i64 (ofErr S i dir)]) ∧ w = w' := by
  have ha := any_base h.base i
  unfold ptr at ha ⊢
  by_cases h0 : anyErr S i = 0
  · obtain ⟨hd, k, rfl, hk⟩ := anyErr_zero h0
    rw [(any_ok (nb := nb) hd hk).1, (any_ok (nb := nb) hd hk).2] at ha
    have e3 : ((k : Int) + 1 - 1).toNat = k := by omega
    have c0 := (h.nodes k hk).dirCell
    rw [← S.nd_at hk] at c0
    unfold ptr at ha
    have HA := Lib.hid ha
    clear ha h
    by_cases hdir : (S.nd k).dir = dir
    · have e1 : ofErr S ((k : Int) + 1) dir = 0 := by unfold ofErr; rw [if_pos h0, e3, if_pos hdir]
      have e2 : ofPtr S nb ((k : Int) + 1) dir = ptr (nb k) := by unfold ofPtr; rw [if_pos e1, e3]
      rw [e1, e2]
      rw [hdir] at c0
      unfold ptr
      clear e1 e2 e3 h0 hdir hd
      cases dir
      all_goals
        go_enter Try.func61, Try.ntmps61
        go_wp2_with (go_at_call 90; refine (HA.out).mono ?_; rintro e w' ⟨rfl, rfl⟩)
        go_ret2
        exact ⟨rfl, rfl⟩
    · have e1 : ofErr S ((k : Int) + 1) dir = 10 := by unfold ofErr; rw [if_pos h0, e3, if_neg hdir]
      have e2 : ofPtr S nb ((k : Int) + 1) dir = .pointer none := by unfold ofPtr; rw [if_neg (by omega)]
      rw [e1, e2]
      have hb : (S.nd k).dir = !dir := by cases h1 : (S.nd k).dir <;> cases dir <;> simp_all
      rw [hb] at c0
      clear e1 e2 e3 h0 hdir hd hb
      cases dir
      all_goals
        simp only [Bool.not_false, Bool.not_true] at c0
        go_enter Try.func61, Try.ntmps61
        go_wp2_with (go_at_call 90; refine (HA.out).mono ?_; rintro e w' ⟨rfl, rfl⟩)
        go_ret2
        exact ⟨rfl, rfl⟩
  · have e1 : ofErr S i dir = anyErr S i := by unfold ofErr; rw [if_neg h0]
    have e2 : ofPtr S nb i dir = .pointer none := by unfold ofPtr; rw [if_neg (by omega)]
    have e3 : anyPtr S nb i = .pointer none := by unfold anyPtr; rw [if_neg h0]
    rw [e1, e2]
    rw [e3] at ha
    have hne : (anyErr S i == 0) = false := by simpa using h0
    generalize anyErr S i = a at *
    have HA := Lib.hid ha
    clear ha h e1 e2 e3 h0
    go_enter Try.func61, Try.ntmps61
    go_wp2_with (go_at_call 90; refine (HA.out).mono ?_; rintro e w' ⟨rfl, rfl⟩)
    go_ret2
    exact ⟨rfl, rfl⟩

theorem NodeAt.dirMap {w : World} {b : Nat} {N : Nd} {P : Nat → Prop} (h : NodeAt w b N P) (hd : N.dir = true) : ∃ mb, w.cell? ⟨b, 4, none⟩ = some (.map (some mb)) ∧ MapAt w mb N.seen.ents ∧ P mb := by
  obtain ⟨vsb, vsm, veb, vem, vl, f, t, h1, h2, h3, h4, h5, h6, h7, h8, h9, h10⟩ := h
  rw [hd] at h6
  simp only [EntsAt, if_true] at h6
  obtain ⟨mb, e, q, hm⟩ := h6
  subst e
  exact ⟨mb, h1.cell 4, hm, h10 mb (by omega)⟩
theorem NodeAt.fileBytes {w : World} {b : Nat} {N : Nd} {P : Nat → Prop} (h : NodeAt w b N P) : ∃ vb, w.cell? ⟨b, 3, none⟩ = some vb ∧ Row w 5 1 vb N.seen.bytes.length (bcells N.seen.bytes) ∧ BlkIn vb P := by
  obtain ⟨vsb, vsm, veb, vem, vl, f, t, h1, h2, h3, h4, h5, h6, h7, h8, h9, h10⟩ := h
  exact ⟨veb, h1.cell 3, h5.row, fun k hk => h10 k (by have := h5.inQ k hk; omega)⟩

theorem zInt (w : World) : (zeroValue 3).run Try.prog w = .ok (.int .i64 0) w := by kernel_rfl

def findErr (S : DS) (i : Int) (s : ByteArray) : Int := if ofErr S i true = 0 then (if ehas (S.nd (i - 1).toNat).seen.ents s then 0 else 8) else ofErr S i true
def findVal (S : DS) (i : Int) (s : ByteArray) : Nat := if ofErr S i true = 0 then (eget (S.nd (i - 1).toNat).seen.ents s).getD 0 else 0

theorem eget_none {m : Ents} {s : ByteArray} (h : ehas m s = false) : (eget m s).getD 0 = 0 := by
  rw [ehas_eget] at h
  cases hx : eget m s with
  | none => rfl
  | some x => rw [hx] at h; simp at h

set_option maxRecDepth 100000 in
set_option maxHeartbeats 400000 in
theorem find_any {w : World} {p : Nat} {S : DS} {P : Nat → Prop} {vn : Value} {nb : Nat → Nat} {t : Nat → Nat} (h : DF w p S P vn nb t) (i : Int) (s : ByteArray) :
    Calls Try.prog 18 #[ptr p, .int .i64 i, .string s] w fun e w' => e = .returned (.tuple #[.int .i64 (findVal S i s : Int), .int .i64 (findErr S i s)]) ∧ w = w' := by
  have ha := of_any h i true
  unfold ptr at ha ⊢
  by_cases h0 : ofErr S i true = 0
  · obtain ⟨hd, k, rfl, hk, hdir⟩ := ofErr_zero h0
    have e3 : ((k : Int) + 1 - 1).toNat = k := by omega
    have e2 : ofPtr S nb ((k : Int) + 1) true = ptr (nb k) := by unfold ofPtr; rw [if_pos h0, e3]
    rw [e2, h0] at ha
    have hn := h.nodes k hk
    rw [← S.nd_at hk] at hn
    obtain ⟨mb, c4, hm, _⟩ := hn.dirMap hdir
    have hr := run_lookup_map (P := Try.prog) tMap tStr (zInt w) hm s
    have ev : findVal S ((k : Int) + 1) s = (eget (S.nd k).seen.ents s).getD 0 := by unfold findVal; rw [if_pos h0, e3]
    have ee : findErr S ((k : Int) + 1) s = if ehas (S.nd k).seen.ents s then 0 else 8 := by unfold findErr; rw [if_pos h0, e3]
    rw [ev, ee]
    unfold ptr at ha
    have HA := Lib.hid ha
    clear ha h hn hm hdir hd e2 e3 h0 ev ee
    generalize hv : (eget (S.nd k).seen.ents s).getD 0 = v at *
    cases hx : ehas (S.nd k).seen.ents s with
    | true =>
      rw [hx] at hr
      rw [if_pos rfl]
      clear hx hv
      go_enter Try.func18, Try.ntmps18
      go_wp2_with (go_at_call 61; refine (HA.out).mono ?_; rintro e w' ⟨rfl, rfl⟩)
      go_ret2
      exact ⟨rfl, rfl⟩
    | false =>
      rw [hx] at hr
      rw [if_neg (by simp)]
      obtain rfl : v = 0 := by rw [← hv, eget_none hx]
      clear hx hv
      go_enter Try.func18, Try.ntmps18
      go_wp2_with (go_at_call 61; refine (HA.out).mono ?_; rintro e w' ⟨rfl, rfl⟩)
      go_ret2
      exact ⟨rfl, rfl⟩
  · have e2 : ofPtr S nb i true = .pointer none := by unfold ofPtr; rw [if_neg h0]
    have ev : findVal S i s = 0 := by unfold findVal; rw [if_neg h0]
    have ee : findErr S i s = ofErr S i true := by unfold findErr; rw [if_neg h0]
    rw [e2] at ha
    rw [ev, ee]
    have hne : (ofErr S i true != 0) = true := by simpa using h0
    generalize ofErr S i true = a at *
    have HA := Lib.hid ha
    clear ha h e2 h0 ev ee
    go_enter Try.func18, Try.ntmps18
    go_wp2_with (go_at_call 61; refine (HA.out).mono ?_; rintro e w' ⟨rfl, rfl⟩)
    go_ret2
    exact ⟨rfl, rfl⟩

def sizeOfFile (S : DS) (i : Int) : Nat := if ofErr S i false = 0 then (S.nd (i - 1).toNat).seen.bytes.length else 0

set_option maxRecDepth 100000 in
set_option maxHeartbeats 400000 in
theorem size_any {w : World} {p : Nat} {S : DS} {P : Nat → Prop} {vn : Value} {nb : Nat → Nat} {t : Nat → Nat} (h : DF w p S P vn nb t) (i : Int) :
    Calls Try.prog 42 #[ptr p, .int .i64 i] w fun e w' => e = .returned (.int .i64 (sizeOfFile S i : Int)) ∧ w = w' := by
  have ha := of_any h i false
  unfold ptr at ha ⊢
  by_cases h0 : ofErr S i false = 0
  · obtain ⟨hd, k, rfl, hk, hdir⟩ := ofErr_zero h0
    have e3 : ((k : Int) + 1 - 1).toNat = k := by omega
    have e2 : ofPtr S nb ((k : Int) + 1) false = ptr (nb k) := by unfold ofPtr; rw [if_pos h0, e3]
    rw [e2, h0] at ha
    have hn := h.nodes k hk
    rw [← S.nd_at hk] at hn
    obtain ⟨vb, c3, hr, _⟩ := hn.fileBytes
    have ev : sizeOfFile S ((k : Int) + 1) = (S.nd k).seen.bytes.length := by unfold sizeOfFile; rw [if_pos h0, e3]
    rw [ev]
    obtain ⟨a, c, rfl⟩ : ∃ a c, vb = .slice a (S.nd k).seen.bytes.length c := by
      rcases hr.shape with ⟨rfl, e⟩ | ⟨g, cap, rfl, _⟩
      · rw [e]; exact ⟨_, _, rfl⟩
      · exact ⟨_, _, rfl⟩
    unfold ptr at ha
    have HA := Lib.hid ha
    clear ha h hn hr hdir hd e2 e3 h0 ev
    generalize (S.nd k).seen.bytes.length = n at *
    go_enter Try.func42, Try.ntmps42
    go_wp2_with (go_at_call 61; refine (HA.out).mono ?_; rintro e w' ⟨rfl, rfl⟩)
    go_ret
    exact ⟨rfl, rfl⟩
  · have e2 : ofPtr S nb i false = .pointer none := by unfold ofPtr; rw [if_neg h0]
    have ev : sizeOfFile S i = 0 := by unfold sizeOfFile; rw [if_neg h0]
    rw [e2] at ha
    rw [ev]
    have hne : (ofErr S i false != 0) = true := by simpa using h0
    generalize ofErr S i false = a at *
    have HA := Lib.hid ha
    clear ha h e2 h0 ev
    go_enter Try.func42, Try.ntmps42
    go_wp2_with (go_at_call 61; refine (HA.out).mono ?_; rintro e w' ⟨rfl, rfl⟩)
    go_ret
    exact ⟨rfl, rfl⟩

set_option maxRecDepth 100000 in
set_option maxHeartbeats 400000 in
theorem ops_any {w : World} {p : Nat} {S : DS} {P : Nat → Prop} {vn : Value} {nb : Nat → Nat} {t : Nat → Nat} (h : DF w p S P vn nb t) :
    Calls Try.prog 44 #[ptr p] w fun e w' => e = .returned (.int .i64 S.ops) ∧ w = w' := by
  obtain ⟨c0, c1, c2, c3, c4, c5, c6, c7, c8, c9⟩ := dcell h.blk
  clear h c0 c1 c3 c4 c5 c6 c7 c8 c9
  unfold ptr
  go_enter Try.func44, Try.ntmps44
  go_wp2
  go_ret
  exact ⟨rfl, rfl⟩

set_option maxRecDepth 100000 in
set_option maxHeartbeats 400000 in
theorem changes_any {w : World} {p : Nat} {S : DS} {P : Nat → Prop} {vn : Value} {nb : Nat → Nat} {t : Nat → Nat} (h : DF w p S P vn nb t) :
    Calls Try.prog 45 #[ptr p] w fun e w' => e = .returned (.int .i64 S.changes) ∧ w = w' := by
  obtain ⟨c0, c1, c2, c3, c4, c5, c6, c7, c8, c9⟩ := dcell h.blk
  clear h c0 c1 c2 c4 c5 c6 c7 c8 c9
  unfold ptr
  go_enter Try.func45, Try.ntmps45
  go_wp2
  go_ret
  exact ⟨rfl, rfl⟩

end Go.Proofs.Ytagjmphmdgklkaa

/- Walks: a part of a file is read; what is told to go wrong. -/
namespace Go.Proofs.Ytagjmphmdgklkaa
open Go.RowKit

set_option maxRecDepth 100000 in
set_option maxHeartbeats 400000 in
/-- a clone of bytes wherever they lie -/
theorem bytes_clone2 {w : World} {a : Addr} {n cap : Nat} {l : List UInt8} (hl : l.length = n) (h : ∀ j u, (bcells l)[j]? = some u → w.cell? (a.add j) = some u) (hb : l.length ≤ 140737488355328) :
    Calls Try.prog 62 #[.slice (some a) n cap] w fun e w' => ∃ v', e = .returned v' ∧ Row w' 5 1 v' l.length (bcells l) ∧ Below w.heap.size w w' ∧ (∀ k, v'.ownBlock = some k → w.heap.size ≤ k ∧ k < w'.heap.size) := by
  obtain ⟨i, hi, hz, hsz, hby⟩ := info_parts infoU8
  have h0 : Row (w.alloc (.cells #[] 5)) 5 1 (.slice (some ⟨w.heap.size, 0, none⟩) 0 0) 0 [] :=
    ⟨rfl, .inr ⟨w.heap.size, 0, #[], rfl, by show (w.heap.push _)[w.heap.size]? = _; simp, Nat.le_refl _, by simp [maxLen], by simp, rfl⟩⟩
  have hw : ∀ j u, (bcells l)[j]? = some u → (w.alloc (.cells #[] 5)).cell? (a.add j) = some u := fun j u hu => by
    have h1 := h j u hu
    exact (World.cell?_of_block (w := w) (Below.heap_alloc _ _ _ (World.block_lt_of_cell? w _ h1))).trans h1
  obtain ⟨v', w', hrun, hrow, hgr, hown⟩ := run_append_row (P := Try.prog) (w.alloc (.cells #[] 5)) 34 34 5 i _ 1 1 tBytes hi hz hsz hby rfl _ 0 [] h0
    a n cap (bcells l) (by simp [bcells, hl]) hw (bcell_one _) (by unfold maxLen; omega) (by omega) (.inr (by simp))
  have HF := Lib.hid (show ∃ v'', Ending.returned v' = .returned v'' ∧ Row w' 5 1 v'' l.length (bcells l) ∧ Below w.heap.size w w' ∧ (∀ k, v''.ownBlock = some k → w.heap.size ≤ k ∧ k < w'.heap.size) from by
    refine ⟨v', rfl, by rw [hl]; simpa using hrow, ((Below.refl _ _).alloc (Nat.le_refl _) _).grown hgr (by simp) (fun k hk => by simp [Value.ownBlock] at hk; omega), ?_⟩
    intro k hk
    have hs2 := hgr.size
    simp only [World.size_alloc] at hs2
    rcases hown k hk with h5 | h5
    · simp [Value.ownBlock] at h5; omega
    · simp only [World.size_alloc] at h5; omega)
  clear hrow hgr hown h hw h0 hl hb
  have hq := fun w => Lib.run_eql_slice_nil (P := Try.prog) w 34 5 (some a) n cap 0 0 tBytes
  go_enter Try.func62, Try.ntmps62
  go_wp2_with (at_builtin; refine wpList_append_run rfl _ _ _ _ rfl _ _ _ rfl rfl hrun ?_; clear hrun)
  go_ret
  exact HF.out

theorem run_part (a : Option Addr) (n cap lo hi : Nat) (h1 : lo ≤ hi) (h2 : hi ≤ cap) (W : World) :
    (Instr.slice 34 (.slice a n cap) (some (.int .i64 (lo : Int))) (some (.int .i64 (hi : Int))) none).run Try.prog W = .ok (.slice (if cap = lo then a else a.map (fun x => x.add lo)) (hi - lo) (cap - lo)) W := by
  obtain ⟨i, hi', _, hs, _⟩ := info_parts infoU8
  simp [Instr.slice, run_underlying tBytes, Instr.sliceBounds, Instr.sliceBound, asIntOf, h1, h2, sizeOf, typeInfo, hi', hs, Result.andThen]

def readErr (S : DS) (i a n : Int) : Int := if ofErr S i false = 0 then (if a < 0 ∨ n < 0 ∨ (sizeOfFile S i : Int) < a ∨ (sizeOfFile S i : Int) - a < n then 13 else 0) else ofErr S i false
def readVal (S : DS) (i a n : Int) : List UInt8 := if readErr S i a n = 0 then ((S.nd (i - 1).toNat).seen.bytes.drop a.toNat).take n.toNat else []

/-- bytes that a call has made, or none -/
def Given (w w' : World) (v : Value) (l : List UInt8) : Prop := Row w' 5 1 v l.length (bcells l) ∧ Below w.heap.size w w' ∧ (∀ k, v.ownBlock = some k → w.heap.size ≤ k ∧ k < w'.heap.size)
theorem Given.nil (w : World) : Given w w (.slice none 0 0) [] := ⟨Row.nil _ _ _, Below.refl _ _, by intro k hk; simp [Value.ownBlock] at hk⟩

/-- a part of the bytes of a row, cloned -/
theorem part_clone {w : World} {vb : Value} {l : List UInt8} (hr : Row w 5 1 vb l.length (bcells l)) (hb : l.length ≤ 140737488355328) (lo n : Nat) (h : lo + n ≤ l.length) :
    ∃ a m c, vb = .slice a m c ∧ lo + n ≤ c ∧ m = l.length ∧ c ≤ maxLen ∧ Calls Try.prog 62 #[.slice (if c = lo then a else a.map (fun x => x.add lo)) (lo + n - lo) (c - lo)] w fun e w' => ∃ v', e = .returned v' ∧ Given w w' v' ((l.drop lo).take n) := by
  rcases hr.shape with ⟨rfl, h0⟩ | ⟨g, cap, rfl, hnc, hcm, hg⟩
  · obtain ⟨rfl, rfl⟩ : lo = 0 ∧ n = 0 := by omega
    have hl : l = [] := List.eq_nil_of_length_eq_zero h0
    subst hl
    refine ⟨none, 0, 0, rfl, by omega, rfl, by simp [maxLen], ?_⟩
    rw [if_pos rfl]
    refine (bytes_clone_nil w).mono ?_
    rintro e w' ⟨rfl, rfl⟩
    exact ⟨_, rfl, Given.nil _⟩
  · refine ⟨_, _, _, rfl, by omega, rfl, hcm, ?_⟩
    have hlen : ((l.drop lo).take n).length = n := by simp; omega
    have hcell : ∀ j u, (bcells ((l.drop lo).take n))[j]? = some u → w.cell? ⟨g, lo + j, none⟩ = some u := fun j u hu => by
      have hj : j < n := by have := (List.getElem?_eq_some_iff.1 hu).1; simp [bcells] at this; omega
      rw [hr.cellAt (lo + j) (by omega)]
      rw [← hu]
      simp [bcells, List.getElem?_take, hj, List.getElem?_drop]
    have e1 : lo + n - lo = n := by omega
    rw [e1]
    by_cases hc : cap = lo
    · have hn0 : n = 0 := by omega
      subst hn0
      rw [if_pos hc]
      refine bytes_clone2 (l := (l.drop lo).take 0) (by simp) (fun j u hu => ?_) (by simp)
      simp [bcells] at hu
    · rw [if_neg hc]
      refine bytes_clone2 (l := (l.drop lo).take n) hlen (fun j u hu => ?_) (by simp; omega)
      have := hcell j u hu
      simp only [Addr.add]
      by_cases h1 : lo = 0
      · subst h1
        by_cases h2 : j = 0
        · subst h2; simpa using this
        · simpa [h2] using this
      · by_cases h2 : j = 0
        · subst h2; simpa [h1] using this
        · simpa [h1, h2] using this

set_option maxRecDepth 100000 in
set_option maxHeartbeats 400000 in
theorem read_core {w : World} {p b : Nat} {i a n : Int} {vb : Value} {l : List UInt8} (ha : Calls Try.prog 61 #[.pointer (some ⟨p, 0, none⟩), .int .i64 i, .bool false] w fun e w' => e = .returned (.tuple #[.pointer (some ⟨b, 0, none⟩), .int .i64 0]) ∧ w = w')
    (c3 : w.cell? ⟨b, 3, none⟩ = some vb) (hr : Row w 5 1 vb l.length (bcells l)) (hb : l.length ≤ 140737488355328) (ha0 : -9223372036854775808 ≤ a) (ha1 : a ≤ 9223372036854775807) :
    Calls Try.prog 16 #[.pointer (some ⟨p, 0, none⟩), .int .i64 i, .int .i64 a, .int .i64 n] w fun e w' =>
      if a < 0 ∨ n < 0 ∨ (l.length : Int) < a ∨ (l.length : Int) - a < n then e = .returned (.tuple #[.slice none 0 0, .int .i64 13]) ∧ w = w' else ∃ v', e = .returned (.tuple #[v', .int .i64 0]) ∧ Given w w' v' ((l.drop a.toNat).take n.toNat) := by
  by_cases hbad : a < 0 ∨ n < 0 ∨ (l.length : Int) < a ∨ (l.length : Int) - a < n
  · simp only [if_pos hbad]
    obtain ⟨a', m, c, rfl, hm⟩ : ∃ a m c, vb = .slice a m c ∧ m = l.length := by
      rcases hr.shape with ⟨rfl, e⟩ | ⟨g, cap, rfl, _⟩
      · exact ⟨_, _, _, rfl, e.symm⟩
      · exact ⟨_, _, _, rfl, rfl⟩
    subst hm
    have HA := Lib.hid ha
    have h4 : a < 0 ∨ (0 ≤ a ∧ n < 0) ∨ (0 ≤ a ∧ 0 ≤ n ∧ (l.length : Int) < a) ∨ (0 ≤ a ∧ 0 ≤ n ∧ a ≤ (l.length : Int) ∧ (l.length : Int) - a < n) := by omega
    clear ha hr hbad
    generalize l.length = len at *
    rcases h4 with h1 | ⟨h1, h2⟩ | ⟨h1, h2, h3⟩ | ⟨h1, h2, h3, h5⟩
    all_goals
      go_enter Try.func16, Try.ntmps16
      go_wp2_with (go_at_call 61; refine (HA.out).mono ?_; rintro e w' ⟨rfl, rfl⟩)
      go_ret2
      exact ⟨rfl, rfl⟩
  · simp only [if_neg hbad]
    obtain ⟨lo, rfl⟩ : ∃ k : Nat, a = k := ⟨a.toNat, by omega⟩
    obtain ⟨m, rfl⟩ : ∃ k : Nat, n = k := ⟨n.toNat, by omega⟩
    obtain ⟨a', m', c, rfl, hc, hm, hcm, hcl⟩ := part_clone hr hb lo m (by omega)
    subst hm
    have hs := fun W => run_part a' l.length c lo (lo + m) (by omega) hc W
    have e1 : ((lo + m : Nat) : Int) = (lo : Int) + (m : Int) := by omega
    rw [e1] at hs
    generalize (if c = lo then a' else a'.map (fun x => x.add lo)) = av at *
    generalize lo + m - lo = nv at *
    generalize c - lo = cv at *
    have HC := Lib.hid hcl
    have HA := Lib.hid ha
    have h1 : (lo : Int) ≤ l.length := by omega
    have h2 : (m : Int) ≤ (l.length : Int) - lo := by omega
    simp only [Int.toNat_natCast]
    unfold maxLen at hcm
    clear ha hr hbad hcl e1
    generalize (l.drop lo).take m = out at *
    generalize l.length = len at *
    go_enter Try.func16, Try.ntmps16
    go_wp2_with (first | (go_at_call 61; refine (HA.out).mono ?_; rintro e w' ⟨rfl, rfl⟩) | (go_at_call 62; refine (HC.out).mono ?_; rintro e w' ⟨v', rfl, hg⟩))
    go_ret2
    exact ⟨_, rfl, hg⟩

set_option maxRecDepth 100000 in
set_option maxHeartbeats 400000 in
theorem read_err {w : World} {p : Nat} {i a n e0 : Int} (ha : Calls Try.prog 61 #[.pointer (some ⟨p, 0, none⟩), .int .i64 i, .bool false] w fun e w' => e = .returned (.tuple #[.pointer none, .int .i64 e0]) ∧ w = w')
    (hne : (e0 != 0) = true) : Calls Try.prog 16 #[.pointer (some ⟨p, 0, none⟩), .int .i64 i, .int .i64 a, .int .i64 n] w fun e w' => e = .returned (.tuple #[.slice none 0 0, .int .i64 e0]) ∧ w = w' := by
  have HA := Lib.hid ha
  clear ha
  go_enter Try.func16, Try.ntmps16
  go_wp2_with (go_at_call 61; refine (HA.out).mono ?_; rintro e w' ⟨rfl, rfl⟩)
  go_ret2
  exact ⟨rfl, rfl⟩

theorem read_any {w : World} {p : Nat} {S : DS} {P : Nat → Prop} {vn : Value} {nb : Nat → Nat} {t : Nat → Nat} (h : DF w p S P vn nb t) (i a n : Int) (hb : ∀ k < S.nodes.length, (S.nd k).seen.bytes.length ≤ 140737488355328)
    (ha0 : -9223372036854775808 ≤ a) (ha1 : a ≤ 9223372036854775807) :
    Calls Try.prog 16 #[ptr p, .int .i64 i, .int .i64 a, .int .i64 n] w fun e w' => ∃ v, e = .returned (.tuple #[v, .int .i64 (readErr S i a n)]) ∧ Given w w' v (readVal S i a n) := by
  have ha := of_any h i false
  unfold ptr at ha ⊢
  by_cases h0 : ofErr S i false = 0
  · obtain ⟨hd, k, rfl, hk, hdir⟩ := ofErr_zero h0
    have e3 : ((k : Int) + 1 - 1).toNat = k := by omega
    have e2 : ofPtr S nb ((k : Int) + 1) false = ptr (nb k) := by unfold ofPtr; rw [if_pos h0, e3]
    rw [e2, h0] at ha
    have hn := h.nodes k hk
    rw [← S.nd_at hk] at hn
    obtain ⟨vb, c3, hr, _⟩ := hn.fileBytes
    have ev : sizeOfFile S ((k : Int) + 1) = (S.nd k).seen.bytes.length := by unfold sizeOfFile; rw [if_pos h0, e3]
    refine (read_core (n := n) ha c3 hr (hb k hk) ha0 ha1).mono ?_
    intro e w' he
    by_cases hbad : a < 0 ∨ n < 0 ∨ ((S.nd k).seen.bytes.length : Int) < a ∨ ((S.nd k).seen.bytes.length : Int) - a < n
    · rw [if_pos hbad] at he
      obtain ⟨rfl, rfl⟩ := he
      have er : readErr S ((k : Int) + 1) a n = 13 := by unfold readErr; rw [if_pos h0, ev, if_pos hbad]
      have el : readVal S ((k : Int) + 1) a n = [] := by unfold readVal; rw [if_neg (by omega)]
      rw [er, el]
      exact ⟨_, rfl, Given.nil _⟩
    · rw [if_neg hbad] at he
      obtain ⟨v', rfl, hg⟩ := he
      have er : readErr S ((k : Int) + 1) a n = 0 := by unfold readErr; rw [if_pos h0, ev, if_neg hbad]
      have el : readVal S ((k : Int) + 1) a n = ((S.nd k).seen.bytes.drop a.toNat).take n.toNat := by unfold readVal; rw [if_pos er, e3]
      rw [er, el]
      exact ⟨_, rfl, hg⟩
  · have e2 : ofPtr S nb i false = .pointer none := by unfold ofPtr; rw [if_neg h0]
    have er : readErr S i a n = ofErr S i false := by unfold readErr; rw [if_neg h0]
    have el : readVal S i a n = [] := by unfold readVal; rw [if_neg (by rw [er]; exact h0)]
    rw [er, el]
    rw [e2] at ha
    refine (read_err ha (by simpa using h0)).mono ?_
    rintro e w' ⟨rfl, rfl⟩
    exact ⟨_, rfl, Given.nil _⟩

/-! ### what is told to go wrong -/
set_option maxRecDepth 100000 in
set_option maxHeartbeats 400000 in
theorem tell_walk {w : World} {p o : Nat} {cs : List Value} (hb : Blk w p cs) {u0 u1 : Value} (h0 : cs[o]? = some u0) (h1 : cs[o + 1]? = some u1) (a : Int) (x : Value) :
    Calls Try.prog 104 #[x, cptr p o, .int .i64 a] w fun e w' => e = .returned (.int .i64 (if a < 0 then 2 else 0)) ∧ Keeps w w' (fun k => k = p) ∧ Blk w' p (if a < 0 then cs else (cs.set o (.bool true)).set (o + 1) (.int .i64 a)) := by
  have c0 := (hb.cell o).trans h0
  have c1 := (hb.cell (o + 1)).trans h1
  have f0 := hb.frozen o
  have f1 := hb.frozen (o + 1)
  have HB := Lib.hid hb
  clear hb h0 h1
  unfold cptr
  by_cases h : a < 0
  · rw [if_pos h, if_pos h]
    go_enter Try.func104, Try.ntmps104
    go_wp2
    go_ret
    exact ⟨rfl, Keeps.refl _ _, HB.out⟩
  · rw [if_neg h, if_neg h]
    go_enter Try.func104, Try.ntmps104
    go_wp2
    go_ret
    exact ⟨rfl, (keeps_cell _ _ _ _).trans (keeps_cell _ _ _ _) (fun _ _ q => q), (HB.out.set o _).set (o + 1) _⟩

def DS.fail (S : DS) (a : Int) (done : Bool) : DS × Int :=
  if S.down then (S, 12) else if a < 0 then (S, 2) else ({ S with failIs := true, failAfter := a, done := done }, 0)
def DS.fullAt (S : DS) (a : Int) : DS × Int :=
  if S.down then (S, 12) else if a < 0 then (S, 2) else ({ S with fullIs := true, fullAfter := a }, 0)

set_option maxRecDepth 100000 in
set_option maxHeartbeats 400000 in
theorem fail_any {w : World} {p : Nat} {S : DS} {P : Nat → Prop} (h : DAt w p S P) (a : Int) (done : Bool) :
    Calls Try.prog 55 #[ptr p, .int .i64 a, .bool done] w fun e w' => e = .returned (.int .i64 (S.fail a done).2) ∧ DAt w' p (S.fail a done).1 P ∧ Keeps w w' (fun k => k = p) := by
  have hu : Calls Try.prog 103 #[ptr p] w fun e w' => e = .returned (.int .i64 (upErr S)) ∧ w = w' := by
    obtain ⟨vn, nb, t, h⟩ := h
    exact up_base h.base
  cases hx : S.down with
  | true =>
    have e1 : S.fail a done = (S, 12) := by simp [DS.fail, hx]
    rw [e1]
    rw [upErr_eq hx, if_pos rfl] at hu
    have HD := Lib.hid h
    unfold ptr at hu ⊢
    have HU := Lib.hid hu
    clear hu hx e1 h
    go_enter Try.func55, Try.ntmps55
    go_wp2_with (go_at_call 103; refine (HU.out).mono ?_; rintro e w' ⟨rfl, rfl⟩)
    go_ret
    exact ⟨rfl, HD.out, Keeps.refl _ _⟩
  | false =>
    rw [upErr_eq hx, if_neg (by simp)] at hu
    obtain ⟨vn, nb, t, hf⟩ := h
    have ht := tell_walk (o := 6) hf.blk rfl rfl a (.pointer (some ⟨p, 0, none⟩))
    unfold cptr at ht
    by_cases ha : a < 0
    · have e1 : S.fail a done = (S, 2) := by simp [DS.fail, hx, ha]
      rw [e1]
      rw [if_pos ha, if_pos ha] at ht
      have HD := Lib.hid hf
      unfold ptr at hu ⊢
      have HU := Lib.hid hu
      have HT := Lib.hid ht
      clear hu hx e1 hf ht
      go_enter Try.func55, Try.ntmps55
      go_wp2_with (first | (go_at_call 103; refine (HU.out).mono ?_; rintro e w' ⟨rfl, rfl⟩) | (go_at_call 104; refine (HT.out).mono ?_; rintro e w1 ⟨rfl, hk, hb1⟩; have HK := Lib.hid hk; have HB := Lib.hid hb1; clear hk hb1))
      go_ret
      exact ⟨rfl, ⟨vn, nb, t, HD.out.reset HK.out HB.out rfl⟩, HK.out⟩
    · have e1 : S.fail a done = ({ S with failIs := true, failAfter := a, done := done }, 0) := by simp [DS.fail, hx, ha]
      rw [e1]
      rw [if_neg ha, if_neg ha] at ht
      have HD := Lib.hid hf
      unfold ptr at hu ⊢
      have HU := Lib.hid hu
      have HT := Lib.hid ht
      clear hu hx e1 hf ht
      go_enter Try.func55, Try.ntmps55
      go_wp2_with (first | (go_at_call 103; refine (HU.out).mono ?_; rintro e w' ⟨rfl, rfl⟩) | (go_at_call 104; refine (HT.out).mono ?_; rintro e w1 ⟨rfl, hk, hb1⟩; have d5 : w1.cell? ⟨p, 5, none⟩ = some (.bool S.done) := hb1.cell 5; have f5 := hb1.frozen 5; have HK := Lib.hid hk; have HB := Lib.hid hb1; clear hk hb1))
      go_ret
      exact ⟨rfl, ⟨vn, nb, t, HD.out.reset (HK.out.trans (keeps_cell _ _ _ _) (fun _ _ q => q)) (HB.out.set 5 (.bool done)) rfl⟩, HK.out.trans (keeps_cell _ _ _ _) (fun _ _ q => q)⟩

set_option maxRecDepth 100000 in
set_option maxHeartbeats 400000 in
theorem fullAt_any {w : World} {p : Nat} {S : DS} {P : Nat → Prop} (h : DAt w p S P) (a : Int) :
    Calls Try.prog 57 #[ptr p, .int .i64 a] w fun e w' => e = .returned (.int .i64 (S.fullAt a).2) ∧ DAt w' p (S.fullAt a).1 P ∧ Keeps w w' (fun k => k = p) := by
  have hu : Calls Try.prog 103 #[ptr p] w fun e w' => e = .returned (.int .i64 (upErr S)) ∧ w = w' := by
    obtain ⟨vn, nb, t, h⟩ := h
    exact up_base h.base
  cases hx : S.down with
  | true =>
    have e1 : S.fullAt a = (S, 12) := by simp [DS.fullAt, hx]
    rw [e1]
    rw [upErr_eq hx, if_pos rfl] at hu
    have HD := Lib.hid h
    unfold ptr at hu ⊢
    have HU := Lib.hid hu
    clear hu hx e1 h
    go_enter Try.func57, Try.ntmps57
    go_wp2_with (go_at_call 103; refine (HU.out).mono ?_; rintro e w' ⟨rfl, rfl⟩)
    go_ret
    exact ⟨rfl, HD.out, Keeps.refl _ _⟩
  | false =>
    rw [upErr_eq hx, if_neg (by simp)] at hu
    obtain ⟨vn, nb, t, hf⟩ := h
    have ht := tell_walk (o := 8) hf.blk rfl rfl a (.pointer (some ⟨p, 0, none⟩))
    unfold cptr at ht
    have e1 : S.fullAt a = (if a < 0 then S else { S with fullIs := true, fullAfter := a }, if a < 0 then 2 else 0) := by by_cases ha : a < 0 <;> simp [DS.fullAt, hx, ha]
    rw [e1]
    have HD := Lib.hid hf
    unfold ptr at hu ⊢
    have HU := Lib.hid hu
    generalize hr : (if a < 0 then (2 : Int) else 0) = r at *
    generalize hS2 : (if a < 0 then S else { S with fullIs := true, fullAfter := a }) = S2
    have HS2 := Lib.hid hS2
    have HT := Lib.hid ht
    clear hu hx e1 hf ht hS2 hr
    go_enter Try.func57, Try.ntmps57
    go_wp2_with (first | (go_at_call 103; refine (HU.out).mono ?_; rintro e w' ⟨rfl, rfl⟩) | (go_at_call 104; refine (HT.out).mono ?_; rintro e w1 ⟨rfl, hk, hb1⟩; have HK := Lib.hid hk; have HB := Lib.hid hb1; clear hk hb1))
    go_ret
    refine ⟨rfl, ⟨vn, nb, t, HD.out.reset HK.out ?_ ?_⟩, HK.out⟩
    · have := HB.out
      rw [← HS2.out]
      by_cases ha : a < 0
      · simp only [if_pos ha] at this ⊢; exact this
      · simp only [if_neg ha] at this ⊢; exact this
    · rw [← HS2.out]; by_cases ha : a < 0 <;> simp [ha]

end Go.Proofs.Ytagjmphmdgklkaa

/- Walks: may a text be a name? -/
namespace Go.Proofs.Ytagjmphmdgklkaa
open Go.RowKit

theorem indexByte_neg (c : UInt8) : ∀ l : List UInt8, decide (Lib.indexByte l c < 0) = !l.contains c
  | [] => by simp [Lib.indexByte]
  | b :: l => by
    have ih := indexByte_neg c l
    have hg := Lib.indexByte_ge l c
    unfold Lib.indexByte
    by_cases h : b = c
    · subst h; simp
    · have h1 : (b == c) = false := by simpa using h
      have h2 : (c == b) = false := by simpa using fun e => h e.symm
      rw [h1]
      simp only [Bool.false_eq_true, if_false, List.contains_cons, h2, Bool.false_or, ← ih]
      by_cases h3 : Lib.indexByte l c = -1
      · simp [h3]
      · have h4 : (Lib.indexByte l c == -1) = false := by simpa using h3
        rw [h4]
        simp only [Bool.false_eq_true, if_false]
        rw [decide_eq_decide]
        omega

set_option maxRecDepth 100000 in
set_option maxHeartbeats 400000 in
theorem indexByte_lite (s : ByteArray) (c : Int) (w : World) : Calls Try.prog 122 #[.string s, .int .u8 c] w fun e w' => e = .returned (.int .i64 (Lib.indexByte s.data.toList c.toNat.toUInt8)) ∧ w = w' := by
  go_enter Try.func122, Try.ntmps122
  go_wp2
  rw [run_callFunc_extern Try.func145 (by kernel_rfl) (by kernel_rfl) (by kernel_rfl) (e := Extern.BytealgIndexByte.indexByte) (by kernel_rfl), Lib.run_indexByteString]
  simp only [Result.andThen]
  rw [Oper.upon_value]
  go_wp2
  go_ret
  exact ⟨rfl, rfl⟩

set_option maxRecDepth 100000 in
set_option maxHeartbeats 400000 in
theorem indexByte_any (s : ByteArray) (c : Int) (w : World) : Calls Try.prog 109 #[.string s, .int .u8 c] w fun e w' => e = .returned (.int .i64 (Lib.indexByte s.data.toList c.toNat.toUInt8)) ∧ w = w' := by
  have HL := Lib.hid (indexByte_lite s c w)
  go_enter Try.func109, Try.ntmps109
  go_wp2_with (go_at_call 122; refine HL.out.mono ?_; rintro e w' ⟨rfl, rfl⟩)
  go_ret
  exact ⟨rfl, rfl⟩

def mayB (s : ByteArray) : Bool := decide (0 < s.size) && decide (s.size ≤ 64) && !s.data.toList.contains 0 && !s.data.toList.contains 47

theorem zero_byte (s : ByteArray) (w : World) (b : Bool) (h : s.data.toList.contains 0 = b) : Calls Try.prog 109 #[.string s, .int .u8 0] w fun e w' => ∃ n : Int, decide (n < 0) = !b ∧ e = .returned (.int .i64 n) ∧ w = w' :=
  (indexByte_any s 0 w).mono fun e w' ⟨he, hw⟩ => ⟨_, by rw [indexByte_neg]; exact congrArg _ h, he, hw⟩
theorem slash_byte (s : ByteArray) (w : World) (b : Bool) (h : s.data.toList.contains 47 = b) : Calls Try.prog 109 #[.string s, .int .u8 47] w fun e w' => ∃ n : Int, decide (n < 0) = !b ∧ e = .returned (.int .i64 n) ∧ w = w' :=
  (indexByte_any s 47 w).mono fun e w' ⟨he, hw⟩ => ⟨_, by rw [indexByte_neg]; exact congrArg _ h, he, hw⟩

theorem ofEmpty {s : ByteArray} (h : s.size = 0) : s = ⟨#[]⟩ := by
  obtain ⟨d⟩ := s
  have : d.size = 0 := h
  have : d = #[] := by simpa using this
  rw [this]

set_option maxRecDepth 100000 in
set_option maxHeartbeats 400000 in
theorem may_any (s : ByteArray) (w : World) : Calls Try.prog 92 #[.string s] w fun e w' => e = .returned (.bool (mayB s)) ∧ w = w' := by
  by_cases h0 : s.size = 0
  · have e : mayB s = false := by simp [mayB, h0]
    rw [e]
    obtain rfl := ofEmpty h0
    clear e h0
    go_enter Try.func92, Try.ntmps92
    go_wp2_with fail
    go_ret
    exact ⟨rfl, rfl⟩
  · have hne : s.toList.isEmpty = false := by
      rw [ByteArray.toList_eq]
      cases hx : s.data.toList with
      | nil => exfalso; apply h0; have := congrArg List.length hx; simpa using this
      | cons a b => rfl
    have hne2 : (s.toList == []) = false := by
      cases hx : s.toList with
      | nil => rw [hx] at hne; simp at hne
      | cons a b => rfl
    have hne3 : ¬ s.toList = [] := by simpa using hne2
    by_cases h1 : s.size ≤ 64
    · cases h2 : s.data.toList.contains 0 with
      | true =>
        have e : mayB s = false := by unfold mayB; rw [h2]; simp
        rw [e]
        have HZ := fun w => Lib.hid (zero_byte s w true h2)
        clear h2 e h0
        go_enter Try.func92, Try.ntmps92
        go_wp2_with (go_at_call 109; refine (HZ _).out.mono ?_; rintro e w' ⟨n, hn, rfl, rfl⟩)
        go_ret
        exact ⟨rfl, rfl⟩
      | false =>
        have HZ := fun w => Lib.hid (zero_byte s w false h2)
        cases h3 : s.data.toList.contains 47 with
        | true =>
          have e : mayB s = false := by unfold mayB; rw [h3]; simp
          rw [e]
          have HS := fun w => Lib.hid (slash_byte s w true h3)
          clear h2 h3 e h0
          go_enter Try.func92, Try.ntmps92
          go_wp2_with fail
          refine (HZ _).out.mono ?_
          rintro e w' ⟨n, hn, rfl, rfl⟩
          go_wp2_with fail
          refine (HS _).out.mono ?_
          rintro e w' ⟨n2, hn2, rfl, rfl⟩
          go_wp2_with fail
          go_ret
          exact ⟨rfl, rfl⟩
        | false =>
          have e : mayB s = true := by unfold mayB; rw [h2, h3]; simp; omega
          rw [e]
          have HS := fun w => Lib.hid (slash_byte s w false h3)
          clear h2 h3 e h0
          go_enter Try.func92, Try.ntmps92
          go_wp2_with fail
          refine (HZ _).out.mono ?_
          rintro e w' ⟨n, hn, rfl, rfl⟩
          go_wp2_with fail
          refine (HS _).out.mono ?_
          rintro e w' ⟨n2, hn2, rfl, rfl⟩
          go_wp2_with fail
          go_ret
          exact ⟨rfl, rfl⟩
    · have e : mayB s = false := by simp [mayB, h1]
      rw [e]
      have h1' : (64 : Int) < (s.size : Int) := by omega
      clear e h0 h1
      go_enter Try.func92, Try.ntmps92
      go_wp2_with fail
      go_ret
      exact ⟨rfl, rfl⟩

end Go.Proofs.Ytagjmphmdgklkaa

/- Walks: the step that lets a name lead to a node; a new node with its entry. -/
namespace Go.Proofs.Ytagjmphmdgklkaa
open Go.RowKit

set_option maxRecDepth 100000 in
set_option maxHeartbeats 400000 in
theorem link_any (s : ByteArray) (i : Int) (w : World) :
    Calls Try.prog 116 #[.string s, .int .i64 i] w fun e w' => e = .returned (.agg #[.int .i64 1, .func (.func 134) #[] #[ptr (w.heap.size + 1), ptr w.heap.size]]) ∧ Below w.heap.size w w' ∧
      Blk w' (w.heap.size + 1) [.int .i64 i] ∧ Blk w' w.heap.size [.string s] ∧ w'.heap.size = w.heap.size + 3 := by
  unfold ptr
  have k0 : Blk ((((w.alloc (.cells #[.string s] 9)).alloc (.cells #[.int .i64 i] 3)).alloc (.cells #[.int .i64 1, .func (.func 134) #[] #[.pointer (some ⟨w.heap.size + 1, 0, none⟩), .pointer (some ⟨w.heap.size, 0, none⟩)]] 135))) w.heap.size [.string s] :=
    ((Blk.made w #[.string s] 9).of_block (Below.heap_alloc _ _ _ (by simp))).of_block (Below.heap_alloc _ _ _ (by simp; omega))
  have k1 : Blk ((((w.alloc (.cells #[.string s] 9)).alloc (.cells #[.int .i64 i] 3)).alloc (.cells #[.int .i64 1, .func (.func 134) #[] #[.pointer (some ⟨w.heap.size + 1, 0, none⟩), .pointer (some ⟨w.heap.size, 0, none⟩)]] 135))) (w.heap.size + 1) [.int .i64 i] := by
    have := Blk.made (w.alloc (.cells #[.string s] 9)) #[.int .i64 i] 3
    simp only [World.size_alloc] at this
    exact this.of_block (Below.heap_alloc _ _ _ (by simp))
  have K0 := Lib.hid k0
  have K1 := Lib.hid k1
  clear k0 k1
  go_enter Try.func116, Try.ntmps116
  go_wp2
  refine bodyPost_ret (v := .agg #[.int .i64 1, .func (.func 134) #[] #[.pointer (some ⟨w.heap.size + 1, 0, none⟩), .pointer (some ⟨w.heap.size, 0, none⟩)]]) (by simp [results, Try.results116, go_sem]) rfl ⟨rfl, ?_, K1.out, K0.out, by simp⟩
  exact (((Below.refl _ _).alloc (Nat.le_refl _) _).alloc (by simp) _).alloc (by simp; omega) _

def Nd.step (N : Nd) (st : St) : Nd := { N with seen := st.act st.parts N.seen, loose := N.loose ++ [st] }
def DS.step (S : DS) (k : Nat) (st : St) : DS := { S with nodes := S.nodes.set k ((S.nd k).step st) }
def DS.grown (S : DS) (dir : Bool) : DS := { S with nodes := S.nodes ++ [newNd dir] }

/-- a step more of node k, in a disk -/
theorem disk_add {w : World} {p : Nat} {S : DS} {P : Nat → Prop} {vn : Value} {nb : Nat → Nat} {t : Nat → Nat} (h : DF w p S P vn nb t) {k : Nat} (hk : k < S.nodes.length) {fv : Value} {st : St} {Qs : Nat → Prop} (hs : StepVal w fv st Qs)
    (hfit : st.fits (S.nd k).dir = true) (hok : st.ok (S.nd k).seen) (hQP : ∀ x, Qs x → ¬ P x) (hQs : ∀ x, Qs x → x < w.heap.size) (hlen : (S.nd k).loose.length ≤ 1000000) (hpos : 0 < st.parts) :
    Calls Try.prog 88 #[ptr (nb k), .agg #[.int .i64 (st.parts : Int), fv]] w fun e w' => e = .returned (.tuple #[]) ∧
      (∃ t', DF w' p (S.step k st) (fun x => grow P w w' x ∨ Qs x) vn nb t') ∧ Keeps w w' P := by
  have hn := h.nodes k hk
  rw [← S.nd_at hk] at hn
  have tP : ∀ x, t x = k + 3 → P x := fun x hx => h.inP x (by omega)
  refine (node_add hn (fun x hx => h.lt x (tP x hx)) hs hfit hok (fun x q hx => hQP x q (tP x hx)) hQs hlen hpos).mono ?_
  rintro e w' ⟨rfl, hN, hkp⟩
  exact ⟨rfl, ⟨_, h.setNode hk hkp hQP hQs hN⟩, hkp.mono tP⟩

end Go.Proofs.Ytagjmphmdgklkaa

/- Walks: what Mkdir and Create do, as an op. -/
namespace Go.Proofs.Ytagjmphmdgklkaa
open Go.RowKit

def DS.linked (S : DS) (k : Nat) (s : ByteArray) (dir : Bool) : DS := (S.grown dir).step k (.link s (S.nodes.length + 1))

theorem grown_nd {S : DS} {k : Nat} (h : k < S.nodes.length) (dir : Bool) : (S.grown dir).nd k = S.nd k := by
  simp [DS.nd, DS.grown, List.getD_eq_getElem?_getD, List.getElem?_append_left h]

/-- what is known behind the new node of make -/
structure Mk1 (w w1 : World) (p : Nat) (S : DS) (P : Nat → Prop) (nb : Nat → Nat) (k : Nat) (isDir : Bool) (bi bN bs : Nat) (s : ByteArray) : Prop where
  df : ∃ P1 vn1 nb1 t1, DF w1 p (S.grown isDir) P1 vn1 nb1 t1 ∧ nb1 k = nb k ∧ ∀ x, P1 x → grow P w w1 x
  keeps : Keeps w w1 (fun x => P x ∨ x = bi)
  bi : Blk w1 bi [.int .i64 ((S.nodes.length : Int) + 1)]
  bN : Blk w1 bN [ptr (nb k)]
  bs : Blk w1 bs [.string s]

theorem make1_link {w w1 : World} {p : Nat} {S : DS} {P : Nat → Prop} {nb : Nat → Nat} {k : Nat} {isDir : Bool} {bi bN bs : Nat} {s : ByteArray} (h : Mk1 w w1 p S P nb k isDir bi bN bs s) (hk : k < S.nodes.length) (hdir : (S.nd k).dir = true)
    (hll : (S.nd k).loose.length ≤ 1000000) (nbi : ¬ P bi) (hbw : bi < w.heap.size) (W : World) (hW : W = w1.drew) :
    Calls Try.prog 116 #[.string s, .int .i64 ((S.nodes.length : Int) + 1)] W fun e w2 => ∃ fv, e = .returned (.agg #[.int .i64 1, fv]) ∧ (∃ g c, fv = .func (.func g) #[] c) ∧ Below W.heap.size W w2 ∧
      (Calls Try.prog 88 #[ptr (nb k), .agg #[.int .i64 1, fv]] w2 fun e w3 => e = .returned (.tuple #[]) ∧
        Keeps w w3 (fun x => P x ∨ x = bi) ∧ Blk w3 bi [.int .i64 ((S.nodes.length : Int) + 1)] ∧ ∃ P2 vn2 nb2 t2, DF w3 p (S.linked k s isDir) P2 vn2 nb2 t2 ∧ ∀ x, P2 x → grow P w w3 x) := by
  subst hW
  obtain ⟨⟨P1, vn1, nb1, t1, hdf, hnb, hP1⟩, hkp, hbi, hbN, hbs⟩ := h
  have hdf' : DF w1.drew p (S.grown isDir) P1 vn1 nb1 t1 := ⟨hdf.blk, hdf.tp, hdf.row, hdf.vnT, fun i hi => (hdf.nodes i hi).same (fun _ _ _ => rfl), hdf.inP, hdf.lt, hdf.len⟩
  refine (link_any s _ w1.drew).mono ?_
  rintro e w2 ⟨rfl, hbl, k1, k0, hsz⟩
  refine ⟨_, rfl, ⟨_, _, rfl⟩, hbl, ?_⟩
  have hdf2 := hdf'.below hbl
  have e1 : (S.grown isDir).nd k = S.nd k := grown_nd hk isDir
  have hk' : k < (S.grown isDir).nodes.length := by simp [DS.grown]; omega
  have dsz : w1.drew.heap.size = w1.heap.size := rfl
  have kb : ((S.nodes.length : Int) + 1) = ((S.nodes.length + 1 : Nat) : Int) := by omega
  have hsv : StepVal w2 (.func (.func 134) #[] #[ptr (w1.drew.heap.size + 1), ptr w1.drew.heap.size]) (.link s (S.nodes.length + 1)) (fun x => x = w1.heap.size ∨ x = w1.heap.size + 1) := by
    rw [kb] at k1
    exact ⟨_, _, rfl, k1, k0, .inr rfl, .inl rfl⟩
  have hadd := disk_add hdf2 hk' hsv (by rw [e1, hdir]; rfl) trivial (fun x hx hp => by have := hdf.lt x hp; omega) (fun x hx => by omega) (by rw [e1]; exact hll) (by simp [St.parts])
  rw [hnb] at hadd
  refine hadd.mono ?_
  rintro e w3 ⟨rfl, ⟨t', hd3⟩, hk3⟩
  have s1 := hkp.size
  have s3 := hk3.size
  have nP1 : ¬ P1 bi := fun hp => by
    rcases hP1 bi hp with h1 | h1
    · exact nbi h1
    · omega
  refine ⟨rfl, ?_, ?_, _, _, _, _, hd3, fun x hx => ?_⟩
  · refine (hkp.trans (drew_keeps (Keeps.of_below hbl (fun x => P x ∨ x = bi))) (fun _ _ q => q)).trans hk3 (fun x hx q => ?_)
    rcases hP1 x q with h1 | h1
    · exact .inl h1
    · have := h1.1; omega
  · exact hk3.blk (hbi.of_block (hbl.block bi hbi.lt)) nP1
  · rcases hx with (hx | hx) | hx
    · rcases hP1 x hx with h1 | h1
      · exact .inl h1
      · exact .inr ⟨h1.1, by have := h1.2; omega⟩
    · exact .inr ⟨by have := hx.1; omega, hx.2⟩
    · exact .inr ⟨by omega, by omega⟩

theorem make1_fresh {w : World} {p : Nat} {S : DS} {P : Nat → Prop} {vn : Value} {nb : Nat → Nat} {t : Nat → Nat} (h : DF w p S P vn nb t) {k : Nat} (hk : k < S.nodes.length) (hl : S.nodes.length < 4096)
    {bi bN bs : Nat} {isDir : Bool} {x : Value} {s : ByteArray} (hi : Blk w bi [x]) (hN : Blk w bN [ptr (nb k)]) (hs : Blk w bs [.string s]) (n1 : ¬ P bi) (n2 : ¬ P bN) (n3 : ¬ P bs) (e1 : bN ≠ bi) (e2 : bs ≠ bi) :
    Calls Try.prog 46 #[ptr p, .bool isDir] w fun e w1 => e = .returned (.int .i64 ((S.nodes.length : Int) + 1)) ∧ (∃ x, w1.cell? ⟨bi, 0, none⟩ = some x) ∧ w1.frozen? ⟨bi, 0, none⟩ = false ∧
      Mk1 w (w1.setCell ⟨bi, 0, none⟩ (.int .i64 ((S.nodes.length : Int) + 1))) p S P nb k isDir bi bN bs s := by
  refine (disk_fresh h isDir hl).mono ?_
  rintro e w1 ⟨rfl, ⟨vn1, nb1, t1, hd, hnb, _⟩, hkp⟩
  have b1 := hkp.blk hi n1
  have bl := hi.lt
  have ssz : (w1.setCell ⟨bi, 0, none⟩ (.int .i64 ((S.nodes.length : Int) + 1))).heap.size = w1.heap.size := by simp [World.setCell]
  refine ⟨rfl, ⟨x, b1.cell 0⟩, b1.frozen 0, ⟨_, _, _, _, hd.keep (keeps_cell _ _ _ _) ?_, hnb k hk, ?_⟩, (hkp.mono (fun _ q => .inl q)).setCell (.inr (.inr rfl)) _, b1.set 0 _, ?_, ?_⟩
  · rintro y rfl hy
    rcases hy with hy | hy
    · exact n1 hy
    · have := hy.1; omega
  · intro y hy
    rcases hy with hy | hy
    · exact .inl hy
    · exact .inr ⟨hy.1, by rw [ssz]; exact hy.2⟩
  · exact (keeps_cell w1 bi 0 _).blk (hkp.blk hN n2) e1
  · exact (keeps_cell w1 bi 0 _).blk (hkp.blk hs n3) e2

set_option maxRecDepth 100000 in
set_option maxHeartbeats 1000000 in
theorem make1_any {w : World} {p : Nat} {S : DS} {P : Nat → Prop} {vn : Value} {nb : Nat → Nat} {t : Nat → Nat} (h : DF w p S P vn nb t) {k : Nat} (hk : k < S.nodes.length) (hdir : (S.nd k).dir = true) (hl : S.nodes.length < 4096) (hll : (S.nd k).loose.length ≤ 1000000)
    {bd bD bi bN bs : Nat} {isDir : Bool} {x : Value} {s : ByteArray} (hd : Blk w bd [ptr p]) (hD : Blk w bD [.bool isDir]) (hi : Blk w bi [x]) (hN : Blk w bN [ptr (nb k)]) (hs : Blk w bs [.string s]) (n1 : ¬ P bi) (n2 : ¬ P bN) (n3 : ¬ P bs) (e1 : bN ≠ bi) (e2 : bs ≠ bi) :
    Calls Try.prog 115 #[ptr bd, ptr bD, ptr bi, ptr bN, ptr bs] w fun e w3 => e = .returned (.tuple #[]) ∧
        Keeps w w3 (fun x => P x ∨ x = bi) ∧ Blk w3 bi [.int .i64 ((S.nodes.length : Int) + 1)] ∧ ∃ P2 vn2 nb2 t2, DF w3 p (S.linked k s isDir) P2 vn2 nb2 t2 ∧ ∀ x, P2 x → grow P w w3 x := by
  have hf := make1_fresh h hk hl (isDir := isDir) hi hN hs n1 n2 n3 e1 e2
  have cd : w.cell? ⟨bd, 0, none⟩ = some (ptr p) := hd.cell 0
  have cD : w.cell? ⟨bD, 0, none⟩ = some (.bool isDir) := hD.cell 0
  have hl2 : ∀ w1, Mk1 w w1 p S P nb k isDir bi bN bs s → _ := fun w1 hm => make1_link hm hk hdir hll n1 hi.lt w1.drew rfl
  have HL := Lib.hid hl2
  unfold ptr at *
  have HF := Lib.hid hf
  clear hl2 hf h hk hdir hl hll hd hD hi hN hs n1 n2 n3 e1 e2
  have hnb : (S.nodes.length : Int) + 1 ≤ 9223372036854775807 ∨ True := .inr trivial
  clear hnb
  go_enter Try.func115, Try.ntmps115
  go_wp2_with (go_at_call 46; refine HF.out.mono ?_; rintro e w1 ⟨rfl, ⟨x1, d0⟩, f0, hm⟩; have HM := Lib.hid hm; have HLM := Lib.hid (HL.out _ hm); clear hm)
  generalize w1.setCell ⟨bi, 0, none⟩ (.int .i64 ((S.nodes.length : Int) + 1)) = W at *
  have q1 : W.cell? ⟨bi, 0, none⟩ = some (.int .i64 ((S.nodes.length : Int) + 1)) := HM.out.bi.cell 0
  have q2 : W.cell? ⟨bN, 0, none⟩ = some (.pointer (some ⟨nb k, 0, none⟩)) := HM.out.bN.cell 0
  have q3 : W.cell? ⟨bs, 0, none⟩ = some (.string s) := HM.out.bs.cell 0
  have qb := HM.out.bN.lt
  clear d0 f0 cd cD HF HL
  go_region_with (first | (go_at_call 116; refine HLM.out.mono ?_; rintro e w2 ⟨fv, rfl, ⟨gf, cf, rfl⟩, hbl, hadd⟩; have q4 := (hbl.cell (p := ⟨bN, 0, none⟩) (by simpa using qb)).trans (show W.drew.cell? ⟨bN, 0, none⟩ = _ from q2); have HADD := Lib.hid hadd; clear hbl hadd) | (go_at_call 88; refine HADD.out.mono ?_; rintro e w3 ⟨rfl, hfin⟩; have HFIN := Lib.hid hfin; clear hfin))
  all_goals
    go_end0
    exact ⟨rfl, HFIN.out⟩

end Go.Proofs.Ytagjmphmdgklkaa

/- Walks: Mkdir and Create. -/
namespace Go.Proofs.Ytagjmphmdgklkaa
open Go.RowKit

def DS.fulled (S : DS) : DS := { S with fullIs := tIs S.fullIs S.fullAfter, fullAfter := tAfter S.fullIs S.fullAfter }

def DS.make (S : DS) (dir : Int) (s : ByteArray) (isDir : Bool) : DS × Int × Int :=
  if ofErr S dir true ≠ 0 then (S, 0, ofErr S dir true)
  else if mayB s = false then (S, 0, 7)
  else if ehas (S.nd (dir - 1).toNat).seen.ents s then (S, 0, 9)
  else if 4096 ≤ S.nodes.length then (S, 0, 11)
  else if fired S.fullIs S.fullAfter then (S.fulled, 0, 11)
  else (if S.runs then S.fulled.after ((S.fulled.ticked true).linked (dir - 1).toNat s isDir) else { S.fulled.ticked true with down := true },
    if S.fires then 0 else (S.nodes.length : Int) + 1, if S.fires then 12 else 0)

/-- the op of make, in whatever world its boxes lie -/
theorem make_op {w : World} {p : Nat} {S : DS} {P : Nat → Prop} {vn : Value} {nb : Nat → Nat} {t : Nat → Nat} (h : DF w p S P vn nb t) (hsm : DSmall S) {k : Nat} (hk : k < S.nodes.length) (hdir : (S.nd k).dir = true) (hl : S.nodes.length < 4096) (hll : (S.nd k).loose.length ≤ 1000000)
    {bd bD bi bN bs : Nat} {isDir : Bool} {x : Value} {s : ByteArray} (hd : Blk w bd [ptr p]) (hD : Blk w bD [.bool isDir]) (hi : Blk w bi [x]) (hN : Blk w bN [ptr (nb k)]) (hs : Blk w bs [.string s]) (n0 : ¬ P bd) (n4 : ¬ P bD) (n1 : ¬ P bi) (n2 : ¬ P bN) (n3 : ¬ P bs) (e1 : bN ≠ bi) (e2 : bs ≠ bi) :
    Calls Try.prog 86 #[ptr p, .bool true, .func (.func 115) #[] #[ptr bd, ptr bD, ptr bi, ptr bN, ptr bs]] w fun e w' =>
      e = .returned (.int .i64 (if S.fires then 12 else 0)) ∧ (S.fires = false → w'.cell? ⟨bi, 0, none⟩ = some (.int .i64 ((S.nodes.length : Int) + 1))) ∧ Keeps w w' (fun y => P y ∨ y = bi) ∧
        ∃ P2, DAt w' p (if S.runs then S.after ((S.ticked true).linked k s isDir) else { S.ticked true with down := true }) P2 ∧ ∀ y, P2 y → grow P w w' y ∨ y = bi := by
  have pp := h.pP
  refine (op_any h hsm true (g := 115) (enters_of Try.func115 (by kernel_rfl) rfl) (S2 := (S.ticked true).linked k s isDir) (E := fun y => y = bi)
    (X := fun W => Blk W bi [.int .i64 ((S.nodes.length : Int) + 1)]) (fun a b hk hx => hk.blk hx (fun e => n1 (e ▸ pp))) (fun _ w1 hk1 hdf => ?_)).mono ?_
  · have kb : ∀ {b : Nat} {cs : List Value}, Blk w b cs → ¬ P b → Blk w1 b cs := fun hb hn => hk1.blk hb (fun e => hn (e ▸ pp))
    refine (make1_any hdf (k := k) hk hdir hl hll (isDir := isDir) (kb hd n0) (kb hD n4) (kb hi n1) (kb hN n2) (kb hs n3) n1 n2 n3 e1 e2).mono ?_
    rintro e w2 ⟨rfl, hkp, hb, P2, vn2, nb2, t2, hd2, hg⟩
    exact ⟨rfl, hb, hkp, P2, ⟨vn2, nb2, t2, hd2⟩, fun y hy => .inl (hg y hy)⟩
  · rintro e w' ⟨rfl, hkp, hrun, hskip⟩
    refine ⟨rfl, ?_, hkp, ?_⟩
    · intro hf
      have hr : S.runs = true := by simp [DS.runs]; exact .inl hf
      exact (hrun hr).1.cell 0
    · cases hr : S.runs with
      | true =>
        obtain ⟨_, P2, hd2, hg⟩ := hrun hr
        exact ⟨P2, by simpa using hd2, hg⟩
      | false => exact ⟨P, by simpa using hskip hr, fun y hy => .inl (.inl hy)⟩

set_option maxRecDepth 100000 in
set_option maxHeartbeats 1000000 in
theorem make_e1 {w : World} {p : Nat} {i e0 : Int} {s : ByteArray} {isDir : Bool} (ha : ∀ W, Below w.heap.size w W → Calls Try.prog 61 #[.pointer (some ⟨p, 0, none⟩), .int .i64 i, .bool true] W fun e w' => e = .returned (.tuple #[.pointer none, .int .i64 e0]) ∧ W = w')
    (hne : (e0 != 0) = true) : Calls Try.prog 79 #[.pointer (some ⟨p, 0, none⟩), .int .i64 i, .string s, .bool isDir] w fun e w' => e = .returned (.tuple #[.int .i64 0, .int .i64 e0]) ∧ Below w.heap.size w w' := by
  have HA := Lib.hid ha
  clear ha
  go_enter Try.func79, Try.ntmps79
  go_wp2_with (go_at_call 61; refine (HA.out _ ?_).mono ?_; exact (((Below.refl _ _).alloc (Nat.le_refl _) _).alloc (by simp) _).alloc (by simp; omega) _; rintro e w' ⟨rfl, rfl⟩)
  go_ret2
  refine ⟨rfl, ?_⟩
  exact ((((Below.refl _ _).alloc (Nat.le_refl _) _).alloc (by simp) _).alloc (by simp; omega) _).alloc (by simp; omega) _

theorem three_below {w : World} (a b c : Obj) : Below w.heap.size w (((w.alloc a).alloc b).alloc c) := (((Below.refl _ _).alloc (Nat.le_refl _) _).alloc (by simp) _).alloc (by simp; omega) _
theorem four_below {w : World} (a b c d : Obj) : Below w.heap.size w ((((w.alloc a).alloc b).alloc c).alloc d) := (three_below a b c).alloc (by simp; omega) _

set_option maxRecDepth 100000 in
set_option maxHeartbeats 1000000 in
theorem make_e2 {w : World} {p b : Nat} {i : Int} {s : ByteArray} {isDir : Bool} (ha : ∀ W, Below w.heap.size w W → Calls Try.prog 61 #[.pointer (some ⟨p, 0, none⟩), .int .i64 i, .bool true] W fun e w' => e = .returned (.tuple #[.pointer (some ⟨b, 0, none⟩), .int .i64 0]) ∧ W = w')
    (hm : mayB s = false) : Calls Try.prog 79 #[.pointer (some ⟨p, 0, none⟩), .int .i64 i, .string s, .bool isDir] w fun e w' => e = .returned (.tuple #[.int .i64 0, .int .i64 7]) ∧ Below w.heap.size w w' := by
  have HA := Lib.hid ha
  have hy : ∀ W, Calls Try.prog 92 #[.string s] W fun e w' => e = .returned (.bool false) ∧ W = w' := fun W => by rw [← hm]; exact may_any s W
  have HM := Lib.hid hy
  clear ha hy hm
  go_enter Try.func79, Try.ntmps79
  go_wp2_with (first | (go_at_call 61; refine (HA.out _ ?_).mono ?_; exact three_below _ _ _; rintro e w' ⟨rfl, rfl⟩) | (go_at_call 92; refine (HM.out _).mono ?_; rintro e w' ⟨rfl, rfl⟩))
  go_ret2
  exact ⟨rfl, four_below _ _ _ _⟩

/-- the boxes of make's variables -/
structure Boxes (w W : World) (p b : Nat) (s : ByteArray) (isDir : Bool) : Prop where
  below : Below w.heap.size w W
  b0 : Blk W w.heap.size [ptr p]
  b1 : Blk W (w.heap.size + 1) [.string s]
  b2 : Blk W (w.heap.size + 1 + 1) [.bool isDir]
  b3 : Blk W (w.heap.size + 1 + 1 + 1) [ptr b]

theorem boxes_made (w : World) (p b : Nat) (s : ByteArray) (isDir : Bool) (T0 T1 T2 T3 : TypeId) :
    Boxes w ((((w.alloc (.cells #[.pointer (some ⟨p, 0, none⟩)] T0)).alloc (.cells #[.string s] T1)).alloc (.cells #[.bool isDir] T2)).alloc (.cells #[.pointer (some ⟨b, 0, none⟩)] T3)) p b s isDir := by
  refine ⟨four_below _ _ _ _, ?_, ?_, ?_, ?_⟩
  · exact (((Blk.made w _ T0).of_block (Below.heap_alloc _ _ _ (by simp))).of_block (Below.heap_alloc _ _ _ (by first | (simp; done) | (simp; omega)))).of_block (Below.heap_alloc _ _ _ (by first | (simp; done) | (simp; omega)))
  · have := Blk.made (w.alloc (.cells #[.pointer (some ⟨p, 0, none⟩)] T0)) #[.string s] T1
    simp only [World.size_alloc] at this
    exact (this.of_block (Below.heap_alloc _ _ _ (by simp))).of_block (Below.heap_alloc _ _ _ (by first | (simp; done) | (simp; omega)))
  · have := Blk.made ((w.alloc (.cells #[.pointer (some ⟨p, 0, none⟩)] T0)).alloc (.cells #[.string s] T1)) #[.bool isDir] T2
    simp only [World.size_alloc] at this
    exact this.of_block (Below.heap_alloc _ _ _ (by simp))
  · have := Blk.made (((w.alloc (.cells #[.pointer (some ⟨p, 0, none⟩)] T0)).alloc (.cells #[.string s] T1)).alloc (.cells #[.bool isDir] T2)) #[.pointer (some ⟨b, 0, none⟩)] T3
    simp only [World.size_alloc] at this
    exact this

/-- what make has found when it comes to look the name up -/
structure MkPre (w : World) (p b : Nat) (i : Int) (s : ByteArray) (has : Bool) : Prop where
  of : ∀ W, Below w.heap.size w W → Calls Try.prog 61 #[.pointer (some ⟨p, 0, none⟩), .int .i64 i, .bool true] W fun e w' => e = .returned (.tuple #[.pointer (some ⟨b, 0, none⟩), .int .i64 0]) ∧ W = w'
  may : ∀ W, Calls Try.prog 92 #[.string s] W fun e w' => e = .returned (.bool true) ∧ W = w'
  look : ∃ m, w.cell? ⟨b, 4, none⟩ = some (.map (some m)) ∧ b < w.heap.size ∧ ∃ v, ∀ W, Below w.heap.size w W → (Instr.lookup 101 (.map (some m)) (.string s) true).run Try.prog W = .ok (.tuple #[v, .bool has]) W

set_option maxRecDepth 100000 in
set_option maxHeartbeats 1000000 in
theorem make_e3 {w : World} {p b : Nat} {i : Int} {s : ByteArray} {isDir : Bool} (h : MkPre w p b i s true) :
    Calls Try.prog 79 #[.pointer (some ⟨p, 0, none⟩), .int .i64 i, .string s, .bool isDir] w fun e w' => e = .returned (.tuple #[.int .i64 0, .int .i64 9]) ∧ Below w.heap.size w w' := by
  obtain ⟨ha, hy, m, c4, hbl, v, hlk⟩ := h
  have HA := Lib.hid ha
  have HM := Lib.hid hy
  have HL := Lib.hid hlk
  clear ha hy hlk
  go_enter Try.func79, Try.ntmps79
  go_wp2_with (first | (go_at_call 61; refine (HA.out _ ?_).mono ?_; exact three_below _ _ _; rintro e w' ⟨rfl, rfl⟩) | (go_at_call 92; refine (HM.out _).mono ?_; rintro e w' ⟨rfl, rfl⟩))
  have hB := boxes_made w p b s isDir 26 9 4 98
  generalize (((w.alloc (.cells #[.pointer (some ⟨p, 0, none⟩)] 26)).alloc (.cells #[.string s] 9)).alloc (.cells #[.bool isDir] 4)).alloc (.cells #[.pointer (some ⟨b, 0, none⟩)] 98) = W4 at *
  have hl := HL.out W4.drew hB.below.drew
  have q4 := (hB.below.cell (p := ⟨b, 4, none⟩) hbl).trans c4
  have q1 : W4.cell? ⟨w.heap.size + 1, 0, none⟩ = some (.string s) := hB.b1.cell 0
  have q3 : W4.cell? ⟨w.heap.size + 1 + 1 + 1, 0, none⟩ = some (.pointer (some ⟨b, 0, none⟩)) := hB.b3.cell 0
  have HBB := Lib.hid hB
  clear hB
  go_region
  all_goals
    go_wp2
    go_ret2
    exact ⟨rfl, HBB.out.below.drew⟩

set_option maxRecDepth 100000 in
set_option maxHeartbeats 1000000 in
theorem make_e4 {w : World} {p b n : Nat} {i : Int} {s : ByteArray} {isDir : Bool} (h : MkPre w p b i s false) {a : Option Addr} {c : Nat} (c0 : w.cell? ⟨p, 0, none⟩ = some (.slice a n c)) (hp : p < w.heap.size) (hn : 4096 ≤ n) :
    Calls Try.prog 79 #[.pointer (some ⟨p, 0, none⟩), .int .i64 i, .string s, .bool isDir] w fun e w' => e = .returned (.tuple #[.int .i64 0, .int .i64 11]) ∧ Below w.heap.size w w' := by
  obtain ⟨ha, hy, m, c4, hbl, v, hlk⟩ := h
  have HA := Lib.hid ha
  have HM := Lib.hid hy
  have HL := Lib.hid hlk
  clear ha hy hlk
  go_enter Try.func79, Try.ntmps79
  go_wp2_with (first | (go_at_call 61; refine (HA.out _ ?_).mono ?_; exact three_below _ _ _; rintro e w' ⟨rfl, rfl⟩) | (go_at_call 92; refine (HM.out _).mono ?_; rintro e w' ⟨rfl, rfl⟩))
  have hB := boxes_made w p b s isDir 26 9 4 98
  generalize (((w.alloc (.cells #[.pointer (some ⟨p, 0, none⟩)] 26)).alloc (.cells #[.string s] 9)).alloc (.cells #[.bool isDir] 4)).alloc (.cells #[.pointer (some ⟨b, 0, none⟩)] 98) = W4 at *
  have hl := HL.out W4.drew hB.below.drew
  have q4 := (hB.below.cell (p := ⟨b, 4, none⟩) hbl).trans c4
  have qp := (hB.below.cell (p := ⟨p, 0, none⟩) hp).trans c0
  have q0 : W4.cell? ⟨w.heap.size, 0, none⟩ = some (.pointer (some ⟨p, 0, none⟩)) := hB.b0.cell 0
  have q1 : W4.cell? ⟨w.heap.size + 1, 0, none⟩ = some (.string s) := hB.b1.cell 0
  have q3 : W4.cell? ⟨w.heap.size + 1 + 1 + 1, 0, none⟩ = some (.pointer (some ⟨b, 0, none⟩)) := hB.b3.cell 0
  have HBB := Lib.hid hB
  clear hB c4 c0
  go_region
  all_goals
    go_wp2
    go_ret2
    exact ⟨rfl, HBB.out.below.drew⟩

/-- what full's own question leaves, in whatever world -/
structure MkNext (w : World) (p : Nat) (r : Bool) (R : World → World → Prop) : Prop where
  next : ∀ W, Below w.heap.size w W → Calls Try.prog 85 #[.pointer (some ⟨p, 8, none⟩)] W fun e w' => e = .returned (.bool r) ∧ R W w' ∧ Keeps W w' (fun k => k = p)

set_option maxRecDepth 100000 in
set_option maxHeartbeats 1000000 in
theorem make_e5 {w : World} {p b n : Nat} {i : Int} {s : ByteArray} {isDir : Bool} (h : MkPre w p b i s false) {a : Option Addr} {c : Nat} (c0 : w.cell? ⟨p, 0, none⟩ = some (.slice a n c)) (hp : p < w.heap.size) (hn : n < 4096)
    {R : World → World → Prop} (hx : MkNext w p true R) :
    Calls Try.prog 79 #[.pointer (some ⟨p, 0, none⟩), .int .i64 i, .string s, .bool isDir] w fun e w' => e = .returned (.tuple #[.int .i64 0, .int .i64 11]) ∧ ∃ W, Below w.heap.size w W ∧ R W w' ∧ Keeps W w' (fun k => k = p) := by
  obtain ⟨ha, hy, m, c4, hbl, v, hlk⟩ := h
  have HA := Lib.hid ha
  have HM := Lib.hid hy
  have HL := Lib.hid hlk
  have HX := Lib.hid hx
  clear ha hy hlk hx
  go_enter Try.func79, Try.ntmps79
  go_wp2_with (first | (go_at_call 61; refine (HA.out _ ?_).mono ?_; exact three_below _ _ _; rintro e w' ⟨rfl, rfl⟩) | (go_at_call 92; refine (HM.out _).mono ?_; rintro e w' ⟨rfl, rfl⟩))
  have hB := boxes_made w p b s isDir 26 9 4 98
  generalize (((w.alloc (.cells #[.pointer (some ⟨p, 0, none⟩)] 26)).alloc (.cells #[.string s] 9)).alloc (.cells #[.bool isDir] 4)).alloc (.cells #[.pointer (some ⟨b, 0, none⟩)] 98) = W4 at *
  have hl := HL.out W4.drew hB.below.drew
  have q4 := (hB.below.cell (p := ⟨b, 4, none⟩) hbl).trans c4
  have qp := (hB.below.cell (p := ⟨p, 0, none⟩) hp).trans c0
  have q0 : W4.cell? ⟨w.heap.size, 0, none⟩ = some (.pointer (some ⟨p, 0, none⟩)) := hB.b0.cell 0
  have q1 : W4.cell? ⟨w.heap.size + 1, 0, none⟩ = some (.string s) := hB.b1.cell 0
  have q3 : W4.cell? ⟨w.heap.size + 1 + 1 + 1, 0, none⟩ = some (.pointer (some ⟨b, 0, none⟩)) := hB.b3.cell 0
  have HBB := Lib.hid hB
  clear hB c4 c0
  go_region
  all_goals
    go_wp2_with (go_at_call 85; refine (HX.out.next _ HBB.out.below.drew).mono ?_; rintro e w' ⟨rfl, hR⟩; have HR := Lib.hid hR; clear hR)
    go_ret2
    exact ⟨rfl, _, HBB.out.below.drew, HR.out⟩

set_option maxRecDepth 100000 in
set_option maxHeartbeats 1000000 in
theorem make_e6 {w : World} {p b n : Nat} {i : Int} {s : ByteArray} {isDir : Bool} (h : MkPre w p b i s false) {a : Option Addr} {c : Nat} (c0 : w.cell? ⟨p, 0, none⟩ = some (.slice a n c)) (hp : p < w.heap.size) (hn : n < 4096)
    {R : World → World → Prop} (hx : MkNext w p false R) {x y : Int} {F : World → Prop}
    (ho : ∀ W W2, Boxes w W p b s isDir → R W W2 → Keeps W W2 (fun k => k = p) → Calls Try.prog 86 #[.pointer (some ⟨p, 0, none⟩), .bool true, .func (.func 115) #[] #[.pointer (some ⟨w.heap.size, 0, none⟩), .pointer (some ⟨w.heap.size + 1 + 1, 0, none⟩), .pointer (some ⟨W2.heap.size, 0, none⟩), .pointer (some ⟨w.heap.size + 1 + 1 + 1, 0, none⟩), .pointer (some ⟨w.heap.size + 1, 0, none⟩)]]
      (W2.alloc (.cells #[.int .i64 0] 3)) fun e w' => e = .returned (.int .i64 y) ∧ (y = 0 → w'.cell? ⟨W2.heap.size, 0, none⟩ = some (.int .i64 x)) ∧ F w') :
    Calls Try.prog 79 #[.pointer (some ⟨p, 0, none⟩), .int .i64 i, .string s, .bool isDir] w fun e w' => e = .returned (.tuple #[.int .i64 (if y = 0 then x else 0), .int .i64 y]) ∧ F w' := by
  obtain ⟨ha, hy, m, c4, hbl, v, hlk⟩ := h
  have HA := Lib.hid ha
  have HM := Lib.hid hy
  have HL := Lib.hid hlk
  have HX := Lib.hid hx
  have HO := Lib.hid ho
  clear ha hy hlk hx ho
  by_cases hy0 : y = 0
  · subst hy0
    rw [if_pos rfl]
    go_enter Try.func79, Try.ntmps79
    go_wp2_with (first | (go_at_call 61; refine (HA.out _ ?_).mono ?_; exact three_below _ _ _; rintro e w' ⟨rfl, rfl⟩) | (go_at_call 92; refine (HM.out _).mono ?_; rintro e w' ⟨rfl, rfl⟩))
    have hB := boxes_made w p b s isDir 26 9 4 98
    generalize (((w.alloc (.cells #[.pointer (some ⟨p, 0, none⟩)] 26)).alloc (.cells #[.string s] 9)).alloc (.cells #[.bool isDir] 4)).alloc (.cells #[.pointer (some ⟨b, 0, none⟩)] 98) = W4 at *
    have hl := HL.out W4.drew hB.below.drew
    have q4 := (hB.below.cell (p := ⟨b, 4, none⟩) hbl).trans c4
    have qp := (hB.below.cell (p := ⟨p, 0, none⟩) hp).trans c0
    have q0 : W4.cell? ⟨w.heap.size, 0, none⟩ = some (.pointer (some ⟨p, 0, none⟩)) := hB.b0.cell 0
    have q1 : W4.cell? ⟨w.heap.size + 1, 0, none⟩ = some (.string s) := hB.b1.cell 0
    have q3 : W4.cell? ⟨w.heap.size + 1 + 1 + 1, 0, none⟩ = some (.pointer (some ⟨b, 0, none⟩)) := hB.b3.cell 0
    have hB' : Boxes w W4.drew p b s isDir := ⟨hB.below.drew, hB.b0, hB.b1, hB.b2, hB.b3⟩
    have HBB := Lib.hid hB'
    clear hB hB' c4 c0
    go_region
    all_goals
      go_wp2_with (first | (go_at_call 85; (refine (HX.out.next _ HBB.out.below).mono ?_; rintro e w2 ⟨rfl, hR, hk⟩; have r0 : w2.cell? ⟨w.heap.size, 0, none⟩ = some (.pointer (some ⟨p, 0, none⟩)) := (hk.blk HBB.out.b0 (by omega)).cell 0; have r0l := (hk.blk HBB.out.b0 (by omega)).lt; have HOO := Lib.hid (HO.out _ _ HBB.out hR hk); clear hR hk)) | (go_at_call 86; (refine (HOO.out).mono ?_; rintro e w3 ⟨rfl, hx3, hF⟩; have x3 := hx3 (by first | exact rfl | exact trivial); have HF := Lib.hid hF; clear hF hx3)))
      go_ret2
      exact ⟨rfl, HF.out⟩
  · rw [if_neg hy0]
    have hne : (y != 0) = true := by simpa using hy0
    go_enter Try.func79, Try.ntmps79
    go_wp2_with (first | (go_at_call 61; refine (HA.out _ ?_).mono ?_; exact three_below _ _ _; rintro e w' ⟨rfl, rfl⟩) | (go_at_call 92; refine (HM.out _).mono ?_; rintro e w' ⟨rfl, rfl⟩))
    have hB := boxes_made w p b s isDir 26 9 4 98
    generalize (((w.alloc (.cells #[.pointer (some ⟨p, 0, none⟩)] 26)).alloc (.cells #[.string s] 9)).alloc (.cells #[.bool isDir] 4)).alloc (.cells #[.pointer (some ⟨b, 0, none⟩)] 98) = W4 at *
    have hl := HL.out W4.drew hB.below.drew
    have q4 := (hB.below.cell (p := ⟨b, 4, none⟩) hbl).trans c4
    have qp := (hB.below.cell (p := ⟨p, 0, none⟩) hp).trans c0
    have q0 : W4.cell? ⟨w.heap.size, 0, none⟩ = some (.pointer (some ⟨p, 0, none⟩)) := hB.b0.cell 0
    have q1 : W4.cell? ⟨w.heap.size + 1, 0, none⟩ = some (.string s) := hB.b1.cell 0
    have q3 : W4.cell? ⟨w.heap.size + 1 + 1 + 1, 0, none⟩ = some (.pointer (some ⟨b, 0, none⟩)) := hB.b3.cell 0
    have hB' : Boxes w W4.drew p b s isDir := ⟨hB.below.drew, hB.b0, hB.b1, hB.b2, hB.b3⟩
    have HBB := Lib.hid hB'
    clear hB hB' c4 c0 hy0
    go_region
    all_goals
      go_wp2_with (first | (go_at_call 85; (refine (HX.out.next _ HBB.out.below).mono ?_; rintro e w2 ⟨rfl, hR, hk⟩; have r0 : w2.cell? ⟨w.heap.size, 0, none⟩ = some (.pointer (some ⟨p, 0, none⟩)) := (hk.blk HBB.out.b0 (by omega)).cell 0; have r0l := (hk.blk HBB.out.b0 (by omega)).lt; have HOO := Lib.hid (HO.out _ _ HBB.out hR hk); clear hR hk)) | (go_at_call 86; refine (HOO.out).mono ?_; rintro e w3 ⟨rfl, hx3, hF⟩; have HF := Lib.hid hF; clear hF hx3))
      go_ret2
      exact ⟨rfl, HF.out⟩

theorem DF.drew {w : World} {p : Nat} {S : DS} {P : Nat → Prop} {vn : Value} {nb : Nat → Nat} {t : Nat → Nat} (h : DF w p S P vn nb t) : DF w.drew p S P vn nb t :=
  ⟨h.blk, h.tp, h.row, h.vnT, fun i hi => (h.nodes i hi).same (fun _ _ _ => rfl), h.inP, h.lt, h.len⟩

theorem Boxes.notP {w W : World} {p b : Nat} {s : ByteArray} {isDir : Bool} (_ : Boxes w W p b s isDir) {P : Nat → Prop} (hP : ∀ k, P k → k < w.heap.size) : ¬ P w.heap.size ∧ ¬ P (w.heap.size + 1) ∧ ¬ P (w.heap.size + 1 + 1) ∧ ¬ P (w.heap.size + 1 + 1 + 1) :=
  ⟨fun h => by have := hP _ h; omega, fun h => by have := hP _ h; omega, fun h => by have := hP _ h; omega, fun h => by have := hP _ h; omega⟩

/-- Mkdir and Create -/
theorem make_any {w : World} {p : Nat} {S : DS} {P : Nat → Prop} (hd : DAt w p S P) (hsm : DSmall S) (hll : ∀ k < S.nodes.length, (S.nd k).loose.length ≤ 1000000) (i : Int) (s : ByteArray) (isDir : Bool) :
    Calls Try.prog 79 #[ptr p, .int .i64 i, .string s, .bool isDir] w fun e w' => e = .returned (.tuple #[.int .i64 (S.make i s isDir).2.1, .int .i64 (S.make i s isDir).2.2]) ∧
      Keeps w w' P ∧ ∃ P2, DAt w' p (S.make i s isDir).1 P2 ∧ ∀ k, P2 k → grow P w w' k := by
  obtain ⟨vn, nb, t, h⟩ := hd
  have plt := h.plt
  have stay : ∀ w', Below w.heap.size w w' → Keeps w w' P ∧ ∃ P2, DAt w' p S P2 ∧ ∀ k, P2 k → grow P w w' k := fun w' hb => ⟨Keeps.of_below hb P, P, ⟨vn, nb, t, h.below hb⟩, fun k hk => .inl hk⟩
  have hof : ∀ W, Below w.heap.size w W → _ := fun W hW => of_any (h.below hW) i true
  by_cases h0 : ofErr S i true = 0
  · obtain ⟨hdn, k, rfl, hk, hdir⟩ := ofErr_zero h0
    have e3 : ((k : Int) + 1 - 1).toNat = k := by omega
    have e2 : ofPtr S nb ((k : Int) + 1) true = ptr (nb k) := by unfold ofPtr; rw [if_pos h0, e3]
    rw [e2, h0] at hof
    by_cases hm : mayB s = false
    · have er : S.make ((k : Int) + 1) s isDir = (S, 0, 7) := by unfold DS.make; rw [if_neg (by simpa using h0), if_pos hm]
      rw [er]
      refine (make_e2 (fun W hW => hof W hW) hm).mono ?_
      rintro e w' ⟨rfl, hb⟩
      exact ⟨rfl, stay w' hb⟩
    · have hm' : mayB s = true := by simpa using hm
      have hn := h.nodes k hk
      rw [← S.nd_at hk] at hn
      obtain ⟨mb, c4, hmap, _⟩ := hn.dirMap hdir
      have pre : MkPre w p (nb k) ((k : Int) + 1) s (ehas (S.nd k).seen.ents s) :=
        ⟨fun W hW => hof W hW, fun W => by rw [← hm']; exact may_any s W, mb, c4, hn.lt, _, fun W hW => run_lookup_map tMap tStr (zInt W) (hmap.of_block (hW.block mb hmap.lt)) s⟩
      obtain ⟨a, n, c, hv, hnl⟩ : ∃ a n c, vn = .slice a n c ∧ n = S.nodes.length := by
        rcases h.row.shape with ⟨e, h0⟩ | ⟨g, cap, e, _⟩
        · exact ⟨_, _, _, e, h0.symm⟩
        · exact ⟨_, _, _, e, rfl⟩
      subst hnl
      have c0 : w.cell? ⟨p, 0, none⟩ = some (.slice a S.nodes.length c) := by rw [← hv]; exact h.blk.cell 0
      cases hh : ehas (S.nd k).seen.ents s with
      | true =>
        have er : S.make ((k : Int) + 1) s isDir = (S, 0, 9) := by unfold DS.make; rw [if_neg (by simpa using h0), if_neg hm, e3, if_pos hh]
        rw [er]
        rw [hh] at pre
        refine (make_e3 pre).mono ?_
        rintro e w' ⟨rfl, hb⟩
        exact ⟨rfl, stay w' hb⟩
      | false =>
        rw [hh] at pre
        by_cases hl : 4096 ≤ S.nodes.length
        · have er : S.make ((k : Int) + 1) s isDir = (S, 0, 11) := by unfold DS.make; rw [if_neg (by simpa using h0), if_neg hm, e3, if_neg (by simp [hh]), if_pos hl]
          rw [er]
          refine (make_e4 pre c0 plt hl).mono ?_
          rintro e w' ⟨rfl, hb⟩
          exact ⟨rfl, stay w' hb⟩
        · have nx : ∀ W, Below w.heap.size w W → Calls Try.prog 85 #[.pointer (some ⟨p, 8, none⟩)] W fun e w' => e = .returned (.bool (fired S.fullIs S.fullAfter)) ∧ DF w' p S.fulled P vn nb t ∧ Keeps W w' (fun k => k = p) := fun W hW => by
            refine (next_walk (o := 8) (h.below hW).blk rfl rfl hsm.fu).mono ?_
            rintro e w' ⟨rfl, hk, hb⟩
            exact ⟨rfl, (h.below hW).reset hk hb rfl, hk⟩
          cases hf : fired S.fullIs S.fullAfter with
          | true =>
            have er : S.make ((k : Int) + 1) s isDir = (S.fulled, 0, 11) := by unfold DS.make; rw [if_neg (by simpa using h0), if_neg hm, e3, if_neg (by simp [hh]), if_neg hl, if_pos hf]
            rw [er]
            refine (make_e5 (R := fun _ w' => DF w' p S.fulled P vn nb t) pre c0 plt (by omega) ⟨fun W hW => by rw [← hf]; exact nx W hW⟩).mono ?_
            rintro e w' ⟨rfl, W, hW, hdf, hk⟩
            exact ⟨rfl, (Keeps.of_below hW P).trans hk (fun x _ q => by rw [q]; exact h.pP), P, ⟨vn, nb, t, hdf⟩, fun k hk => .inl hk⟩
          | false =>
            have hl' : S.nodes.length < 4096 := by omega
            have er : S.make ((k : Int) + 1) s isDir = (if S.runs then S.fulled.after ((S.fulled.ticked true).linked k s isDir) else { S.fulled.ticked true with down := true }, if S.fires then 0 else (S.nodes.length : Int) + 1, if S.fires then 12 else 0) := by
              unfold DS.make; rw [if_neg (by simpa using h0), if_neg hm, e3, if_neg (by simp [hh]), if_neg hl, if_neg (by simp [hf])]
            rw [er]
            have hsm' : DSmall S.fulled := ⟨hsm.ops0, hsm.ops, hsm.ch0, hsm.ch, hsm.fa, by
              have := hsm.fu
              show tAfter S.fullIs S.fullAfter ≤ _
              unfold tAfter
              split <;> omega⟩
            refine (make_e6 (R := fun _ w' => DF w' p S.fulled P vn nb t) (y := if S.fires then 12 else 0) (x := (S.nodes.length : Int) + 1)
              (F := fun w' => Keeps w w' P ∧ ∃ P2, DAt w' p (if S.runs then S.fulled.after ((S.fulled.ticked true).linked k s isDir) else { S.fulled.ticked true with down := true }) P2 ∧ ∀ y, P2 y → grow P w w' y)
              pre c0 plt hl' ⟨fun W hW => by rw [← hf]; exact nx W hW⟩ (fun W W2 hB hdf hk2 => ?_)).mono ?_
            · have hPl : ∀ x, P x → x < w.heap.size := h.lt
              obtain ⟨m0, m1, m2, m3⟩ := hB.notP hPl
              have s1 := hB.below.size
              have s2 := hk2.size
              have pne : ∀ b, w.heap.size ≤ b → b ≠ p := fun b hb e => by omega
              have al : ∀ {b : Nat} {cs : List Value}, w.heap.size ≤ b → Blk W b cs → Blk (W2.alloc (.cells #[.int .i64 0] 3)) b cs := fun hb hbl =>
                (hk2.blk hbl (pne _ hb)).of_block (Below.heap_alloc _ _ _ (hk2.blk hbl (pne _ hb)).lt)
              have hdf' : DF (W2.alloc (.cells #[.int .i64 0] 3)) p S.fulled P vn nb t := hdf.below ((Below.refl _ _).alloc (Nat.le_refl _) _)
              have l3 := hB.b3.lt
              refine (make_op hdf' hsm' (k := k) hk hdir hl' (hll k hk) (isDir := isDir) (al (by omega) hB.b0) (al (by omega) hB.b2) (Blk.made W2 #[.int .i64 0] 3) (al (by omega) hB.b3) (al (by omega) hB.b1) m0 m2 (fun hp => by have := hPl _ hp; omega) m3 m1 (by omega) (by omega)).mono ?_
              rintro e w' ⟨rfl, hx, hkp, P2, hd2, hg⟩
              have s3 := hkp.size
              simp only [World.size_alloc] at s3
              refine ⟨rfl, fun hy => hx ?_, ?_, P2, hd2, fun y hy => ?_⟩
              · show S.fires = false
                cases hfi : S.fires with
                | false => rfl
                | true => rw [hfi] at hy; simp at hy
              · refine (((Keeps.of_below hB.below P).trans hk2 (fun x _ q => by rw [q]; exact h.pP)).alloc _).trans hkp (fun x hx q => ?_)
                rcases q with q | q
                · exact q
                · omega
              · rcases hg y hy with (h1 | h1) | h1
                · exact .inl h1
                · exact .inr ⟨by have := h1.1; simp only [World.size_alloc] at this; omega, h1.2⟩
                · exact .inr ⟨by omega, by omega⟩
            · rintro e w' ⟨rfl, hF⟩
              refine ⟨?_, hF⟩
              cases hfi : S.fires <;> simp
  · have e2 : ofPtr S nb i true = .pointer none := by unfold ofPtr; rw [if_neg h0]
    have er : S.make i s isDir = (S, 0, ofErr S i true) := by unfold DS.make; rw [if_pos h0]
    rw [er]
    rw [e2] at hof
    refine (make_e1 (fun W hW => hof W hW) (by simpa using h0)).mono ?_
    rintro e w' ⟨rfl, hb⟩
    exact ⟨rfl, stay w' hb⟩

end Go.Proofs.Ytagjmphmdgklkaa

/- Walks: Create, Mkdir, Sync. -/
namespace Go.Proofs.Ytagjmphmdgklkaa
open Go.RowKit

/-- what a call of the disk leaves: S2 in memory, all else as it was -/
def Leaves (w w' : World) (p : Nat) (S2 : DS) (P : Nat → Prop) : Prop := Keeps w w' P ∧ ∃ P2, DAt w' p S2 P2 ∧ ∀ k, P2 k → grow P w w' k

theorem Leaves.below {w w' : World} {p : Nat} {S : DS} {P : Nat → Prop} (h : DAt w p S P) (hb : Below w.heap.size w w') : Leaves w w' p S P := ⟨Keeps.of_below hb P, P, h.below hb, fun _ hk => .inl hk⟩
theorem Leaves.refl {w : World} {p : Nat} {S : DS} {P : Nat → Prop} (h : DAt w p S P) : Leaves w w p S P := Leaves.below h (Below.refl _ _)
theorem Leaves.pre {w w1 w2 : World} {p : Nat} {S2 : DS} {P : Nat → Prop} (hb : Below w.heap.size w w1) (h : Leaves w1 w2 p S2 P) : Leaves w w2 p S2 P := by
  obtain ⟨hk, P2, hd, hg⟩ := h
  have := hb.size
  refine ⟨(Keeps.of_below hb P).trans hk (fun _ _ q => q), P2, hd, fun k hk => ?_⟩
  rcases hg k hk with h1 | h1
  · exact .inl h1
  · exact .inr ⟨by have := h1.1; omega, h1.2⟩

set_option maxRecDepth 100000 in
set_option maxHeartbeats 400000 in
theorem create_any {w : World} {p : Nat} {S : DS} {P : Nat → Prop} (hd : DAt w p S P) (hsm : DSmall S) (hll : ∀ k < S.nodes.length, (S.nd k).loose.length ≤ 1000000) (i : Int) (s : ByteArray) :
    Calls Try.prog 36 #[ptr p, .int .i64 i, .string s] w fun e w' => e = .returned (.tuple #[.int .i64 (S.make i s false).2.1, .int .i64 (S.make i s false).2.2]) ∧ Leaves w w' p (S.make i s false).1 P := by
  have hm := make_any hd hsm hll i s false
  have HM := Lib.hid hm
  clear hm hd hsm hll
  unfold ptr at *
  generalize S.make i s false = r at *
  go_enter Try.func36, Try.ntmps36
  go_wp2_with (go_at_call 79; refine HM.out.mono ?_; rintro e w' ⟨rfl, hl⟩; have HL := Lib.hid hl; clear hl)
  go_ret2
  exact ⟨rfl, HL.out⟩

set_option maxRecDepth 100000 in
set_option maxHeartbeats 400000 in
theorem mkdir_any {w : World} {p : Nat} {S : DS} {P : Nat → Prop} (hd : DAt w p S P) (hsm : DSmall S) (hll : ∀ k < S.nodes.length, (S.nd k).loose.length ≤ 1000000) (i : Int) (s : ByteArray) :
    Calls Try.prog 47 #[ptr p, .int .i64 i, .string s] w fun e w' => e = .returned (.tuple #[.int .i64 (S.make i s true).2.1, .int .i64 (S.make i s true).2.2]) ∧ Leaves w w' p (S.make i s true).1 P := by
  have hm := make_any hd hsm hll i s true
  have HM := Lib.hid hm
  clear hm hd hsm hll
  unfold ptr at *
  generalize S.make i s true = r at *
  go_enter Try.func47, Try.ntmps47
  go_wp2_with (go_at_call 79; refine HM.out.mono ?_; rintro e w' ⟨rfl, hl⟩; have HL := Lib.hid hl; clear hl)
  go_ret2
  exact ⟨rfl, HL.out⟩

def Nd.synced (N : Nd) : Nd := { N with safe := N.seen, loose := [] }
def DS.synced (S : DS) (k : Nat) : DS := { S with nodes := S.nodes.set k (S.nd k).synced }
/-- an op's outcome: its work is S2 -/
def DS.opped (S : DS) (change : Bool) (work : DS → DS) : DS × Int :=
  (if S.runs then S.after (work (S.ticked change)) else { S.ticked change with down := true }, if S.fires then 12 else 0)
def DS.sync (S : DS) (i : Int) : DS × Int := if anyErr S i = 0 then S.opped false (fun T => T.synced (i - 1).toNat) else (S, anyErr S i)

/-- op_any in short, for work that lays all that it needs by itself -/
theorem op_work {w : World} {p : Nat} {S : DS} {P : Nat → Prop} {vn : Value} {nb : Nat → Nat} {t : Nat → Nat} (h : DF w p S P vn nb t) (hs : DSmall S) (change : Bool) {g : Nat} {first caps : Array Value} (eg : Enter g) (work : DS → DS) {E : Nat → Prop}
    (hdo : ∀ w1, Keeps w w1 (fun k => k = p) → DF w1 p (S.ticked change) P vn nb t → Calls Try.prog g (first ++ #[] ++ caps) w1 fun e w2 => e = .returned (.tuple #[]) ∧ Keeps w1 w2 P ∧ ∃ P2, DAt w2 p (work (S.ticked change)) P2 ∧ ∀ k, P2 k → grow P w1 w2 k ∨ E k) :
    Calls Try.prog 86 #[ptr p, .bool change, .func (.func g) first caps] w fun e w' => e = .returned (.int .i64 (S.opped change work).2) ∧ Keeps w w' (fun k => P k ∨ E k) ∧ ∃ P2, DAt w' p (S.opped change work).1 P2 ∧ ∀ k, P2 k → grow P w w' k ∨ E k := by
  refine (op_any h hs change eg (S2 := work (S.ticked change)) (E := E) (X := fun _ => True) (fun _ _ _ _ => trivial) (fun _ w1 hk hdf => (hdo w1 hk hdf).mono ?_)).mono ?_
  · rintro e w2 ⟨rfl, hk2, hr⟩
    exact ⟨rfl, trivial, hk2.mono (fun _ q => .inl q), hr⟩
  · rintro e w' ⟨rfl, hk, h1, h2⟩
    refine ⟨rfl, hk, ?_⟩
    cases hr : S.runs with
    | true =>
      obtain ⟨_, P2, hd, hg⟩ := h1 hr
      exact ⟨P2, by simpa [DS.opped, hr] using hd, hg⟩
    | false => exact ⟨P, by simpa [DS.opped, hr] using h2 hr, fun k hk => .inl (.inl hk)⟩

theorem op_work0 {w : World} {p : Nat} {S : DS} {P : Nat → Prop} {vn : Value} {nb : Nat → Nat} {t : Nat → Nat} (h : DF w p S P vn nb t) (hs : DSmall S) (change : Bool) {g : Nat} {first caps : Array Value} (eg : Enter g) (work : DS → DS)
    (hdo : ∀ w1, Keeps w w1 (fun k => k = p) → DF w1 p (S.ticked change) P vn nb t → Calls Try.prog g (first ++ #[] ++ caps) w1 fun e w2 => e = .returned (.tuple #[]) ∧ Leaves w1 w2 p (work (S.ticked change)) P) :
    Calls Try.prog 86 #[ptr p, .bool change, .func (.func g) first caps] w fun e w' => e = .returned (.int .i64 (S.opped change work).2) ∧ Leaves w w' p (S.opped change work).1 P := by
  refine (op_work h hs change eg work (E := fun _ => False) (fun w1 hk hdf => (hdo w1 hk hdf).mono ?_)).mono ?_
  · rintro e w2 ⟨rfl, hk2, P2, hd, hg⟩
    exact ⟨rfl, hk2, P2, hd, fun k hk => .inl (hg k hk)⟩
  · rintro e w' ⟨rfl, hk, P2, hd, hg⟩
    exact ⟨rfl, hk.mono (fun x q => q.resolve_right (fun f => f)), P2, hd, fun k hk => (hg k hk).resolve_right (fun f => f)⟩

set_option maxRecDepth 100000 in
set_option maxHeartbeats 400000 in
theorem sync_op_any {w : World} {p : Nat} {S : DS} {P : Nat → Prop} (hd : DAt w p S P) (hsm : DSmall S) (hb : ∀ k < S.nodes.length, (S.nd k).seen.bytes.length ≤ 140737488355328) (i : Int) :
    Calls Try.prog 40 #[ptr p, .int .i64 i] w fun e w' => e = .returned (.int .i64 (S.sync i).2) ∧ Leaves w w' p (S.sync i).1 P := by
  obtain ⟨vn, nb, t, h⟩ := hd
  have ha := any_base h.base i
  unfold ptr at ha ⊢
  by_cases h0 : anyErr S i = 0
  · obtain ⟨hdn, k, rfl, hk⟩ := anyErr_zero h0
    have e3 : ((k : Int) + 1 - 1).toNat = k := by omega
    rw [(any_ok (nb := nb) hdn hk).1, (any_ok (nb := nb) hdn hk).2] at ha
    have er : S.sync ((k : Int) + 1) = S.opped false (fun T => T.synced k) := by unfold DS.sync; rw [if_pos h0, e3]
    rw [er]
    have ho := op_work0 h hsm false (g := 91) (first := #[ptr (nb k)]) (caps := #[]) (enters_of Try.func91 (by kernel_rfl) rfl) (fun T => T.synced k) (fun w1 hk1 hdf => by
      have hn := hdf.nodes k hk
      have e4 : (S.ticked false).nodes[k] = S.nd k := by rw [S.nd_at hk]; rfl
      rw [e4] at hn
      refine (node_sync hn (hb k hk)).mono ?_
      rintro e w2 ⟨rfl, hN, hk2⟩
      have tP : ∀ x, t x = k + 3 → P x := fun x hx => hdf.inP x (by omega)
      have hset := hdf.setNode (i := k) hk (N' := (S.nd k).synced) (Qs := fun _ => False) hk2 (fun _ q => q.elim) (fun _ q => q.elim) (hN.mono (fun x q => .inl q))
      exact ⟨rfl, hk2.mono tP, _, ⟨_, _, _, hset⟩, fun x hx => hx.resolve_right (fun f => f)⟩)
    unfold ptr at ha ho
    generalize S.opped false (fun T => T.synced k) = r at *
    have HA := Lib.hid ha
    have HO := Lib.hid ho
    clear ha ho h hsm hb hdn hk e3 er h0
    go_enter Try.func40, Try.ntmps40
    go_wp2_with (first | (go_at_call 90; refine HA.out.mono ?_; rintro e w' ⟨rfl, rfl⟩) | (go_at_call 86; refine HO.out.mono ?_; rintro e w' ⟨rfl, hl⟩; have HL := Lib.hid hl; clear hl))
    go_ret
    exact ⟨rfl, HL.out⟩
  · have er : S.sync i = (S, anyErr S i) := by unfold DS.sync; rw [if_neg h0]
    rw [er]
    have e3 : anyPtr S nb i = .pointer none := by unfold anyPtr; rw [if_neg h0]
    rw [e3] at ha
    have hne : (anyErr S i != 0) = true := by simpa using h0
    have hd := Lib.hid (⟨vn, nb, t, h⟩ : DAt w p S P)
    generalize anyErr S i = a at *
    have HA := Lib.hid ha
    clear ha h hsm hb h0 er e3
    go_enter Try.func40, Try.ntmps40
    go_wp2_with (go_at_call 90; refine HA.out.mono ?_; rintro e w' ⟨rfl, rfl⟩)
    go_ret
    exact ⟨rfl, Leaves.refl hd.out⟩

end Go.Proofs.Ytagjmphmdgklkaa

/- Walks: a disk's crash. -/
namespace Go.Proofs.Ytagjmphmdgklkaa
open Go.RowKit

def Nd.crashed (N : Nd) (k : Int) : Nd := { N with safe := replay N.loose k N.safe, seen := replay N.loose k N.safe, loose := [] }

def crashAll : List Nd → List UInt8 → List Nd
  | [], _ => []
  | n :: r, keep => if 0 < sumParts n.loose ∧ 0 < keep.length then n.crashed (((keep.getD 0 0).toNat : Int) % ((sumParts n.loose : Int) + 1)) :: crashAll r (keep.drop 1) else n.crashed 0 :: crashAll r keep

def DS.crash (S : DS) (keep : List UInt8) : DS := { S with nodes := crashAll S.nodes keep, down := false, failIs := false, failAfter := 0, fullIs := false, fullAfter := 0 }

/-- bytes that are read, wherever they lie; P is what may be written meanwhile -/
structure KeepAt (w : World) (v : Value) (l : List UInt8) (P : Nat → Prop) : Prop where
  shape : ∃ a c, v = .slice a l.length c ∧ l.length ≤ c ∧ c ≤ maxLen ∧ ∀ j u, (bcells l)[j]? = some u → ∃ b o, a = some ⟨b, o, none⟩ ∧ w.cell? ⟨b, o + j, none⟩ = some u ∧ ¬ P b

theorem KeepAt.keep {w w' : World} {v : Value} {l : List UInt8} {P Q : Nat → Prop} (h : KeepAt w v l P) (hk : Keeps w w' Q) (hq : ∀ x, x < w.heap.size → Q x → P x) : KeepAt w' v l P := by
  obtain ⟨a, c, h1, h2, h3, h4⟩ := h.shape
  refine ⟨a, c, h1, h2, h3, fun j u hu => ?_⟩
  obtain ⟨b, o, e, hc, hp⟩ := h4 j u hu
  have hlt : b < w.heap.size := World.block_lt_of_cell? w _ hc
  exact ⟨b, o, e, (World.cell?_of_block (w := w) (hk.block b hlt (fun q => hp (hq b hlt q)))).trans hc, hp⟩

theorem KeepAt.below {w w' : World} {v : Value} {l : List UInt8} {P : Nat → Prop} (h : KeepAt w v l P) (hb : Below w.heap.size w w') : KeepAt w' v l P := h.keep (Keeps.of_below hb (fun _ => False)) (fun _ _ q => q.elim)

theorem run_tail (a : Option Addr) (n cap : Nat) (h1 : 1 ≤ n) (h2 : n ≤ cap) (W : World) :
    (Instr.slice 34 (.slice a n cap) (some (.int .i64 1)) none none).run Try.prog W = .ok (.slice (if cap = 1 then a else a.map (fun x => x.add 1)) (n - 1) (cap - 1)) W := by
  obtain ⟨i, hi', _, hs, _⟩ := info_parts infoU8
  have e1 : (0 : Int) ≤ 1 ∧ (1 : Int) ≤ (n : Int) := by omega
  simp [Instr.slice, run_underlying tBytes, Instr.sliceBounds, Instr.sliceBound, asIntOf, e1.2, h1, sizeOf, typeInfo, hi', hs, Result.andThen]

theorem KeepAt.tail {w : World} {a : Option Addr} {n c : Nat} {l : List UInt8} {P : Nat → Prop} (h : KeepAt w (.slice a n c) l P) (h0 : 0 < l.length) : KeepAt w (.slice (if c = 1 then a else a.map (fun x => x.add 1)) (n - 1) (c - 1)) (l.drop 1) P := by
  obtain ⟨a', c', e, h2, h3, h4⟩ := h.shape
  simp only [Value.slice.injEq] at e
  obtain ⟨rfl, rfl, rfl⟩ := e
  have e1 : (l.drop 1).length = l.length - 1 := by simp
  refine ⟨_, _, by rw [e1], by rw [e1]; omega, by omega, fun j u hu => ?_⟩
  have hj : (bcells l)[j + 1]? = some u := by rw [← hu]; simp [bcells, Nat.add_comm]
  obtain ⟨b, o, ea, hc, hp⟩ := h4 _ _ hj
  have hlen : j + 1 < l.length := by have := (List.getElem?_eq_some_iff.1 hj).1; simpa [bcells] using this
  refine ⟨b, o + 1, ?_, by rw [← hc]; congr 2; omega, hp⟩
  rw [if_neg (by omega), ea]
  rfl

/-- the state in the middle of a crash: j nodes are done -/
structure CrL (w wr : World) (p : Nat) (S : DS) (P : Nat → Prop) (vn : Value) (nb : Nat → Nat) (keep0 : List UInt8) (j : Nat) (keep : List UInt8) (kv : Value) : Prop where
  ex : ∃ L Pj tj, DF wr p { S with nodes := L } Pj vn nb tj ∧ (∀ k, Pj k → grow P w wr k) ∧ L.length = S.nodes.length ∧ (∀ m, j ≤ m → L[m]? = S.nodes[m]?) ∧ L.take j ++ crashAll (S.nodes.drop j) keep = crashAll S.nodes keep0
  keeps : Keeps w wr P
  kat : KeepAt wr kv keep (fun x => P x ∨ w.heap.size ≤ x)

theorem crashAll_drop {l : List Nd} {keep : List UInt8} {j : Nat} (h : j < l.length) :
    crashAll (l.drop j) keep = if 0 < sumParts l[j].loose ∧ 0 < keep.length then l[j].crashed (((keep.getD 0 0).toNat : Int) % ((sumParts l[j].loose : Int) + 1)) :: crashAll (l.drop (j + 1)) (keep.drop 1) else l[j].crashed 0 :: crashAll (l.drop (j + 1)) keep := by
  rw [List.drop_eq_getElem_cons h]
  rfl

/-- one node's turn -/
theorem CrL.turn {w wr : World} {p : Nat} {S : DS} {P : Nat → Prop} {vn : Value} {nb : Nat → Nat} {keep0 keep : List UInt8} {j : Nat} {kv : Value} (h : CrL w wr p S P vn nb keep0 j keep kv) (hj : j < S.nodes.length) (hok : NOK (S.nd j)) (k : Int) (hk0 : 0 ≤ k) (hk : k ≤ 4611686018427387904)
    (hbd : (replay (S.nd j).loose k (S.nd j).safe).bytes.length ≤ 140737488355328) {keep' : List UInt8} {kv' : Value} (hkv : KeepAt wr kv' keep' (fun x => P x ∨ w.heap.size ≤ x)) (hc : crashAll (S.nodes.drop j) keep = (S.nd j).crashed k :: crashAll (S.nodes.drop (j + 1)) keep') :
    Calls Try.prog 81 #[ptr (nb j), .int .i64 k] wr fun e w' => e = .returned (.tuple #[]) ∧ CrL w w' p S P vn nb keep0 (j + 1) keep' kv' := by
  obtain ⟨⟨L, Pj, tj, hdf, hPj, hlen, hL, hcr⟩, hkeeps, hkat⟩ := h
  have hjL : j < L.length := by omega
  have e1 : L[j] = S.nd j := by
    have := hL j (Nat.le_refl _)
    rw [List.getElem?_eq_getElem hjL, List.getElem?_eq_getElem hj] at this
    rw [S.nd_at hj]
    exact Option.some.inj this
  have hn := hdf.nodes j hjL
  have e2 : ({ S with nodes := L } : DS).nodes[j] = S.nd j := e1
  rw [e2] at hn
  have tP : ∀ x, tj x = j + 3 → Pj x := fun x hx => hdf.inP x (by omega)
  refine (node_crash hn (fun x hx => hdf.lt x (tP x hx)) hok k hk hk0 hbd).mono ?_
  rintro e w' ⟨rfl, hN, hk2⟩
  have hset := hdf.setNode (i := j) hjL (N' := (S.nd j).crashed k) (Qs := fun _ => False) hk2 (fun _ q => q.elim) (fun _ q => q.elim) (hN.mono (fun x q => .inl q))
  have s1 := hkeeps.size
  have s2 := hk2.size
  have tq : ∀ x, tj x = j + 3 → x < w.heap.size → P x := fun x hx hl => by
    rcases hPj x (tP x hx) with h1 | h1
    · exact h1
    · have := h1.1; omega
  refine ⟨rfl, ⟨L.set j ((S.nd j).crashed k), _, _, hset, fun x hx => ?_, by simp [hlen], fun m hm => ?_, ?_⟩, ?_, ?_⟩
  · rcases hx with (hx | hx) | hx
    · rcases hPj x hx with h1 | h1
      · exact .inl h1
      · exact .inr ⟨h1.1, by have := h1.2; omega⟩
    · exact .inr ⟨by have := hx.1; omega, hx.2⟩
    · exact hx.elim
  · rw [List.getElem?_set, if_neg (by omega)]
    exact hL m (by omega)
  · rw [hc] at hcr
    rw [← hcr, List.take_succ_eq_append_getElem (by simp; omega), List.getElem_set_self, List.take_set_of_le (Nat.le_refl _)]
    simp
  · exact hkeeps.trans hk2 (fun x hx q => tq x q hx)
  · refine hkv.keep hk2 (fun x hx q => ?_)
    rcases hPj x (tP x q) with h1 | h1
    · exact .inl h1
    · exact .inr h1.1

theorem CrL.below {w wr w1 : World} {p : Nat} {S : DS} {P : Nat → Prop} {vn : Value} {nb : Nat → Nat} {keep0 keep : List UInt8} {j : Nat} {kv : Value} (h : CrL w wr p S P vn nb keep0 j keep kv) (hb : Below wr.heap.size wr w1) : CrL w w1 p S P vn nb keep0 j keep kv := by
  obtain ⟨⟨L, Pj, tj, hdf, hPj, hlen, hL, hcr⟩, hkeeps, hkat⟩ := h
  refine ⟨⟨L, Pj, tj, hdf.below hb, fun k hk => ?_, hlen, hL, hcr⟩, hkeeps.trans (Keeps.of_below hb P) (fun _ _ q => q), hkat.below hb⟩
  rcases hPj k hk with h1 | h1
  · exact .inl h1
  · exact .inr ⟨h1.1, by have := hb.size; omega⟩

theorem CrL.parts {w wr : World} {p : Nat} {S : DS} {P : Nat → Prop} {vn : Value} {nb : Nat → Nat} {keep0 keep : List UInt8} {j : Nat} {kv : Value} (h : CrL w wr p S P vn nb keep0 j keep kv) (hj : j < S.nodes.length) (hok : NOK (S.nd j)) :
    wr.cell? ⟨p, 0, none⟩ = some vn ∧ (∀ g n c, vn = .slice (some ⟨g, 0, none⟩) n c → wr.cell? ⟨g, j, none⟩ = some (ptr (nb j))) ∧
    Calls Try.prog 80 #[ptr (nb j)] wr fun e w' => e = .returned (.int .i64 (sumParts (S.nd j).loose : Int)) ∧ CrL w w' p S P vn nb keep0 j keep kv := by
  have h' := h
  obtain ⟨⟨L, Pj, tj, hdf, hPj, hlen, hL, hcr⟩, hkeeps, hkat⟩ := h
  have hjL : j < L.length := by omega
  have e1 : L[j] = S.nd j := by
    have := hL j (Nat.le_refl _)
    rw [List.getElem?_eq_getElem hjL, List.getElem?_eq_getElem hj] at this
    rw [S.nd_at hj]
    exact Option.some.inj this
  have hn := hdf.nodes j hjL
  have e2 : ({ S with nodes := L } : DS).nodes[j] = S.nd j := e1
  rw [e2] at hn
  refine ⟨hdf.blk.cell 0, fun g n c e => ?_, ?_⟩
  · have hr := hdf.row
    subst e
    have e3 : n = L.length := by
      rcases hr.shape with ⟨e, _⟩ | ⟨_, _, e, _⟩
      · simp at e
      · simp at e; exact e.2.1
    subst e3
    rw [hr.cellAt j (by simpa using hjL)]
    exact ptrs_at hjL
  · obtain ⟨vsb, vsm, veb, vem, vl, f, t, h1, h2, h3, h4, h5, h6, h7, h8, h9, h10⟩ := hn
    refine (parts_walk h1 h7 (fun j hj => (h9 j hj).1.isFunc) hok.sum).mono ?_
    rintro e w' ⟨rfl, hb⟩
    exact ⟨rfl, h'.below hb⟩

theorem replay_len0 (l : List St) (c : Cont) : replay l 0 c = c := replay_zero _ _ _ (by omega)

def keep1 (n : Nat) (b : UInt8) : Int := (b.toNat : Int) % ((n : Int) + 1)

set_option maxRecDepth 100000 in
set_option maxHeartbeats 1000000 in
theorem crash_disk {w : World} {p : Nat} {S : DS} {P : Nat → Prop} (hd : DAt w p S P) (hok : ∀ k < S.nodes.length, NOK (S.nd k)) (hbd : ∀ k < S.nodes.length, ∀ q, (replay (S.nd k).loose q (S.nd k).safe).bytes.length ≤ 140737488355328)
    {kv : Value} {keep : List UInt8} (hkv : KeepAt w kv keep P) :
    Calls Try.prog 37 #[ptr p, kv] w fun e w' => e = .returned (.tuple #[]) ∧ Leaves w w' p (S.crash keep) P := by
  obtain ⟨vn, nb, t, h⟩ := hd
  have hpP := h.pP
  have hplt := h.plt
  obtain ⟨a, n, cap, hv, hn, hcap⟩ : ∃ a n cap, vn = .slice a n cap ∧ n = S.nodes.length ∧ n ≤ maxLen := by
    have := h.len
    rcases h.row.shape with ⟨e, h0⟩ | ⟨g, cap, e, h1, h2, _⟩
    · exact ⟨_, _, _, e, h0.symm, by unfold maxLen; omega⟩
    · exact ⟨_, _, _, e, rfl, by omega⟩
  subst hv
  subst hn
  have c0 : w.cell? ⟨p, 0, none⟩ = some (.slice a S.nodes.length cap) := h.blk.cell 0
  have hI : Hid (CrL w w p S P (.slice a S.nodes.length cap) nb keep 0 keep kv) := ⟨⟨S.nodes, P, t, h, fun k hk => .inl hk, rfl, fun m _ => rfl, by simp⟩, Keeps.refl _ _, by
    obtain ⟨a, c, h1, h2, h3, h4⟩ := hkv.shape
    refine ⟨a, c, h1, h2, h3, fun j u hu => ?_⟩
    obtain ⟨b, o, e, hc, hp⟩ := h4 j u hu
    exact ⟨b, o, e, hc, fun q => by
      rcases q with q | q
      · exact hp q
      · have := World.block_lt_of_cell? w _ hc; simp at this; omega⟩⟩
  have HOK := Lib.hid hok
  have HBD := Lib.hid hbd
  have hlen := h.len
  have HROW := Lib.hid h
  obtain ⟨ka, kc, rfl, _, _, _⟩ := hkv.shape
  unfold maxLen at hcap
  clear hok hbd hkv h
  unfold ptr
  go_enter Try.func37, Try.ntmps37
  go_wp2
  go_loopw [1, 15] (fun kv i wr => ∃ (j : Nat) (kp : List UInt8), j ≤ S.nodes.length ∧ i = .int .i64 j ∧ CrL w wr p S P (.slice a S.nodes.length cap) nb keep j kp kv) (fun _ i _ => S.nodes.length - (intOf i).toNat)
  case atStart => exact ⟨0, keep, Nat.zero_le _, rfl, hI.out⟩
  case round =>
    obtain ⟨j, kp, hj, rfl, hC⟩ := hrel
    by_cases hlt : j < S.nodes.length
    · obtain ⟨q0, q1, hpc⟩ := hC.parts hlt (HOK.out j hlt)
      obtain ⟨g, rfl⟩ : ∃ g, a = some ⟨g, 0, none⟩ := by
        rcases HROW.out.row.shape with ⟨e, h0⟩ | ⟨g, c2, e, _⟩
        · omega
        · exact ⟨g, by simpa using (Value.slice.inj e).1⟩
      have q2 := q1 g _ _ rfl
      have hsum := (HOK.out j hlt).sum
      obtain ⟨ka2, kc2, rfl, hk1, hk2, hk3⟩ := hC.kat.shape
      have HPC := Lib.hid hpc
      have HK3 := Lib.hid hk3
      unfold ptr at q2
      unfold maxLen at hk2
      clear q1 hpc hC hk3
      by_cases hall : 0 < sumParts (S.nd j).loose
      · by_cases hkp : 0 < kp.length
        · obtain ⟨x, xs, rfl⟩ : ∃ x xs, kp = x :: xs := by cases kp with | nil => simp at hkp | cons x xs => exact ⟨x, xs, rfl⟩
          obtain ⟨kb, ko, hka, _, _⟩ := HK3.out 0 (bcell x) rfl
          subst hka
          have hx0 : (0 : Int) ≤ (x.toNat : Int) := by omega
          have hx1 : (x.toNat : Int) ≤ 255 := by have := x.toNat_lt; omega
          have hcr : Hid (crashAll (S.nodes.drop j) (x :: xs) = (S.nd j).crashed ((x.toNat : Int) % ((sumParts (S.nd j).loose : Int) + 1)) :: crashAll (S.nodes.drop (j + 1)) xs) := by
            rw [S.nd_at hlt] at hall ⊢; show _ = _; rw [crashAll_drop hlt, if_pos ⟨hall, hkp⟩]; rfl
          have hm0 : 0 ≤ (x.toNat : Int) % ((sumParts (S.nd j).loose : Int) + 1) := Int.emod_nonneg _ (by omega)
          have hm1 : (x.toNat : Int) % ((sumParts (S.nd j).loose : Int) + 1) ≤ 255 := by
            have e1 : (x.toNat : Int) % ((sumParts (S.nd j).loose : Int) + 1) = ((x.toNat % (sumParts (S.nd j).loose + 1) : Nat) : Int) := by simp
            have := Nat.mod_le x.toNat (sumParts (S.nd j).loose + 1)
            omega
          have hsl : ∀ W, (Instr.slice 34 (.slice (some ⟨kb, ko, none⟩) (xs.length + 1) kc2) (some (.int .i64 1)) none none).run Try.prog W = .ok (.slice (if kc2 = 1 then (some ⟨kb, ko, none⟩ : Option Addr) else (some ⟨kb, ko, none⟩ : Option Addr).map (fun a => a.add 1)) xs.length (kc2 - 1)) W :=
            fun W => run_tail (some ⟨kb, ko, none⟩) (x :: xs).length kc2 hkp hk1 W
          generalize hav : (if kc2 = 1 then (some ⟨kb, ko, none⟩ : Option Addr) else (some ⟨kb, ko, none⟩ : Option Addr).map (fun a => a.add 1)) = av at hsl
          have HAV := Lib.hid hav
          clear hav
          go_wp2_with (go_at_call 80; refine HPC.out.mono ?_; rintro e w1 ⟨rfl, hC1⟩; have HC1 := Lib.hid hC1; clear hC1)
          have qx : w1.cell? ⟨kb, ko, none⟩ = some (.int .u8 (x.toNat : Int)) := by
            obtain ⟨a3, c3, e3, _, _, h4⟩ := HC1.out.kat.shape
            obtain ⟨b3, o3, e4, hc, _⟩ := h4 0 (bcell x) rfl
            have e5 := (Value.slice.inj e3).1
            rw [e4] at e5
            simp at e5
            obtain ⟨rfl, rfl⟩ := e5
            simpa [bcell] using hc
          have hkt : Hid (KeepAt w1 (.slice av xs.length (kc2 - 1)) xs (fun x => P x ∨ w.heap.size ≤ x)) := by
            have := HC1.out.kat.tail hkp
            rw [HAV.out] at this
            show KeepAt w1 (.slice av xs.length (kc2 - 1)) xs (fun x => P x ∨ w.heap.size ≤ x)
            simpa using this
          go_region
          all_goals
            go_wp2_with (go_at_call 81; refine ((HC1.out.below (w1 := w1.drew) (Below.refl _ _).drew).turn hlt (HOK.out j hlt) _ hm0 (by omega) (HBD.out j hlt _) (hkt.out.below (Below.refl _ _).drew) hcr.out).mono ?_; rintro e w2 ⟨rfl, hC2⟩; have HC2 := Lib.hid hC2; clear hC2)
            go_roundw
            case rel => exact ⟨j + 1, xs, by omega, by go_num, HC2.out⟩
            case measure => simp [intOf]; omega
        · have hcr : Hid (crashAll (S.nodes.drop j) kp = (S.nd j).crashed 0 :: crashAll (S.nodes.drop (j + 1)) kp) := by
            rw [S.nd_at hlt]; show _ = _; rw [crashAll_drop hlt, if_neg (fun e => hkp e.2)]
          go_wp2_with (first | (go_at_call 80; refine HPC.out.mono ?_; rintro e w1 ⟨rfl, hC1⟩; have HC1 := Lib.hid hC1; clear hC1) | (go_at_call 81; refine (HC1.out.turn hlt (HOK.out j hlt) 0 (by omega) (by omega) (HBD.out j hlt 0) HC1.out.kat hcr.out).mono ?_; rintro e w2 ⟨rfl, hC2⟩; have HC2 := Lib.hid hC2; clear hC2))
          go_roundw
          case rel => exact ⟨j + 1, kp, by omega, by go_num, HC2.out⟩
          case measure => simp [intOf]; omega
      · have hcr : Hid (crashAll (S.nodes.drop j) kp = (S.nd j).crashed 0 :: crashAll (S.nodes.drop (j + 1)) kp) := by
          rw [S.nd_at hlt] at hall ⊢; show _ = _; rw [crashAll_drop hlt, if_neg (fun e => hall e.1)]
        go_wp2_with (first | (go_at_call 80; refine HPC.out.mono ?_; rintro e w1 ⟨rfl, hC1⟩; have HC1 := Lib.hid hC1; clear hC1) | (go_at_call 81; refine (HC1.out.turn hlt (HOK.out j hlt) 0 (by omega) (by omega) (HBD.out j hlt 0) HC1.out.kat hcr.out).mono ?_; rintro e w2 ⟨rfl, hC2⟩; have HC2 := Lib.hid hC2; clear hC2))
        go_roundw
        case rel => exact ⟨j + 1, kp, by omega, by go_num, HC2.out⟩
        case measure => simp [intOf]; omega
    · obtain ⟨⟨L, Pj, tj, hdf, hPj, hlenL, hL, hcr⟩, hkeeps, hkat⟩ := hC
      obtain ⟨ka2, kc2, rfl, _, _, _⟩ := hkat.shape
      have eL : L = crashAll S.nodes keep := by
        rw [← hcr, List.drop_eq_nil_of_le (by omega), List.take_of_length_le (by omega)]
        simp [crashAll]
      have c4 := hdf.blk.cell 4
      have c6 := hdf.blk.cell 6
      have c7 := hdf.blk.cell 7
      have c8 := hdf.blk.cell 8
      have c9 := hdf.blk.cell 9
      have f4 := hdf.blk.frozen 4
      have f6 := hdf.blk.frozen 6
      have f7 := hdf.blk.frozen 7
      have f8 := hdf.blk.frozen 8
      have f9 := hdf.blk.frozen 9
      simp only [dcells, List.getElem?_cons_succ, List.getElem?_cons_zero] at c4 c6 c7 c8 c9
      have HD := Lib.hid hdf
      have HK := Lib.hid hkeeps
      have HP := Lib.hid hPj
      have HE := Lib.hid eL
      clear hdf hPj hlenL hL hcr hkeeps hkat eL
      have hsz := HK.out.size
      go_wp2
      go_end0
      have hp0 : p < w.heap.size := hplt
      refine ⟨rfl, (((((HK.out.setCell (.inr hpP) _).setCell (.inr hpP) _).setCell (.inr hpP) _).setCell (.inr hpP) _).setCell (.inr hpP) _), Pj, ⟨_, nb, tj, HD.out.reset (S' := S.crash keep)
        (((((keeps_cell _ p _ _).setCell (.inr rfl) _).setCell (.inr rfl) _).setCell (.inr rfl) _).setCell (.inr rfl) _) (((((HD.out.blk.set 4 (.bool false)).set 6 (.bool false)).set 7 (.int .i64 0)).set 8 (.bool false)).set 9 (.int .i64 0)) HE.out.symm⟩, fun k hk => ?_⟩
      rcases HP.out k hk with h1 | h1
      · exact .inl h1
      · exact .inr ⟨h1.1, by simpa [World.setCell] using h1.2⟩

end Go.Proofs.Ytagjmphmdgklkaa
