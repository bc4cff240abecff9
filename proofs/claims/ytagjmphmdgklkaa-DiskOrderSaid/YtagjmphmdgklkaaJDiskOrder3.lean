/- Parts of the proof, one behind the other: Dinv3 Dtotal Dawake Down Dawake2 Dlaws Dord Dord2 Dord3 Post. -/
import Derived.Test.YtagjmphmdgklkaaJDiskOrder2
import Derived.Lib.SlBytesConst
import Derived.Lib.SlBytesRow
import Derived.Lib.BufferRead
import Derived.Test.YtagjmphmdgklkaaRows
import Derived.ProofKit
import Derived.OpenShut
import Derived.Below
import Derived.ChangeSame
/- What is always so of a disk stays so with every call (plain). -/
namespace Go.Proofs.Ytagjmphmdgklkaa
open Go.RowKit

section
variable {S : DS} {W B : Nat}

theorem Inv.linked (h : Inv S W B) {k : Nat} (hk : k < S.nodes.length) (hdir : (S.nd k).dir = true) (s : ByteArray) (d : Bool) : Inv (S.linked k s d) W (B + 2) := by
  obtain ⟨hg, par, hN, hpar⟩ := h.grown d k hk
  have hl := h.leads
  have el : (S.grown d).nodes.length = S.nodes.length + 1 := by simp [DS.grown]
  have ek : (S.grown d).nd k = S.nd k := grown_nd hk d
  have hk' : k < (S.grown d).nodes.length := by rw [el]; omega
  have hks := hN k (by omega)
  rw [ek] at hks
  have he : EOK par (S.nodes.length + 1) k ((St.link s (S.nodes.length + 1)).act 1 (S.nd k).seen).ents :=
    hks.seenE.eset s ⟨by omega, Nat.le_refl _, hpar⟩ (fun hm => by
      obtain ⟨e, he, hi⟩ := List.mem_map.1 hm
      have := (hl k hk e he).2
      omega)
  have hst := hks.step (s := .link s (S.nodes.length + 1)) (by rw [hdir]; rfl) trivial (by simp [St.parts]) he
  have el2 : (S.linked k s d).nodes.length = S.nodes.length + 1 := by simp [DS.linked, DS.step, DS.grown]
  have hnd : ∀ j, (S.linked k s d).nd j = if j = k then (S.nd k).step (.link s (S.nodes.length + 1)) else (S.grown d).nd j := fun j => by
    unfold DS.linked DS.step
    rw [ek]
    exact nd_set (S := S.grown d) hk' _ j
  obtain ⟨_, h1, h2, h3, h4, h5, h6, h7, h8, h9, h10, h11⟩ := hg
  refine ⟨⟨par, fun j hj => ?_⟩, by rw [el2]; omega, by rw [el2]; rw [el] at h2; omega, ?_, h4, by show S.ops ≤ _; have : S.ops ≤ ((B + 1 : Nat) : Int) := h5; omega, h6, by show S.changes ≤ _; have : S.changes ≤ ((B + 1 : Nat) : Int) := h7; omega, h8, h9, h10, h11⟩
  · rw [el2] at hj ⊢
    rw [hnd]
    split
    · rename_i e; subst e
      exact hst.mono (Nat.le_refl _) (fun _ _ => rfl) (by simp [appSum]) (by omega)
    · exact (hN j hj).mono (Nat.le_refl _) (fun _ _ => rfl) (Nat.le_refl _) (by omega)
  · rw [hnd]
    split
    · exact hdir
    · exact h3

theorem Inv.after {S T : DS} (h : Inv T W B) : Inv (S.after T) W B := by
  unfold DS.after
  split
  · exact h.downed true
  · exact h

theorem Inv.opped (h : Inv S W B) (c : Bool) {work : DS → DS} {W' B' : Nat} (hW : W ≤ W') (hB : B + 1 ≤ B') (hw : Inv (S.ticked c) W (B + 1) → Inv (work (S.ticked c)) W' B') : Inv (S.opped c work).1 W' B' := by
  unfold DS.opped
  simp only
  split
  · exact (hw (h.ticked c)).after
  · exact ((h.ticked c).mono hW hB).downed true

theorem Inv.make (h : Inv S W B) (i : Int) (s : ByteArray) (d : Bool) : Inv (S.make i s d).1 W (B + 3) := by
  have h3 := h.mono (Nat.le_refl W) (show B ≤ B + 3 by omega)
  unfold DS.make
  split
  · exact h3
  · rename_i h0
    have h0' : ofErr S i true = 0 := by simpa using h0
    obtain ⟨hdn, k, rfl, hk, hdir⟩ := ofErr_zero h0'
    have e3 : ((k : Int) + 1 - 1).toNat = k := by omega
    rw [e3]
    split
    · exact h3
    split
    · exact h3
    split
    · exact h3
    split
    · exact h3.fulled
    · split
      · exact ((h.fulled.ticked true).linked (k := k) hk hdir s d).after
      · exact ((h.fulled.ticked true).mono (Nat.le_refl _) (by omega)).downed true

theorem Inv.cut (h : Inv S W B) (i n : Int) : Inv (S.cut i n).1 W (B + 2) := by
  have h3 := h.mono (Nat.le_refl W) (show B ≤ B + 2 by omega)
  unfold DS.cut
  split
  · exact h3
  · rename_i h0
    have h0' : ofErr S i false = 0 := by simpa using h0
    obtain ⟨hdn, k, rfl, hk, hdir⟩ := ofErr_zero h0'
    have e3 : ((k : Int) + 1 - 1).toNat = k := by omega
    rw [e3]
    split
    · exact h3
    · rename_i hb
      exact h.opped true (Nat.le_refl _) (by omega) (fun ht => (ht.step (k := k) (s := .cut n.toNat) hk (by show St.fits (S.nd k).dir _ = true; rw [hdir]; rfl) (show n.toNat ≤ (S.nd k).seen.bytes.length by omega) (by simp [St.parts]) (fun par he => he)))

theorem Inv.append (h : Inv S W B) (i : Int) (l : List UInt8) (hW : W + l.length ≤ 1000000) : Inv (S.append i l).1 (W + l.length) (B + 2) := by
  have h3 := h.mono (show W ≤ W + l.length by omega) (show B ≤ B + 2 by omega)
  unfold DS.append
  split
  · exact h3
  · rename_i h0
    have h0' : ofErr S i false = 0 := by simpa using h0
    obtain ⟨hdn, k, rfl, hk, hdir⟩ := ofErr_zero h0'
    have e3 : ((k : Int) + 1 - 1).toNat = k := by omega
    rw [e3]
    split
    · exact h3
    split
    · exact h3.fulled
    · split
      · refine Inv.after ?_
        unfold DS.appended
        split
        · exact (h.fulled.ticked true).mono (by omega) (by omega)
        · rename_i hl
          have hpos : 0 < l.length := by cases l with
            | nil => exact absurd rfl hl
            | cons x t => simp
          have hb := h.bytes k hk
          exact ((h.fulled.ticked true).step (k := k) (s := .app l) hk (by show St.fits (S.nd k).dir _ = true; rw [hdir]; rfl) (show (S.nd k).seen.bytes.length + l.length ≤ 140737488355328 by omega) hpos (fun par he => he)).mono (by simp [appSum]) (Nat.le_refl _)
      · exact ((h.fulled.ticked true).mono (by omega) (by omega)).downed true

theorem Inv.unlink (h : Inv S W B) (i : Int) (s : ByteArray) : Inv (S.unlink i s).1 W (B + 2) := by
  have h3 := h.mono (Nat.le_refl W) (show B ≤ B + 2 by omega)
  unfold DS.unlink
  split
  · exact h3
  · rename_i h0
    have h0' : findErr S i s = 0 := by simpa using h0
    obtain ⟨h1, _⟩ := findErr_zero h0'
    obtain ⟨hdn, k, rfl, hk, hdir⟩ := ofErr_zero h1
    have e3 : ((k : Int) + 1 - 1).toNat = k := by omega
    split
    · exact h3
    · rw [e3]
      exact h.opped true (Nat.le_refl _) (by omega) (fun ht => (ht.step (k := k) (s := .unl s) hk (by show St.fits (S.nd k).dir _ = true; rw [hdir]; rfl) trivial (by simp [St.parts]) (fun par he => he.edel s)))

theorem Inv.rename (h : Inv S W B) (i : Int) (s u : ByteArray) : Inv (S.rename i s u).1 W (B + 2) := by
  have h3 := h.mono (Nat.le_refl W) (show B ≤ B + 2 by omega)
  unfold DS.rename
  split
  · exact h3
  · rename_i h0
    have h0' : ofErr S i true = 0 := by simpa using h0
    split
    · exact h3
    split
    · exact h3
    · rename_i h2
      have hfe : findErr S i s = 0 := by unfold findErr; rw [if_pos h0']; simpa using h2
      obtain ⟨_, n, hmem, hv⟩ := findErr_zero hfe
      obtain ⟨hdn, k, rfl, hk, hdir⟩ := ofErr_zero h0'
      have e3 : ((k : Int) + 1 - 1).toNat = k := by omega
      rw [e3] at hmem ⊢
      split
      · exact h3
      split
      · exact h3
      · rw [hv]
        exact h.opped true (Nat.le_refl _) (by omega) (fun ht => (ht.step (k := k) (s := .ren s u n) hk (by show St.fits (S.nd k).dir _ = true; rw [hdir]; rfl) trivial (by simp [St.parts]) (fun par he => he.ren hmem u)))

theorem Inv.sync (h : Inv S W B) (i : Int) : Inv (S.sync i).1 W (B + 1) := by
  unfold DS.sync
  split
  · rename_i h0
    obtain ⟨hdn, k, rfl, hk⟩ := anyErr_zero h0
    have e3 : ((k : Int) + 1 - 1).toNat = k := by omega
    rw [e3]
    exact h.opped false (Nat.le_refl _) (Nat.le_refl _) (fun ht => ht.set (k := k) hk (Nat.le_refl _) (Nat.le_refl _) rfl (fun par hn => hn.synced))
  · exact h.mono (Nat.le_refl _) (by omega)

theorem Inv.fail (h : Inv S W B) (a : Int) (ha : a ≤ 9223372036854775807) (d : Bool) : Inv (S.fail a d).1 W B := by
  unfold DS.fail
  split
  · exact h
  split
  · exact h
  · exact h.same rfl h.ops0 h.ops h.ch0 h.ch ha h.fu rfl
theorem Inv.fullAt (h : Inv S W B) (a : Int) (ha : a ≤ 9223372036854775807) : Inv (S.fullAt a).1 W B := by
  unfold DS.fullAt
  split
  · exact h
  split
  · exact h
  · exact h.same rfl h.ops0 h.ops h.ch0 h.ch h.fa ha rfl

theorem crashAll_at (l : List Nd) (keep : List UInt8) : (crashAll l keep).length = l.length ∧ ∀ k (hk : k < l.length), ∃ q : Int, 0 ≤ q ∧ (crashAll l keep)[k]? = some (l[k].crashed q) := by
  induction l generalizing keep with
  | nil => exact ⟨rfl, fun k hk => by simp at hk⟩
  | cons n r ih =>
    unfold crashAll
    split
    · refine ⟨by simp [(ih _).1], fun k hk => ?_⟩
      cases k with
      | zero => exact ⟨((keep.getD 0 0).toNat : Int) % ((sumParts n.loose : Int) + 1), Int.emod_nonneg _ (by omega), rfl⟩
      | succ k => simpa using (ih (keep.drop 1)).2 k (by simpa using hk)
    · refine ⟨by simp [(ih _).1], fun k hk => ?_⟩
      cases k with
      | zero => exact ⟨0, Int.le_refl _, by simp⟩
      | succ k => simpa using (ih keep).2 k (by simpa using hk)

theorem Inv.crash (h : Inv S W B) (keep : List UInt8) : Inv (S.crash keep) W B := by
  obtain ⟨hl, hat⟩ := crashAll_at S.nodes keep
  obtain ⟨⟨par, hp⟩, h1, h2, h3, h4, h5, h6, h7, h8, h9, h10, h11⟩ := h
  have el : (S.crash keep).nodes.length = S.nodes.length := hl
  have en : ∀ k, k < S.nodes.length → ∃ q : Int, 0 ≤ q ∧ (S.crash keep).nd k = (S.nd k).crashed q := fun k hk => by
    obtain ⟨q, hq, e⟩ := hat k hk
    refine ⟨q, hq, ?_⟩
    rw [S.nd_at hk]
    unfold DS.nd
    rw [List.getD_eq_getElem?_getD]
    show ((crashAll S.nodes keep)[k]?).getD _ = _
    rw [e]; rfl
  refine ⟨⟨par, fun k hk => ?_⟩, by rw [el]; exact h1, by rw [el]; exact h2, ?_, h4, h5, h6, h7, by show (0 : Int) ≤ _; omega, by show (0 : Int) ≤ _; omega, h10, h11⟩
  · rw [el] at hk ⊢
    obtain ⟨q, hq, e⟩ := en k hk
    rw [e]
    exact (hp k hk).crashed q hq
  · obtain ⟨q, hq, e⟩ := en 0 (by omega)
    rw [e]; exact h3

theorem Inv.new (c : Int) (hc : c ≤ 9223372036854775807) : Inv (newDS c) 0 0 :=
  ⟨⟨fun _ => 0, fun k hk => by
      have : k = 0 := by simp [newDS] at hk; omega
      subst this
      exact NInv.new _ _ _ _ _ _⟩, by simp [newDS], by simp [newDS], rfl, by simp [newDS], by simp [newDS], by simp [newDS], by simp [newDS], by simp [newDS], by simp [newDS], by simp [newDS]; omega, by simp [newDS]; omega⟩
end

end Go.Proofs.Ytagjmphmdgklkaa

/- How much the files can have that entries lead to (plain). -/
namespace Go.Proofs.Ytagjmphmdgklkaa
open Go.RowKit

/-- the nodes that are visited, in an order -/
def vlist (S : DS) : Nat → Nat → List Nat
  | 0, _ => []
  | n + 1, d => (S.nd (d - 1)).seen.ents.flatMap fun e => e.2 :: if (S.nd (e.2 - 1)).dir then vlist S n e.2 else []

theorem rsum_vlist (S : DS) (i : Int) (lb : Nat) : ∀ n d, rsum S i lb n d = ((vlist S n d).map (vcost S i lb)).sum := by
  intro n
  induction n with
  | zero => intro d; rfl
  | succ n ih =>
    intro d
    rw [rsum_step]
    show _ = (((S.nd (d - 1)).seen.ents.flatMap fun e => e.2 :: if (S.nd (e.2 - 1)).dir then vlist S n e.2 else []).map (vcost S i lb)).sum
    induction (S.nd (d - 1)).seen.ents with
    | nil => rfl
    | cons e m ihm =>
      simp only [List.map_cons, List.sum_cons, List.flatMap_cons, List.map_append, List.sum_append]
      rw [ihm]
      congr 1
      unfold ecost
      congr 1
      split
      · exact ih e.2
      · rfl

section
variable {S : DS} {par : Nat → Nat}

theorem vlist_mem (H : ∀ k, k < S.nodes.length → EOK par S.nodes.length k (S.nd k).seen.ents) : ∀ n d, 1 ≤ d → d ≤ S.nodes.length → ∀ x ∈ vlist S n d, d < x ∧ x ≤ S.nodes.length ∧ par x + 1 < x := by
  intro n
  induction n with
  | zero => intro d _ _ x hx; simp [vlist] at hx
  | succ n ih =>
    intro d h1 h2 x hx
    obtain ⟨k, rfl⟩ : ∃ k, d = k + 1 := ⟨d - 1, by omega⟩
    obtain ⟨e, he, hx⟩ := List.mem_flatMap.1 hx
    have hk := (H k (by omega)).ok e (by simpa using he)
    rcases List.mem_cons.1 hx with rfl | hx
    · exact ⟨hk.1, hk.2.1, by rw [hk.2.2]; exact hk.1⟩
    · split at hx
      · have := ih e.2 (by omega) hk.2.1 x hx
        exact ⟨by omega, this.2.1, this.2.2⟩
      · simp at hx

theorem sum_zero {m : Ents} {f : ByteArray × Nat → Nat} (h : ∀ e ∈ m, f e = 0) : (m.map f).sum = 0 := by
  induction m with
  | nil => rfl
  | cons e m ih => rw [List.map_cons, List.sum_cons, h e (by simp), ih (fun y hy => h y (by simp [hy]))]

theorem nodup_len : ∀ (n : Nat) (l : List Nat), l.Nodup → (∀ x ∈ l, x < n) → l.length ≤ n := by
  intro n
  induction n with
  | zero =>
    intro l _ h
    cases l with
    | nil => simp
    | cons a l => have := h a (by simp); omega
  | succ n ih =>
    intro l hd h
    have h1 := ih (l.erase n) (hd.erase n) (fun x hx => by
      have hm := (hd.mem_erase_iff).1 hx
      have := h x hm.2
      have := hm.1
      omega)
    have h2 := List.length_erase (a := n) (l := l)
    split at h2 <;> omega

theorem count_vals {m : Ents} {k x : Nat} {L : Nat} (h : EOK par L k m) : (m.map fun e => if e.2 = x then 1 else 0).sum ≤ if par x = k then 1 else 0 := by
  have hv := h.vals
  have ho := h.ok
  clear h
  induction m with
  | nil => simp
  | cons e m ih =>
    rw [List.map_cons, List.nodup_cons] at hv
    have ih' := ih hv.2 (fun y hy => ho y (by simp [hy]))
    rw [List.map_cons, List.sum_cons]
    by_cases hx : e.2 = x
    · have hz : (m.map fun e => if e.2 = x then 1 else 0).sum = 0 := by
        have : ∀ y ∈ m, (if y.2 = x then 1 else 0) = 0 := fun y hy => if_neg (fun hh => hv.1 (List.mem_map.2 ⟨y, hy, by rw [hh, hx]⟩))
        exact sum_zero this
      have hp := (ho e (by simp)).2.2
      rw [hx] at hp
      rw [hz, if_pos hx, if_pos hp]; omega
    · rw [if_neg hx]; omega

theorem count_flat (m : Ents) (f : ByteArray × Nat → List Nat) (x : Nat) : (m.flatMap fun e => e.2 :: f e).count x = (m.map fun e => (if e.2 = x then 1 else 0) + (f e).count x).sum := by
  induction m with
  | nil => rfl
  | cons e m ih =>
    rw [List.flatMap_cons, List.count_append, ih, List.map_cons, List.sum_cons, List.count_cons]
    by_cases h : e.2 = x
    · simp [h]; omega
    · simp [h]

theorem sum_le_sum {m : Ents} {f g : ByteArray × Nat → Nat} (h : ∀ e ∈ m, f e ≤ g e) : (m.map f).sum ≤ (m.map g).sum := by
  induction m with
  | nil => simp
  | cons e m ih =>
    have h1 := h e (by simp)
    have h2 := ih (fun y hy => h y (by simp [hy]))
    simp only [List.map_cons, List.sum_cons]
    omega
theorem sum_add (m : Ents) (f g : ByteArray × Nat → Nat) : (m.map fun e => f e + g e).sum = (m.map f).sum + (m.map g).sum := by
  induction m with
  | nil => rfl
  | cons e m ih => simp only [List.map_cons, List.sum_cons, ih]; omega

theorem vlist_par (H : ∀ k, k < S.nodes.length → EOK par S.nodes.length k (S.nd k).seen.ents) (x : Nat) : ∀ n d, 1 ≤ d → d ≤ S.nodes.length → (vlist S n d).count x ≤ (if par x + 1 = d then 1 else 0) + (vlist S n d).count (par x + 1) := by
  intro n
  induction n with
  | zero => intro d _ _; simp [vlist]
  | succ n ih =>
    intro d h1 h2
    obtain ⟨k, rfl⟩ : ∃ k, d = k + 1 := ⟨d - 1, by omega⟩
    have hE := H k (by omega)
    show ((S.nd k).seen.ents.flatMap fun e => e.2 :: if (S.nd (e.2 - 1)).dir then vlist S n e.2 else []).count x ≤ _ + ((S.nd k).seen.ents.flatMap fun e => e.2 :: if (S.nd (e.2 - 1)).dir then vlist S n e.2 else []).count (par x + 1)
    rw [count_flat, count_flat, sum_add]
    have h3 := count_vals (x := x) hE
    have h4 : ((S.nd k).seen.ents.map fun e => (if (S.nd (e.2 - 1)).dir then vlist S n e.2 else []).count x).sum ≤ ((S.nd k).seen.ents.map fun e => (if e.2 = par x + 1 then 1 else 0) + (if (S.nd (e.2 - 1)).dir then vlist S n e.2 else []).count (par x + 1)).sum := by
      refine sum_le_sum fun e he => ?_
      have ho := hE.ok e he
      split
      · have := ih e.2 (by omega) ho.2.1
        have e1 : (if par x + 1 = e.2 then 1 else 0) = (if e.2 = par x + 1 then 1 else 0) := by
          by_cases h : e.2 = par x + 1
          · rw [if_pos h, if_pos h.symm]
          · rw [if_neg h, if_neg (fun q => h q.symm)]
        rw [e1] at this
        exact this
      · simp
    have e2 : (if par x = k then 1 else 0) = (if par x + 1 = k + 1 then 1 else 0) := by
      by_cases h : par x = k
      · rw [if_pos h, if_pos (by omega)]
      · rw [if_neg h, if_neg (by omega)]
    rw [e2] at h3
    omega

theorem vlist_once (H : ∀ k, k < S.nodes.length → EOK par S.nodes.length k (S.nd k).seen.ents) (n d : Nat) (h1 : 1 ≤ d) (h2 : d ≤ S.nodes.length) : ∀ x, (vlist S n d).count x ≤ 1 := by
  intro x
  induction x using Nat.strongRecOn with
  | _ x ih =>
    by_cases hx : x ∈ vlist S n d
    · have hm := vlist_mem H n d h1 h2 x hx
      have hp := vlist_par H x n d h1 h2
      by_cases hd : par x + 1 = d
      · have hz : (vlist S n d).count (par x + 1) = 0 := List.count_eq_zero.2 (fun hmem => by have := (vlist_mem H n d h1 h2 _ hmem).1; omega)
        rw [hz, if_pos hd] at hp
        exact hp
      · have := ih (par x + 1) hm.2.2
        rw [if_neg hd] at hp
        omega
    · rw [List.count_eq_zero.2 hx]; omega

theorem sum_nodup {l : List Nat} {f : Nat → Nat} {c L : Nat} (hd : l.Nodup) (hl : ∀ x ∈ l, x ≤ L) (hc : ∀ x ∈ l, f x ≤ c) : (l.map f).sum ≤ (L + 1) * c := by
  have h1 : l.length ≤ L + 1 := by
    exact nodup_len (L + 1) l hd (fun x hx => by have := hl x hx; omega)
  have h2 : (l.map f).sum ≤ l.length * c := by
    clear h1 hd hl
    induction l with
    | nil => simp
    | cons a l ih =>
      have h3 := hc a (by simp)
      have h4 := ih (fun x hx => hc x (by simp [hx]))
      simp only [List.map_cons, List.sum_cons, List.length_cons, Nat.add_mul, Nat.one_mul]
      omega
  exact Nat.le_trans h2 (Nat.mul_le_mul_right _ h1)

end

theorem Inv.total {S : DS} {W B : Nat} (h : Inv S W B) (hB : B ≤ 1000000) (hW : W ≤ 1000000) (i : Int) (lb : Nat) (hlb : lb ≤ 1000000) : S.total i lb + lb ≤ 4611686018427387904 := by
  obtain ⟨par, hp⟩ := h.nodes
  have H : ∀ k, k < S.nodes.length → EOK par S.nodes.length k (S.nd k).seen.ents := fun k hk => (hp k hk).seenE
  have h1 := h.one
  have h2 := h.few
  unfold DS.total
  rw [rsum_vlist]
  have hn : (vlist S S.nodes.length 1).Nodup := List.nodup_iff_count.2 (fun x => vlist_once H _ 1 (Nat.le_refl _) h1 x)
  have hs := sum_nodup (f := vcost S i lb) (c := W + lb) (L := S.nodes.length) hn (fun x hx => (vlist_mem H _ 1 (Nat.le_refl _) h1 x hx).2.1) (fun x hx => by
    have hm := vlist_mem H _ 1 (Nat.le_refl _) h1 x hx
    have := h.bytes (x - 1) (by omega)
    unfold vcost
    split <;> omega)
  have hle : (S.nodes.length + 1) * (W + lb) ≤ 1000002 * 2000000 := Nat.mul_le_mul (by omega) (by omega)
  omega

end Go.Proofs.Ytagjmphmdgklkaa

/- Walks: what every right program keeps of one file ('awake'). -/
namespace Go.Proofs.Ytagjmphmdgklkaa
open Go.RowKit

/-! the states that awake goes through -/
def aw0 : DS := newDS 100
def aw1 : DS := (aw0.make 1 ⟨#[97]⟩ false).1
def aw2 : DS := (aw1.append 2 [120, 121, 122]).1
def aw3 : DS := (aw2.sync 1).1
def aw4 : DS := aw3.crash [2]

theorem aw1_v : (aw0.make 1 ⟨#[97]⟩ false).2 = (2, 0) := by decide +kernel
theorem aw2_v : (aw1.append 2 [120, 121, 122]).2 = 0 := by decide +kernel
theorem aw3_v : (aw2.sync 1).2 = 0 := by decide +kernel
theorem aw3_l : aw3.loose = 3 := by decide +kernel
theorem aw4_r : readErr aw4 2 0 2 = 0 := by decide +kernel
theorem aw4_b : readVal aw4 2 0 2 = [120, 121] := by decide +kernel
theorem aw4_s : sizeOfFile aw4 2 = 2 := by decide +kernel
theorem aw4_o : aw4.ops = 3 := by decide +kernel
theorem aw4_c : aw4.changes = 2 := by decide +kernel

theorem aw0_i : Inv aw0 0 0 := Inv.new 100 (by omega)
theorem aw1_i : Inv aw1 0 3 := aw0_i.make _ _ _
theorem aw2_i : Inv aw2 3 5 := aw1_i.append 2 [120, 121, 122] (by simp)
theorem aw3_i : Inv aw3 3 6 := aw2_i.sync 1
theorem aw4_i : Inv aw4 3 6 := aw3_i.crash [2]

end Go.Proofs.Ytagjmphmdgklkaa

/- The calls on a disk that owns its blocks, in short. -/
namespace Go.Proofs.Ytagjmphmdgklkaa
open Go.RowKit

/-- a disk whose blocks are new since B -/
def Own (B : Nat) (w : World) (p : Nat) (S : DS) : Prop := B ≤ w.heap.size ∧ ∃ P, DAt w p S P ∧ ∀ k, P k → B ≤ k

theorem Own.of_leaves {B : Nat} {w w' : World} {p : Nat} {S2 : DS} {P : Nat → Prop} (hB : B ≤ w.heap.size) (hP : ∀ k, P k → B ≤ k) (h : Leaves w w' p S2 P) : Own B w' p S2 ∧ Below B w w' := by
  obtain ⟨hk, P2, hd, hg⟩ := h
  have hs := hk.size
  refine ⟨⟨by omega, P2, hd, fun k hk => ?_⟩, ⟨hk.os, hk.tape, hk.output, hk.size, fun k hlt => hk.block k (by omega) (fun q => by have := hP k q; omega)⟩⟩
  rcases hg k hk with h1 | h1
  · exact hP k h1
  · have := h1.1; omega

theorem Own.below {B : Nat} {w w' : World} {p : Nat} {S : DS} (h : Own B w p S) (hb : Below w.heap.size w w') : Own B w' p S ∧ Below B w w' := by
  obtain ⟨h1, P, hd, hP⟩ := h
  exact ⟨⟨by have := hb.size; omega, P, hd.below hb, hP⟩, hb.mono h1⟩

theorem own_new (c : Int) (B : Nat) (w : World) (hB : B ≤ w.heap.size) : Calls Try.prog 13 #[.int .i64 c] w fun e w' => ∃ p, e = .returned (ptr p) ∧ Own B w' p (newDS c) ∧ Below B w w' := by
  refine (disk_New c w).mono ?_
  rintro e w' ⟨p, rfl, hd, hb⟩
  exact ⟨p, rfl, ⟨by have := hb.size; omega, _, hd, fun k hk => by omega⟩, hb.mono hB⟩

section
variable {B : Nat} {w : World} {p : Nat} {S : DS} {W b : Nat}

theorem own_create (h : Own B w p S) (hi : Inv S W b) (hb : b ≤ 1000000) (i : Int) (s : ByteArray) :
    Calls Try.prog 36 #[ptr p, .int .i64 i, .string s] w fun e w' => e = .returned (.tuple #[.int .i64 (S.make i s false).2.1, .int .i64 (S.make i s false).2.2]) ∧ Own B w' p (S.make i s false).1 ∧ Below B w w' := by
  obtain ⟨hB, P, hd, hP⟩ := h
  refine (create_any hd (hi.small hb) (hi.loose hb) i s).mono ?_
  rintro e w' ⟨rfl, hl⟩
  exact ⟨rfl, Own.of_leaves hB hP hl⟩

theorem own_append {w0 : World} (h : Own B w0 p S) (hw : Below w0.heap.size w0 w) (hi : Inv S W b) (hb : b ≤ 1000000) (hW : W ≤ 1000000) (i : Int) {v : Value} {l : List UInt8} (hl : l.length ≤ 1000000) (hv : Src w v l (fun k => B ≤ k ∧ k < w0.heap.size)) :
    Calls Try.prog 39 #[ptr p, .int .i64 i, v] w fun e w' => e = .returned (.int .i64 (S.append i l).2) ∧ Own B w' p (S.append i l).1 ∧ Below B w w' := by
  obtain ⟨hB, P, hd, hP⟩ := h
  have hv' : Src w v l P := by
    rcases hv with hv | ⟨a, n, c, h1, h2, h3, h4, h5⟩
    · exact .inl hv
    · exact .inr ⟨a, n, c, h1, h2, h3, fun q => h4 ⟨hP _ q, hd.lt _ q⟩, h5⟩
  refine (append_any (hd.below hw) (hi.fine hb) i hv' (fun k hk => by have := hi.bytes k hk; omega) (hi.total hb hW i l.length hl)).mono ?_
  rintro e w' ⟨rfl, hl⟩
  exact ⟨rfl, Own.of_leaves (by have := hw.size; omega) hP hl⟩

theorem own_sync (h : Own B w p S) (hi : Inv S W b) (hb : b ≤ 1000000) (hW : W ≤ 1000000) (i : Int) :
    Calls Try.prog 40 #[ptr p, .int .i64 i] w fun e w' => e = .returned (.int .i64 (S.sync i).2) ∧ Own B w' p (S.sync i).1 ∧ Below B w w' := by
  obtain ⟨hB, P, hd, hP⟩ := h
  refine (sync_op_any hd (hi.small hb) (fun k hk => by have := hi.bytes k hk; omega) i).mono ?_
  rintro e w' ⟨rfl, hl⟩
  exact ⟨rfl, Own.of_leaves hB hP hl⟩

theorem own_rename (h : Own B w p S) (hi : Inv S W b) (hb : b ≤ 1000000) (i : Int) (s u : ByteArray) :
    Calls Try.prog 41 #[ptr p, .int .i64 i, .string s, .string u] w fun e w' => e = .returned (.int .i64 (S.rename i s u).2) ∧ Own B w' p (S.rename i s u).1 ∧ Below B w w' := by
  obtain ⟨hB, P, hd, hP⟩ := h
  refine (ren_any hd (hi.small hb) (hi.loose hb) hi.leads i s u).mono ?_
  rintro e w' ⟨rfl, hl⟩
  exact ⟨rfl, Own.of_leaves hB hP hl⟩

theorem own_loose (h : Own B w p S) (hs : S.loose ≤ 4611686018427387904) :
    Calls Try.prog 43 #[ptr p] w fun e w' => e = .returned (.int .i64 (S.loose : Int)) ∧ Own B w' p S ∧ Below B w w' := by
  have h' := h
  obtain ⟨hB, P, ⟨vn, nb, t, hd⟩, hP⟩ := h
  refine (loose_any hd hs).mono ?_
  rintro e w' ⟨rfl, hb⟩
  exact ⟨rfl, h'.below hb⟩

theorem own_crash {w0 : World} (h : Own B w0 p S) (hw : Below w0.heap.size w0 w) (hi : Inv S W b) (hb : b ≤ 1000000) (hW : W ≤ 1000000) {v : Value} {l : List UInt8} (hv : KeepAt w v l (fun k => B ≤ k ∧ k < w0.heap.size)) :
    Calls Try.prog 37 #[ptr p, v] w fun e w' => e = .returned (.tuple #[]) ∧ Own B w' p (S.crash l) ∧ Below B w w' := by
  obtain ⟨hB, P, hd, hP⟩ := h
  have hv' : KeepAt w v l P := by
    obtain ⟨a, c, h1, h2, h3, h4⟩ := hv.shape
    refine ⟨a, c, h1, h2, h3, fun j u hu => ?_⟩
    obtain ⟨b1, o, e, hc, hp⟩ := h4 j u hu
    exact ⟨b1, o, e, hc, fun q => hp ⟨hP _ q, hd.lt _ q⟩⟩
  refine (crash_disk (hd.below hw) (hi.nok hW hb) (fun k hk q => by have := hi.replays k hk q; omega) hv').mono ?_
  rintro e w' ⟨rfl, hl⟩
  exact ⟨rfl, Own.of_leaves (by have := hw.size; omega) hP hl⟩

theorem own_read (h : Own B w p S) (hi : Inv S W b) (hW : W ≤ 1000000) (i a n : Int) (ha0 : -9223372036854775808 ≤ a) (ha1 : a ≤ 9223372036854775807) :
    Calls Try.prog 16 #[ptr p, .int .i64 i, .int .i64 a, .int .i64 n] w fun e w' => ∃ v, e = .returned (.tuple #[v, .int .i64 (readErr S i a n)]) ∧ Given w w' v (readVal S i a n) ∧ Own B w' p S ∧ Below B w w' := by
  have h' := h
  obtain ⟨hB, P, ⟨vn, nb, t, hd⟩, hP⟩ := h
  refine (read_any hd i a n (fun k hk => by have := hi.bytes k hk; omega) ha0 ha1).mono ?_
  rintro e w' ⟨v, rfl, hg⟩
  exact ⟨v, rfl, hg, h'.below hg.2.1⟩

theorem own_size (h : Own B w p S) (i : Int) : Calls Try.prog 42 #[ptr p, .int .i64 i] w fun e w' => e = .returned (.int .i64 (sizeOfFile S i : Int)) ∧ w = w' := by
  obtain ⟨hB, P, ⟨vn, nb, t, hd⟩, hP⟩ := h
  exact size_any hd i
theorem own_ops (h : Own B w p S) : Calls Try.prog 44 #[ptr p] w fun e w' => e = .returned (.int .i64 S.ops) ∧ w = w' := by
  obtain ⟨hB, P, ⟨vn, nb, t, hd⟩, hP⟩ := h
  exact ops_any hd
theorem own_changes (h : Own B w p S) : Calls Try.prog 45 #[ptr p] w fun e w' => e = .returned (.int .i64 S.changes) ∧ w = w' := by
  obtain ⟨hB, P, ⟨vn, nb, t, hd⟩, hP⟩ := h
  exact changes_any hd
theorem own_find (h : Own B w p S) (i : Int) (s : ByteArray) : Calls Try.prog 18 #[ptr p, .int .i64 i, .string s] w fun e w' => e = .returned (.tuple #[.int .i64 (findVal S i s : Int), .int .i64 (findErr S i s)]) ∧ w = w' := by
  obtain ⟨hB, P, ⟨vn, nb, t, hd⟩, hP⟩ := h
  exact find_any hd i s
end

end Go.Proofs.Ytagjmphmdgklkaa

/- Walks: 'awake' is always true. -/
namespace Go.Proofs.Ytagjmphmdgklkaa
open Go.RowKit

theorem tU8 : Try.prog.underlying 5 = some (.int .u8) := by kernel_rfl

theorem src_fresh {w0 w : World} {B : Nat} (hw : w0.heap.size ≤ w.heap.size) (l : List UInt8) (cs : Array Value) (h : cs.toList = bcells l) (T : TypeId) (fr : Nat × Nat) : Src (w.alloc (.cells cs T fr)) (.slice (some ⟨w.heap.size, 0, none⟩) l.length l.length) l (fun k => B ≤ k ∧ k < w0.heap.size) := by
  refine .inr ⟨_, _, _, rfl, rfl, by simp, fun q => by have := q.2; simp at this; omega, fun j u hu => ?_⟩
  have e : ((⟨w.heap.size, 0, none⟩ : Addr).add j) = ⟨w.heap.size, j, none⟩ := by unfold Addr.add; split <;> simp_all
  rw [e, World.cell?_alloc_mark, ← Array.getElem?_toList, h]
  exact hu

theorem keep_fresh {w0 w : World} {B : Nat} (hw : w0.heap.size ≤ w.heap.size) (l : List UInt8) (cs : Array Value) (h : cs.toList = bcells l) (T : TypeId) (fr : Nat × Nat) (hl : l.length ≤ maxLen) : KeepAt (w.alloc (.cells cs T fr)) (.slice (some ⟨w.heap.size, 0, none⟩) l.length l.length) l (fun k => B ≤ k ∧ k < w0.heap.size) := by
  refine ⟨_, _, rfl, Nat.le_refl _, hl, fun j u hu => ⟨_, _, rfl, ?_, fun q => by have := q.2; omega⟩⟩
  rw [Nat.zero_add, World.cell?_alloc_mark, ← Array.getElem?_toList, h]
  exact hu

/-- string(b) of a row of bytes -/
theorem row_string {w : World} {v : Value} {l : List UInt8} (h : Row w 5 1 v l.length (bcells l)) : (convert 34 9 v).run Try.prog w = .ok (.string ⟨l.toArray⟩) w := by
  rcases h.shape with ⟨rfl, hn⟩ | ⟨g, cap, rfl, hn, hm, hg⟩
  · have : l = [] := List.eq_nil_of_length_eq_zero hn
    subst this
    exact Lib.run_convert_nil_bytes w _ _ _ 0 tBytes tU8 tStr
  · have e : l.length = (⟨l.toArray⟩ : ByteArray).size := by simp [ByteArray.size]
    rw [e]
    refine Lib.run_convert_whole w _ _ _ tBytes tU8 tStr g 0 ⟨l.toArray⟩ (fun i hi => ?_) cap
    have hi' : i < l.length := by rw [e]; exact hi
    rw [Nat.zero_add, h.cellAt i (by omega)]
    simp [bcells, bcell, hi']
    rfl

set_option maxRecDepth 100000 in
set_option maxHeartbeats 1000000 in
theorem awake_walk (w : World) : Calls Try.prog 12 #[] w fun e w' => e = .returned (.bool true) ∧ Below w.heap.size w w' := by
  have n1 := own_new 100 w.heap.size w (Nat.le_refl _)
  have N1 := Lib.hid n1
  clear n1
  go_enter Try.func12, Try.ntmps12
  go_wp2_with (first | (go_at_call 13; refine N1.out.mono ?_; rintro e w1 ⟨p, rfl, ho, hb⟩; have O1 := Lib.hid ho; have B1 := Lib.hid hb; have C1 := Lib.hid (own_create ho aw0_i (by omega) 1 ⟨#[97]⟩); clear ho hb; unfold ptr) |
    (go_at_call 36; refine C1.out.mono ?_; rintro e w2 ⟨rfl, ho, hb⟩; have O2 := Lib.hid (show Own w.heap.size w2 p aw1 from ho); have B2 := Lib.hid hb; clear ho hb; have hcv := Lib.run_convert_bytes_const (P := Try.prog) w2 34 5 #[.int .u8 120, .int .u8 121, .int .u8 122] 3 3 tBytes tU8; have v1 := aw1_v; simp only [aw0] at v1; rw [v1]) |
    (go_at_call 39; have hs := src_fresh (B := w.heap.size) (Nat.le_refl w2.heap.size) [120, 121, 122] #[.int .u8 120, .int .u8 121, .int .u8 122] rfl 5 (3, 4); refine (own_append O2.out ((Below.refl _ _).alloc (Nat.le_refl _) _) aw1_i (by omega) (by omega) 2 (by simp) hs).mono ?_; rintro e w3 ⟨rfl, ho, hb⟩; have O3 := Lib.hid (show Own w.heap.size w3 p aw2 from ho); have B3 := Lib.hid hb; have S3 := Lib.hid (own_sync (show Own w.heap.size w3 p aw2 from ho) aw2_i (by omega) (by omega) 1); clear ho hb hs; rw [aw2_v]) |
    (go_at_call 40; refine S3.out.mono ?_; rintro e w4 ⟨rfl, ho, hb⟩; have O4 := Lib.hid (show Own w.heap.size w4 p aw3 from ho); have B4 := Lib.hid hb; have L4 := Lib.hid (own_loose (show Own w.heap.size w4 p aw3 from ho) (by rw [aw3_l]; omega)); clear ho hb; rw [aw3_v]) |
    (go_at_call 43; refine L4.out.mono ?_; rintro e w5 ⟨rfl, ho, hb⟩; have O5 := Lib.hid ho; have B5 := Lib.hid hb; have C5 := Lib.hid (own_crash (show Own w.heap.size w5 p aw3 from ho) ((Below.refl _ _).alloc (Nat.le_refl _) _) aw3_i (by omega) (by omega) (keep_fresh (B := w.heap.size) (Nat.le_refl w5.heap.size) [2] #[.int .u8 2] rfl 5 (0, 0) (by simp [maxLen]))); clear ho hb; rw [aw3_l]) |
    (go_at_call 37; refine C5.out.mono ?_; rintro e w6 ⟨rfl, ho, hb⟩; have O6 := Lib.hid (show Own w.heap.size w6 p aw4 from ho); have B6 := Lib.hid hb; have R6 := Lib.hid (own_read (show Own w.heap.size w6 p aw4 from ho) aw4_i (by omega) 2 0 2 (by omega) (by omega)); clear ho hb) |
    (go_at_call 16; refine R6.out.mono ?_; rintro e w7 ⟨v, rfl, hg, ho, hb⟩; have hg1 := hg.1; rw [aw4_b] at hg1; obtain ⟨a7, n7, c7, rfl⟩ := hg1.isSlice; have hst := row_string hg1; have B7 := Lib.hid hb; have Z7 := own_size ho 2; rw [aw4_s] at Z7; have P7 := own_ops ho; rw [aw4_o] at P7; have Q7 := own_changes ho; rw [aw4_c] at Q7; have HZ := Lib.hid Z7; have HP := Lib.hid P7; have HQ := Lib.hid Q7; clear hg hg1 ho hb Z7 P7 Q7; rw [aw4_r]) |
    (go_at_call 42; refine HZ.out.mono ?_; rintro e w8 ⟨rfl, rfl⟩) | (go_at_call 44; refine HP.out.mono ?_; rintro e w8 ⟨rfl, rfl⟩) | (go_at_call 45; refine HQ.out.mono ?_; rintro e w8 ⟨rfl, rfl⟩))
  go_ret
  exact ⟨rfl, B1.out.trans (B2.out.trans (((Below.refl _ _).alloc O2.out.1 _).trans (B3.out.trans (B4.out.trans (B5.out.trans (((Below.refl _ _).alloc O5.out.1 _).trans (B6.out.trans B7.out)))))))⟩

end Go.Proofs.Ytagjmphmdgklkaa

/- Own, the rest: listing. -/
namespace Go.Proofs.Ytagjmphmdgklkaa
open Go.RowKit

theorem Inv.ents {S : DS} {W B : Nat} (h : Inv S W B) : ∀ k, k < S.nodes.length → (S.nd k).seen.ents.length ≤ S.nodes.length + 1 := fun k hk => by
  obtain ⟨par, hn⟩ := h.nodes
  have he := (hn k hk).seenE
  have := nodup_len (S.nodes.length + 1) _ he.vals (fun x hx => by
    obtain ⟨e, hm, rfl⟩ := List.mem_map.1 hx
    have := (he.ok e hm).2.1
    omega)
  simpa using this

theorem own_list {B : Nat} {w : World} {p : Nat} {S : DS} {W b : Nat} (h : Own B w p S) (hi : Inv S W b) (hb : b ≤ 999990) (i : Int) :
    Calls Try.prog 38 #[ptr p, .int .i64 i] w fun e w' => ∃ v, e = .returned (.tuple #[v, .int .i64 (ofErr S i true)]) ∧ GivenS w w' v (listVal S i) ∧ Own B w' p S ∧ Below B w w' := by
  have h' := h
  obtain ⟨hB, P, ⟨vn, nb, t, hd⟩, hP⟩ := h
  refine (list_any hd i (fun k hk => by have := hi.ents k hk; have := hi.few; omega)).mono ?_
  rintro e w' ⟨v, rfl, hg⟩
  exact ⟨v, rfl, hg, h'.below hg.below⟩

end Go.Proofs.Ytagjmphmdgklkaa

/- The plain law of DiskOrder. -/
namespace Go.Proofs.Ytagjmphmdgklkaa
open Go.RowKit

def ordName (j : Nat) : ByteArray := ⟨#[UInt8.ofNat (97 + j)]⟩
def ordS : Nat → DS
  | 0 => newDS 100
  | j + 1 => ((ordS j).make 1 (ordName j) false).1

theorem ord_i (k : Nat) : Inv (ordS k) 0 (3 * k) := by
  induction k with
  | zero => exact Inv.new 100 (by omega)
  | succ k ih => exact (ih.make 1 (ordName k) false).mono (Nat.le_refl _) (by omega)

theorem ord_v : ∀ j, j < 21 → ((ordS j).make 1 (ordName j) false).2.2 = 0 := by decide +kernel

theorem ord_c : ∀ k, k < 21 → ∀ x, x < 256 → (((ordS k).crash [UInt8.ofNat x]).nd 0).seen.ents.map (fun e => e.1.data.toList) = (List.range (x % (k + 1))).map (fun j => [UInt8.ofNat (97 + j)]) := by decide +kernel

end Go.Proofs.Ytagjmphmdgklkaa

/- The plain law of DiskOrder: what List answers. -/
namespace Go.Proofs.Ytagjmphmdgklkaa
open Go.RowKit

theorem ofErr_root {S : DS} {W B : Nat} (h : Inv S W B) (hd : S.down = false) : ofErr S 1 true = 0 := by
  have ha : anyErr S 1 = 0 := by unfold anyErr; rw [if_neg (by simp [hd]), if_pos ⟨by omega, by have := h.one; omega⟩]
  unfold ofErr
  rw [if_pos ha]
  exact if_pos h.root

def ordL (q : Nat) : List (List UInt8) := (List.range q).map fun j => [UInt8.ofNat (97 + j)]

theorem ord_sorted : ∀ q, q < 22 → (ordL q).Pairwise (fun x y => decide (x ≤ y) = true) := by decide +kernel

theorem ord_list (k : Nat) (hk : k < 21) (x : UInt8) : ofErr ((ordS k).crash [x]) 1 true = 0 ∧ listVal ((ordS k).crash [x]) 1 = ordL (x.toNat % (k + 1)) := by
  have h0 := ofErr_root ((ord_i k).crash [x]) rfl
  refine ⟨h0, ?_⟩
  unfold listVal
  rw [if_pos h0]
  have hx : UInt8.ofNat x.toNat = x := by simp
  have hc := ord_c k hk x.toNat x.toNat_lt
  rw [hx] at hc
  unfold listing nameBytes
  show List.mergeSort (((((ordS k).crash [x]).nd 0).seen.ents).map fun e => e.1.data.toList) _ = _
  rw [hc]
  exact List.mergeSort_of_pairwise (ord_sorted _ (by have := Nat.mod_lt x.toNat (show 0 < k + 1 by omega); omega))

end Go.Proofs.Ytagjmphmdgklkaa

/- Walks: DiskOrder. -/
namespace Go.Proofs.Ytagjmphmdgklkaa
open Go.RowKit

/-- string([]byte{byte('a' + j)}) -/
theorem ord_string (W : World) (j : Nat) (hj : j < 21) : (convert 34 9 (.slice (some ⟨W.heap.size, 0, none⟩) 1 1)).run Try.prog (W.alloc (.cells #[.int .u8 (97 + (j : Int))] 5)) = .ok (.string (ordName j)) (W.alloc (.cells #[.int .u8 (97 + (j : Int))] 5)) := by
  have hm : (UInt8.ofNat (97 + j)).toNat = 97 + j := by rw [UInt8.toNat_ofNat']; omega
  have hb := Blk.made W #[.int .u8 (97 + (j : Int))] 5
  have hr : Row (W.alloc (.cells #[.int .u8 (97 + (j : Int))] 5)) 5 1 (.slice (some ⟨W.heap.size, 0, none⟩) 1 1) [UInt8.ofNat (97 + j)].length (bcells [UInt8.ofNat (97 + j)]) := by
    refine ⟨rfl, .inr ⟨W.heap.size, 1, #[.int .u8 (97 + (j : Int))], rfl, by show (W.heap.push _)[W.heap.size]? = _; simp, Nat.le_refl _, by simp [maxLen], by simp, ?_⟩⟩
    simp [bcells, bcell]
    omega
  exact row_string hr

theorem ord_string2 (W : World) (j : Nat) (hj : j < 21) : (convert 34 9 (.slice (some ⟨W.heap.size, 0, none⟩) 1 1)).run Try.prog (W.alloc (.cells #[.int .u8 (97 + (j : Int))] 5)).drew = .ok (.string (ordName j)) (W.alloc (.cells #[.int .u8 (97 + (j : Int))] 5)).drew := by
  have hm : (UInt8.ofNat (97 + j)).toNat = 97 + j := by rw [UInt8.toNat_ofNat']; omega
  have hr : Row (W.alloc (.cells #[.int .u8 (97 + (j : Int))] 5)) 5 1 (.slice (some ⟨W.heap.size, 0, none⟩) 1 1) [UInt8.ofNat (97 + j)].length (bcells [UInt8.ofNat (97 + j)]) := by
    refine ⟨rfl, .inr ⟨W.heap.size, 1, #[.int .u8 (97 + (j : Int))], rfl, by show (W.heap.push _)[W.heap.size]? = _; simp, Nat.le_refl _, by simp [maxLen], by simp, ?_⟩⟩
    simp [bcells, bcell]
    omega
  exact row_string (w := (W.alloc (.cells #[.int .u8 (97 + (j : Int))] 5)).drew) hr

theorem ord_create {w wr : World} {p j : Nat} (hj : j < 21) (ho : Own w.heap.size wr p (ordS j)) (hb : Below w.heap.size w wr) : ∃ q : Int, ∀ W, Below wr.heap.size wr W →
    Calls Try.prog 36 #[.pointer (some ⟨p, 0, none⟩), .int .i64 1, .string (ordName j)] W fun e w' => e = .returned (.tuple #[.int .i64 q, .int .i64 0]) ∧ Own w.heap.size w' p (ordS (j + 1)) ∧ Below w.heap.size w w' := by
  refine ⟨((ordS j).make 1 (ordName j) false).2.1, fun W hW => ?_⟩
  have h1 := ho.below hW
  have h2 := own_create h1.1 (ord_i j) (by omega) 1 (ordName j)
  rw [ord_v j hj] at h2
  refine h2.mono ?_
  rintro e w' ⟨rfl, ho2, hb2⟩
  exact ⟨rfl, ho2, hb.trans (h1.2.trans hb2)⟩

/-- what List answers -/
theorem ord_listed {w wr : World} {p k : Nat} (hk : k < 21) {keep : UInt8} (ho : Own w.heap.size wr p ((ordS k).crash [keep])) (hb : Below w.heap.size w wr) :
    Calls Try.prog 38 #[.pointer (some ⟨p, 0, none⟩), .int .i64 1] wr fun e w' => ∃ g c, e = .returned (.tuple #[.slice g (keep.toNat % (k + 1)) c, .int .i64 0]) ∧ Below w.heap.size w w' ∧
      ∀ j, j < keep.toNat % (k + 1) → ∃ b, g = some ⟨b, 0, none⟩ ∧ b < w'.heap.size ∧ w'.cell? ⟨b, j, none⟩ = some (.string (ordName j)) := by
  have hi := (ord_i k).crash [keep]
  obtain ⟨h1, h2⟩ := ord_list k hk keep
  have hl := own_list ho hi (by omega) 1
  rw [h1, h2] at hl
  refine hl.mono ?_
  rintro e w' ⟨v, rfl, hg, _, hb2⟩
  have hlen : (ordL (keep.toNat % (k + 1))).length = keep.toNat % (k + 1) := by simp [ordL]
  obtain ⟨hrow, hsl, hbl, hown⟩ := hg
  rw [hlen] at hrow hsl
  obtain ⟨a, n, c, rfl⟩ := hrow.isSlice
  obtain rfl : n = keep.toNat % (k + 1) := hsl
  refine ⟨a, c, rfl, hb.trans hb2, fun j hj => ?_⟩
  rcases hrow.shape with ⟨e, h0⟩ | ⟨g, cap, e, _, _, hlt⟩
  · omega
  obtain ⟨rfl, rfl⟩ : a = some ⟨g, 0, none⟩ ∧ c = cap := by
    have := Value.slice.inj e
    exact ⟨this.1, this.2.2⟩
  refine ⟨g, rfl, hlt, ?_⟩
  rw [hrow.cellAt j (by omega)]
  simp [ordL, encStr, hj, ordName]

set_option maxRecDepth 100000 in
set_option maxHeartbeats 1000000 in
theorem order_walk (n keep : UInt8) (w : World) : Calls Try.prog 9 #[.int .u8 (n.toNat : Int), .int .u8 (keep.toNat : Int)] w fun e w' => e = .returned (.bool true) ∧ Below w.heap.size w w' := by
  have n1 := own_new 100 w.heap.size w (Nat.le_refl _)
  have N1 := Lib.hid n1
  clear n1
  have hn := n.toNat_lt
  have hk := keep.toNat_lt
  obtain ⟨k, hk1, hk2⟩ : ∃ k : Nat, k = n.toNat % 21 ∧ k < 21 := ⟨_, rfl, Nat.mod_lt _ (by omega)⟩
  go_enter Try.func9, Try.ntmps9
  go_wp2_with (first | (go_at_call 13; refine N1.out.mono ?_; rintro e w1 ⟨p, rfl, ho, hb⟩; have O1 := Lib.hid ho; have B1 := Lib.hid hb; clear ho hb; unfold ptr))
  have hk3 : ((n.toNat : Int) % 21) = (k : Int) := by omega
  rw [hk3]
  clear hk1 hk3
  go_loopw [7, 8, 9] (fun i _ _ wr => ∃ j : Nat, j ≤ k ∧ i = .int .i64 (j : Int) ∧ Own w.heap.size wr p (ordS j) ∧ Below w.heap.size w wr) (fun i _ _ _ => k - (intOf i).toNat)
  case atStart => exact ⟨0, Nat.zero_le _, rfl, O1.out, B1.out⟩
  case round =>
    obtain ⟨j, hj, rfl, ho, hb⟩ := hrel
    by_cases hlt : j < k
    · obtain ⟨q, hcr⟩ := ord_create (by omega) ho hb
      have HC := Lib.hid hcr
      have hs := ord_string wr j (by omega)
      clear hcr ho hb O1 B1 N1
      go_wp2_with (first | (go_at_call 36; refine (HC.out _ ?_).mono ?_; exact ((Below.refl _ _).alloc (Nat.le_refl _) _); rintro e w2 ⟨rfl, ho, hb⟩; have HO := Lib.hid ho; have HB := Lib.hid hb; clear ho hb hs))
      go_roundw
      case rel => exact ⟨j + 1, by omega, by go_num, HO.out, HB.out⟩
      case measure => simp [intOf]; omega
    · obtain rfl : j = k := by omega
      have hcr := own_crash ho ((Below.refl _ _).alloc (Nat.le_refl _) _) (ord_i j) (by omega) (by omega) (keep_fresh (B := w.heap.size) (Nat.le_refl wr.heap.size) [keep] #[.int .u8 (keep.toNat : Int)] rfl 5 (0, 0) (by simp [maxLen]))
      have hb1 := (ho.below ((Below.refl _ _).alloc (Nat.le_refl _) (.cells #[.int .u8 (keep.toNat : Int)] 5 (0, 0)))).2
      have HC := Lib.hid hcr
      have HB1 := Lib.hid (hb.trans hb1)
      obtain ⟨q, hq1, hq2⟩ : ∃ q : Nat, q = keep.toNat % (j + 1) ∧ q < 21 := ⟨_, rfl, by have := Nat.mod_lt keep.toNat (show 0 < j + 1 by omega); omega⟩
      have hq3 : ((q : Int) != (keep.toNat : Int) % ((j : Int) + 1)) = false := by rw [hq1]; simp
      have HQ := Lib.hid hq1
      have haw := fun W => awake_walk W
      have HA := Lib.hid haw
      clear hcr ho hb hb1 O1 B1 N1 hq1 haw hj
      go_wp2_with (first | (go_at_call 37; refine HC.out.mono ?_; rintro e w2 ⟨rfl, ho, hb⟩; have HL := Lib.hid (ord_listed (by omega) ho (HB1.out.trans hb)); clear ho hb; unfold ptr at HL; rw [← HQ.out] at HL) |
        (go_at_call 38; refine HL.out.mono ?_; rintro e w3 ⟨g, c, rfl, hb, hc⟩; have HB3 := Lib.hid hb; have HC3 := Lib.hid hc; clear hb hc))
      go_loopw [12] (fun i wr => ∃ x : Nat, x ≤ q ∧ i = .int .i64 (x : Int) ∧ Below w.heap.size w wr ∧ Below w3.heap.size w3 wr) (fun i _ => q - (intOf i).toNat)
      case atStart => exact ⟨0, Nat.zero_le _, rfl, HB3.out, Below.refl _ _⟩
      case round =>
        obtain ⟨x, hx, rfl, hb4, hb5⟩ := hrel
        by_cases hlt2 : x < q
        · obtain ⟨b, rfl, hb6, hc6⟩ := HC3.out x hlt2
          have r0 : wr.drew.cell? ⟨b, x, none⟩ = some (.string (ordName x)) := (hb5.cell (p := ⟨b, x, none⟩) hb6).trans hc6
          have r1 : (wr.alloc (.cells #[.int .u8 (97 + (x : Int))] 5)).drew.cell? ⟨b, x, none⟩ = some (.string (ordName x)) := cell_alloc (W := wr) (.cells #[.int .u8 (97 + (x : Int))] 5) r0
          have hs := ord_string2 wr x (by omega)
          have HB4 := Lib.hid hb4
          have HB5 := Lib.hid hb5
          have hself : (!(ordName x).toList == (ordName x).toList) = false := by simp
          clear hb4 hb5 hc6
          go_wp2
          go_region
          all_goals
            go_wp2
            go_roundw
            case rel => exact ⟨x + 1, by omega, by go_num, (HB4.out.alloc (by have := HB4.out.size; omega) _).drew, (HB5.out.alloc (by have := HB5.out.size; omega) _).drew⟩
            case measure => simp [intOf]; omega
        · have HB4 := Lib.hid hb4
          clear hb4 hb5
          go_wp2_with (go_at_call 12; refine (HA.out _).mono ?_; rintro e w5 ⟨rfl, hb6⟩; have HB6 := Lib.hid hb6; clear hb6)
          go_ret
          exact ⟨rfl, HB4.out.trans (HB6.out.mono HB4.out.size)⟩

end Go.Proofs.Ytagjmphmdgklkaa

/- The last step of a law's row: the call returned true, and what was there lies as it lay. -/
namespace Go.Proofs.Ytagjmphmdgklkaa
open Go.RowKit Go.WideShapes Go.ChangeShapes

theorem law_post {H : Type} {enc : TypeId × Value → H} {P : Program} {f : Func} {s : ChangeSpec} {apart fresh handsOn again : Bool} {W W' : World} {args : Array Value} {v : Value} {ds gs : List (DataW H)} {before pa : List MemPlace}
    (whole : DataW.Whole enc P f.params.toList s.vars apart W args.toList ds gs before) (b : Below W.heap.size W W')
    (res : ∀ (n : Nat) (sp : Nat → Bool) (hd : Bool), DataW.TrodAll enc P W' n sp hd f.resultTypes.toList (v.resultList f.resultTypes.size) (s.fn H (ds ++ gs)).results [])
    (arg : ∀ sp : Nat → Bool, (∀ p ∈ before, sp p.block = true) → DataW.TrodAll enc P W' 0 sp true f.params.toList args.toList (s.fn H (ds ++ gs)).args pa)
    (var : ∀ sp : Nat → Bool, (∀ p ∈ before, sp p.block = true) → DataW.TrodVars enc P W' sp s.vars (s.fn H (ds ++ gs)).vars [])
    (same : before = pa)
    (ok : ∀ (j : Nat) (t : TypeId) (r : Value), f.resultTypes[j]? = some t → (v.resultList f.resultTypes.size)[j]? = some r → Value.okWide P W' .any 0 t r) :
    s.post enc P f apart fresh handsOn again W args v W' := by
  subst same
  have lt : ∀ p ∈ before, p.block < W.heap.size := fun p hp => whole.lt p hp
  have old : ∀ p ∈ before, (fun k => decide (k < W.heap.size)) p.block = true := fun p hp => by simpa using lt p hp
  refine ⟨ds, gs, before, [], before, [], whole, res _ _ _, arg _ old, var _ old, World.keptBut_mono (fun p hp => ⟨hp, ?_⟩) (b.frame (· ∈ before)), fun _ => ?_⟩
  · exact Or.inr (Or.inl hp)
  · obtain ⟨_, _, _, _, _, froz, nodup⟩ := whole
    refine ⟨ok, _, _, ([] ++ before) ++ [], ⟨[] ++ before, [], trodAll_append (arg _ (fun _ _ => rfl)) (res _ _ _), var _ (fun _ _ => rfl), rfl, ?_, ?_⟩, ?_⟩
    · intro k off hp
      have hin : MemPlace.cell k off ∈ before := by simpa using hp
      rw [b.frozen (lt _ hin)]
      exact froz k off hin
    · intro ha
      simpa using nodup ha
    · intro p hp _
      simpa using hp

end Go.Proofs.Ytagjmphmdgklkaa
