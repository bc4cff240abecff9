/- Parts of the proof, one behind the other: Drn Drn2 Drn3. -/
import Derived.Test.YtagjmphmdgklkaaG5
/- The plain law of DiskRenames. -/
namespace Go.Proofs.Ytagjmphmdgklkaa
open Go.RowKit

def nA : ByteArray := ⟨#[97]⟩
def nB : ByteArray := ⟨#[98]⟩
def fileN (l : List UInt8) : Nd := ⟨false, ⟨l, []⟩, ⟨l, []⟩, []⟩
def fileL (l : List UInt8) : Nd := ⟨false, ⟨[], []⟩, ⟨l, []⟩, if l = [] then [] else [.app l]⟩
def rootL : Nd := ⟨true, ⟨[], []⟩, ⟨[], [(nA, 2), (nB, 3)]⟩, [.link nA 2, .link nB 3]⟩
def rootN : Nd := ⟨true, ⟨[], [(nA, 2), (nB, 3)]⟩, ⟨[], [(nA, 2), (nB, 3)]⟩, []⟩
def rootR : Nd := ⟨true, ⟨[], [(nA, 2), (nB, 3)]⟩, ⟨[], [(nB, 2)]⟩, [.ren nA nB 2]⟩
def rootS : Nd := ⟨true, ⟨[], [(nB, 2)]⟩, ⟨[], [(nB, 2)]⟩, []⟩
def dsk (l : List Nd) (o c : Int) : DS := ⟨l, 100000, o, c, false, false, false, 0, false, 0⟩

def rn1 : DS := ((newDS 100000).make 1 nA false).1
theorem rn1_v : ((newDS 100000).make 1 nA false).2 = (2, 0) := by decide +kernel
theorem rn2_e : rn1.make 1 nB false = (dsk [rootL, newNd false, newNd false] 2 2, 3, 0) := rfl

theorem app_nil (l : List UInt8) : (if l = [] then ([] : List St) else [.app l]).map St.parts = if l = [] then [] else [l.length] := by split <;> rfl

theorem rn3_e (la : List UInt8) (h : la.length ≤ 100) : (dsk [rootL, newNd false, newNd false] 2 2).append 2 la = (dsk [rootL, fileL la, newNd false] 3 3, 0) := by
  have ht : (dsk [rootL, newNd false, newNd false] 2 2).total 2 la.length = la.length := by
    simp [DS.total, rsum, ecost, vcost, DS.nd, dsk, rootL, newNd]
  unfold DS.append
  rw [if_neg (by decide), ht, if_neg (by simp [dsk]; omega), if_neg (by decide)]
  cases la with
  | nil => rfl
  | cons a l => simp [dsk, DS.runs, DS.fires, fired, DS.after, DS.fulled, DS.ticked, DS.appended, DS.step, DS.nd, Nd.step, newNd, fileL, St.act, St.parts, tIs, tAfter, List.set]

theorem rn4_e (la lb : List UInt8) (h : la.length ≤ 100) (h2 : lb.length ≤ 100) : (dsk [rootL, fileL la, newNd false] 3 3).append 3 lb = (dsk [rootL, fileL la, fileL lb] 4 4, 0) := by
  have ht : (dsk [rootL, fileL la, newNd false] 3 3).total 3 lb.length = la.length + lb.length := by
    simp [DS.total, rsum, ecost, vcost, DS.nd, dsk, rootL, newNd, fileL]
  have h0 : ofErr (dsk [rootL, fileL la, newNd false] 3 3) 3 false = 0 := rfl
  have h1 : fired (dsk [rootL, fileL la, newNd false] 3 3).fullIs (dsk [rootL, fileL la, newNd false] 3 3).fullAfter = false := rfl
  unfold DS.append
  rw [if_neg (by rw [h0]; simp), ht, if_neg (by simp [dsk]; omega), if_neg (by rw [h1]; simp)]
  cases lb with
  | nil => rfl
  | cons a l => simp [dsk, DS.runs, DS.fires, fired, DS.after, DS.fulled, DS.ticked, DS.appended, DS.step, DS.nd, Nd.step, newNd, fileL, St.act, St.parts, tIs, tAfter, List.set]

theorem rn5_e (la lb : List UInt8) : (dsk [rootL, fileL la, fileL lb] 4 4).sync 2 = (dsk [rootL, fileN la, fileL lb] 5 4, 0) := rfl
theorem rn6_e (la lb : List UInt8) : (dsk [rootL, fileN la, fileL lb] 5 4).sync 3 = (dsk [rootL, fileN la, fileN lb] 6 4, 0) := rfl
theorem rn7_e (la lb : List UInt8) : (dsk [rootL, fileN la, fileN lb] 6 4).sync 1 = (dsk [rootN, fileN la, fileN lb] 7 4, 0) := rfl
theorem rn8_e (la lb : List UInt8) : (dsk [rootN, fileN la, fileN lb] 7 4).rename 1 nA nB = (dsk [rootR, fileN la, fileN lb] 8 5, 0) := by
  have e1 : (nA.toList == nB.toList) = false := by decide +kernel
  have h0 : ofErr (dsk [rootN, fileN la, fileN lb] 7 4) 1 true = 0 := rfl
  have h2 : ehas ((dsk [rootN, fileN la, fileN lb] 7 4).nd (1 - 1 : Int).toNat).seen.ents nA = true := rfl
  have h3 : ((dsk [rootN, fileN la, fileN lb] 7 4).nd (findVal (dsk [rootN, fileN la, fileN lb] 7 4) 1 nA - 1)).dir = false := rfl
  have h4 : ((dsk [rootN, fileN la, fileN lb] 7 4).nd (findVal (dsk [rootN, fileN la, fileN lb] 7 4) 1 nB - 1)).dir = false := rfl
  unfold DS.rename
  rw [if_neg (by rw [h0]; simp), if_neg (by decide +kernel), if_neg (by rw [h2]; simp), if_neg (by rw [e1]; simp), if_neg (by rw [h3, h4]; simp)]
  rfl
theorem rn9_e (la lb : List UInt8) : (dsk [rootR, fileN la, fileN lb] 8 5).sync 1 = (dsk [rootS, fileN la, fileN lb] 9 5, 0) := rfl
theorem rnA_e (la lb : List UInt8) (x : UInt8) : (dsk [rootS, fileN la, fileN lb] 9 5).crash [x] = dsk [rootS, fileN la, fileN lb] 9 5 := rfl
theorem rnB_e (la lb : List UInt8) (x : UInt8) : (dsk [rootR, fileN la, fileN lb] 8 5).crash [x] = if x.toNat % 2 = 1 then dsk [rootS, fileN la, fileN lb] 8 5 else dsk [rootN, fileN la, fileN lb] 8 5 := by
  have hx : x.toNat % 2 = 0 ∨ x.toNat % 2 = 1 := by omega
  have hc : crashAll [rootR, fileN la, fileN lb] [x] = [rootR.crashed ((x.toNat : Int) % 2), fileN la, fileN lb] := rfl
  show dsk (crashAll [rootR, fileN la, fileN lb] [x]) 8 5 = _
  rw [hc]
  rcases hx with h | h
  · rw [if_neg (by omega), show (x.toNat : Int) % 2 = 0 by omega]; rfl
  · rw [if_pos h, show (x.toNat : Int) % 2 = 1 by omega]; rfl

/-- what is asked of the disk behind the crash -/
theorem rn_new (la lb : List UInt8) (o c : Int) : let S := dsk [rootS, fileN la, fileN lb] o c
    ofErr S 1 true = 0 ∧ listVal S 1 = [[98]] ∧ findErr S 1 nB = 0 ∧ findVal S 1 nB = 2 ∧ sizeOfFile S 2 = la.length ∧ readErr S 2 0 la.length = 0 ∧ readVal S 2 0 la.length = la := by
  have h1 : sizeOfFile (dsk [rootS, fileN la, fileN lb] o c) 2 = la.length := rfl
  have h2 : readErr (dsk [rootS, fileN la, fileN lb] o c) 2 0 la.length = 0 := by
    have h0 : ofErr (dsk [rootS, fileN la, fileN lb] o c) 2 false = 0 := rfl
    unfold readErr
    rw [if_pos h0, h1, if_neg (by omega)]
  have h3 : listing [(nB, 2)] = [[98]] := by show List.mergeSort [[98]] _ = _; exact List.mergeSort_of_pairwise (by simp)
  refine ⟨rfl, h3, rfl, rfl, h1, h2, ?_⟩
  unfold readVal
  rw [if_pos h2]
  show List.take la.length (List.drop 0 la) = la
  simp

theorem rn_old (la lb : List UInt8) (o c : Int) : let S := dsk [rootN, fileN la, fileN lb] o c
    ofErr S 1 true = 0 ∧ listVal S 1 = [[97], [98]] ∧ findErr S 1 nB = 0 ∧ findVal S 1 nB = 3 ∧ findErr S 1 nA = 0 ∧ findVal S 1 nA = 2 ∧ sizeOfFile S 3 = lb.length ∧ readErr S 3 0 lb.length = 0 ∧ readVal S 3 0 lb.length = lb := by
  have h1 : sizeOfFile (dsk [rootN, fileN la, fileN lb] o c) 3 = lb.length := rfl
  have h2 : readErr (dsk [rootN, fileN la, fileN lb] o c) 3 0 lb.length = 0 := by
    have h0 : ofErr (dsk [rootN, fileN la, fileN lb] o c) 3 false = 0 := rfl
    unfold readErr
    rw [if_pos h0, h1, if_neg (by omega)]
  have h3 : listing [(nA, 2), (nB, 3)] = [[97], [98]] := by show List.mergeSort [[97], [98]] _ = _; exact List.mergeSort_of_pairwise (by decide)
  refine ⟨rfl, h3, rfl, rfl, rfl, rfl, h1, h2, ?_⟩
  unfold readVal
  rw [if_pos h2]
  show List.take lb.length (List.drop 0 lb) = lb
  simp

end Go.Proofs.Ytagjmphmdgklkaa

/- The calls that DiskRenames makes, in short. -/
namespace Go.Proofs.Ytagjmphmdgklkaa
open Go.RowKit

theorem rn1_i : Inv rn1 0 3 := (Inv.new 100000 (by omega)).make _ _ _
theorem rn2_i : Inv (dsk [rootL, newNd false, newNd false] 2 2) 0 6 := by
  have h := rn1_i.make 1 nB false
  rw [rn2_e] at h
  exact h
section
variable {la lb : List UInt8} (h1 : la.length ≤ 100) (h2 : lb.length ≤ 100)
include h1
theorem rn3_i : Inv (dsk [rootL, fileL la, newNd false] 3 3) 100 8 := by
  have h := rn2_i.append 2 la (by omega)
  rw [rn3_e la h1] at h
  exact h.mono (by omega) (by omega)
include h2
theorem rn4_i : Inv (dsk [rootL, fileL la, fileL lb] 4 4) 200 10 := by
  have h := (rn3_i h1).append 3 lb (by omega)
  rw [rn4_e la lb h1 h2] at h
  exact h.mono (by omega) (by omega)
theorem rn5_i : Inv (dsk [rootL, fileN la, fileL lb] 5 4) 200 11 := by
  have h := (rn4_i h1 h2).sync 2
  rw [rn5_e] at h
  exact h
theorem rn6_i : Inv (dsk [rootL, fileN la, fileN lb] 6 4) 200 12 := by
  have h := (rn5_i h1 h2).sync 3
  rw [rn6_e] at h
  exact h
theorem rn7_i : Inv (dsk [rootN, fileN la, fileN lb] 7 4) 200 13 := by
  have h := (rn6_i h1 h2).sync 1
  rw [rn7_e] at h
  exact h
theorem rn8_i : Inv (dsk [rootR, fileN la, fileN lb] 8 5) 200 15 := by
  have h := (rn7_i h1 h2).rename 1 nA nB
  rw [rn8_e] at h
  exact h
theorem rn9_i : Inv (dsk [rootS, fileN la, fileN lb] 9 5) 200 16 := by
  have h := (rn8_i h1 h2).sync 1
  rw [rn9_e] at h
  exact h
end


section
variable {B : Nat} {w : World} {p : Nat} {la lb : List UInt8}
theorem rnc_a (h : Own B w p (newDS 100000)) : Calls Try.prog 36 #[.pointer (some ⟨p, 0, none⟩), .int .i64 1, .string ⟨#[97]⟩] w fun e w' => e = .returned (.tuple #[.int .i64 2, .int .i64 0]) ∧ Own B w' p rn1 ∧ Below B w w' := by
  have := own_create h (Inv.new 100000 (by omega)) (by omega) 1 nA
  rw [rn1_v] at this
  exact this
theorem rnc_b (h : Own B w p rn1) : Calls Try.prog 36 #[.pointer (some ⟨p, 0, none⟩), .int .i64 1, .string ⟨#[98]⟩] w fun e w' => e = .returned (.tuple #[.int .i64 3, .int .i64 0]) ∧ Own B w' p (dsk [rootL, newNd false, newNd false] 2 2) ∧ Below B w w' := by
  have := own_create h rn1_i (by omega) 1 nB
  rw [rn2_e] at this
  exact this
theorem rna_a (h1 : la.length ≤ 100) (h : Own B w p (dsk [rootL, newNd false, newNd false] 2 2)) {v : Value} (hv : Src w v la (fun k => B ≤ k ∧ k < w.heap.size)) : Calls Try.prog 39 #[.pointer (some ⟨p, 0, none⟩), .int .i64 2, v] w fun e w' => e = .returned (.int .i64 0) ∧ Own B w' p (dsk [rootL, fileL la, newNd false] 3 3) ∧ Below B w w' := by
  have := own_append h (Below.refl _ _) rn2_i (by omega) (by omega) 2 (by omega) hv
  rw [rn3_e la h1] at this
  exact this
theorem rna_b (h1 : la.length ≤ 100) (h2 : lb.length ≤ 100) (h : Own B w p (dsk [rootL, fileL la, newNd false] 3 3)) {v : Value} (hv : Src w v lb (fun k => B ≤ k ∧ k < w.heap.size)) : Calls Try.prog 39 #[.pointer (some ⟨p, 0, none⟩), .int .i64 3, v] w fun e w' => e = .returned (.int .i64 0) ∧ Own B w' p (dsk [rootL, fileL la, fileL lb] 4 4) ∧ Below B w w' := by
  have := own_append h (Below.refl _ _) (rn3_i h1) (by omega) (by omega) 3 (by omega) hv
  rw [rn4_e la lb h1 h2] at this
  exact this
theorem rns_a (h1 : la.length ≤ 100) (h2 : lb.length ≤ 100) (h : Own B w p (dsk [rootL, fileL la, fileL lb] 4 4)) : Calls Try.prog 40 #[.pointer (some ⟨p, 0, none⟩), .int .i64 2] w fun e w' => e = .returned (.int .i64 0) ∧ Own B w' p (dsk [rootL, fileN la, fileL lb] 5 4) ∧ Below B w w' := by
  have := own_sync h (rn4_i h1 h2) (by omega) (by omega) 2
  rw [rn5_e] at this
  exact this
theorem rns_b (h1 : la.length ≤ 100) (h2 : lb.length ≤ 100) (h : Own B w p (dsk [rootL, fileN la, fileL lb] 5 4)) : Calls Try.prog 40 #[.pointer (some ⟨p, 0, none⟩), .int .i64 3] w fun e w' => e = .returned (.int .i64 0) ∧ Own B w' p (dsk [rootL, fileN la, fileN lb] 6 4) ∧ Below B w w' := by
  have := own_sync h (rn5_i h1 h2) (by omega) (by omega) 3
  rw [rn6_e] at this
  exact this
theorem rns_c (h1 : la.length ≤ 100) (h2 : lb.length ≤ 100) (h : Own B w p (dsk [rootL, fileN la, fileN lb] 6 4)) : Calls Try.prog 40 #[.pointer (some ⟨p, 0, none⟩), .int .i64 1] w fun e w' => e = .returned (.int .i64 0) ∧ Own B w' p (dsk [rootN, fileN la, fileN lb] 7 4) ∧ Below B w w' := by
  have := own_sync h (rn6_i h1 h2) (by omega) (by omega) 1
  rw [rn7_e] at this
  exact this
theorem rnr_a (h1 : la.length ≤ 100) (h2 : lb.length ≤ 100) (h : Own B w p (dsk [rootN, fileN la, fileN lb] 7 4)) : Calls Try.prog 41 #[.pointer (some ⟨p, 0, none⟩), .int .i64 1, .string ⟨#[97]⟩, .string ⟨#[98]⟩] w fun e w' => e = .returned (.int .i64 0) ∧ Own B w' p (dsk [rootR, fileN la, fileN lb] 8 5) ∧ Below B w w' := by
  have := own_rename h (rn7_i h1 h2) (by omega) 1 nA nB
  rw [rn8_e] at this
  exact this
theorem rns_d (h1 : la.length ≤ 100) (h2 : lb.length ≤ 100) (h : Own B w p (dsk [rootR, fileN la, fileN lb] 8 5)) : Calls Try.prog 40 #[.pointer (some ⟨p, 0, none⟩), .int .i64 1] w fun e w' => e = .returned (.int .i64 0) ∧ Own B w' p (dsk [rootS, fileN la, fileN lb] 9 5) ∧ Below B w w' := by
  have := own_sync h (rn8_i h1 h2) (by omega) (by omega) 1
  rw [rn9_e] at this
  exact this
/-- the crash, whatever is kept of S -/
theorem rnk {S S' : DS} {W b : Nat} (hi : Inv S W b) (hb : b ≤ 1000000) (hW : W ≤ 1000000) (x : UInt8) (he : S.crash [x] = S') (h : Own B w p S) : Calls Try.prog 37 #[.pointer (some ⟨p, 0, none⟩), .slice (some ⟨w.heap.size, 0, none⟩) 1 1] (w.alloc (.cells #[.int .u8 (x.toNat : Int)] 5)) fun e w' => e = .returned (.tuple #[]) ∧ Own B w' p S' ∧ Below B w w' := by
  have h0 := own_crash h ((Below.refl _ _).alloc (Nat.le_refl _) _) hi hb hW (keep_fresh (B := B) (Nat.le_refl w.heap.size) [x] #[.int .u8 (x.toNat : Int)] rfl 5 (0, 0) (by simp [maxLen]))
  rw [he] at h0
  refine h0.mono ?_
  rintro e w' ⟨rfl, ho, hb2⟩
  exact ⟨rfl, ho, (((Below.refl _ _).alloc h.1 _)).trans hb2⟩
/-- what is listed, found, and read -/
theorem rnl {S : DS} {W b : Nat} (hi : Inv S W b) (hb : b ≤ 999990) (he : ofErr S 1 true = 0) {n : Nat} (hn : (listVal S 1).length = n) (h : Own B w p S) : Calls Try.prog 38 #[.pointer (some ⟨p, 0, none⟩), .int .i64 1] w fun e w' => ∃ a c, e = .returned (.tuple #[.slice a n c, .int .i64 0]) ∧ Own B w' p S ∧ Below B w w' := by
  have h0 := own_list h hi hb 1
  rw [he] at h0
  refine h0.mono ?_
  rintro e w' ⟨v, rfl, hg, ho, hb2⟩
  obtain ⟨a, m, c, rfl⟩ := hg.row.isSlice
  have : m = n := by have := hg.len; rw [hn] at this; exact this
  subst this
  exact ⟨a, c, rfl, ho, hb2⟩
theorem rnf {S : DS} {s : ByteArray} {n : Nat} (he : findErr S 1 s = 0) (hv : findVal S 1 s = n) (h : Own B w p S) : Calls Try.prog 18 #[.pointer (some ⟨p, 0, none⟩), .int .i64 1, .string s] w fun e w' => e = .returned (.tuple #[.int .i64 (n : Int), .int .i64 0]) ∧ w = w' := by
  have h0 := own_find h 1 s
  rw [he, hv] at h0
  exact h0
theorem rnz {S : DS} {i n : Nat} (hv : sizeOfFile S i = n) (h : Own B w p S) : Calls Try.prog 42 #[.pointer (some ⟨p, 0, none⟩), .int .i64 (i : Int)] w fun e w' => e = .returned (.int .i64 (n : Int)) ∧ w = w' := by
  have h0 := own_size h i
  rw [hv] at h0
  exact h0
theorem rnd {S : DS} {W b : Nat} (hi : Inv S W b) (hW : W ≤ 1000000) {i : Nat} {l : List UInt8} (he : readErr S i 0 l.length = 0) (hv : readVal S i 0 l.length = l) (h : Own B w p S) : Calls Try.prog 16 #[.pointer (some ⟨p, 0, none⟩), .int .i64 (i : Int), .int .i64 0, .int .i64 (l.length : Int)] w fun e w' => ∃ a n c, e = .returned (.tuple #[.slice a n c, .int .i64 0]) ∧ (∀ W2, Below w'.heap.size w' W2 → (convert 34 9 (.slice a n c)).run Try.prog W2 = .ok (.string ⟨l.toArray⟩) W2) ∧ Own B w' p S ∧ Below B w w' := by
  have h0 := own_read h hi hW i 0 l.length (by omega) (by omega)
  rw [he] at h0
  refine h0.mono ?_
  rintro e w' ⟨v, rfl, hg, ho, hb2⟩
  have hr := hg.1
  rw [hv] at hr
  obtain ⟨a, n, c, rfl⟩ := hr.isSlice
  exact ⟨a, n, c, rfl, fun W2 hW2 => row_string (hr.of_block fun k hk => hW2.block k (hr.lt k hk)), ho, hb2⟩
end

end Go.Proofs.Ytagjmphmdgklkaa

/- Walks: DiskRenames. -/
namespace Go.Proofs.Ytagjmphmdgklkaa
open Go.RowKit

/-- a slice of bytes, its first m bytes, and what is done with them -/
structure RnArg (w : World) (A : Option Addr) (n c m : Nat) (la : List UInt8) : Prop where
  cut : ∀ W, (Instr.slice 34 (.slice A n c) none (some (.int .i64 (m : Int))) none).run Try.prog W = .ok (.slice A m c) W
  src : ∀ W, Below w.heap.size w W → Src W (.slice A m c) la (fun k => w.heap.size ≤ k ∧ k < W.heap.size)
  str : ∀ W, Below w.heap.size w W → (convert 34 9 (.slice A m c)).run Try.prog W = .ok (.string ⟨la.toArray⟩) W
  len : la.length ≤ 100
  mn : min (n : Int) 100 = (m : Int)

theorem BytesIn.arg {w : World} {A : Option Addr} {n c : Nat} {l : List UInt8} (h : BytesIn w (.slice A n c) l) : ∃ m la, RnArg w A n c m la := by
  have h' := h
  obtain ⟨A', n', c', he, hl, hn, hc, hA⟩ := h
  obtain ⟨rfl, rfl, rfl⟩ := Value.slice.inj he
  have hsl : (l.take (min n 100)).length = min n 100 := by rw [List.length_take]; omega
  refine ⟨min n 100, l.take (min n 100), ⟨fun W => ?_, fun W hW => h'.src (Nat.le_refl _) hW _ (by omega) _, fun W hW => ?_, by rw [hsl]; omega, by omega⟩⟩
  · rcases hA with ⟨rfl, rfl, rfl⟩ | ⟨a, rfl, _, _⟩
    · simp [go_sem]
    · have hmc : min n 100 ≤ c := by omega
      generalize min n 100 = m at *
      simp [go_sem, hmc]
  · rcases hA with ⟨rfl, rfl, rfl⟩ | ⟨a, rfl, hlt, hcell⟩
    · have : l = [] := List.eq_nil_of_length_eq_zero hl
      subst this
      exact Lib.run_convert_nil_bytes W _ _ _ 0 tBytes tU8 tStr
    · have h := run_convert_bytes_back (P := Try.prog) W 34 9 5 a c (l.take (min n 100)) tBytes tU8 tStr (fun j hj => by
        rw [hsl] at hj
        have hj2 : j < l.length := by omega
        have := hcell j (bcell l[j]) (by simp [bcells, hj2])
        rw [hW.cell (p := a.add j) (by rw [block_of_add]; exact hlt (by omega)), this]
        simp [bcell])
      rw [hsl] at h
      exact h

set_option maxRecDepth 100000 in
set_option maxHeartbeats 2000000 in
theorem rn_walk_s {w : World} {A C : Option Addr} {n c n2 c2 m m2 : Nat} {la lb : List UInt8} (ha : RnArg w A n c m la) (hb : RnArg w C n2 c2 m2 lb) (keep sy : UInt8) (hs : (((sy.toNat : Int) % 2) == 1) = true) :
    Calls Try.prog 10 #[.slice A n c, .slice C n2 c2, .agg #[.int .u8 (keep.toNat : Int), .int .u8 (sy.toNat : Int)]] w fun e w' => e = .returned (.bool true) ∧ Below w.heap.size w w' := by
  have hcut1 := ha.cut
  have hcut2 := hb.cut
  have hmn1 := ha.mn
  have hmn2 := hb.mn
  have HA := Lib.hid ha
  have HB := Lib.hid hb
  have FF := Lib.hid (rn_new la lb 9 5)
  have hI := (rn9_i HA.out.len HB.out.len).crash [keep]
  rw [rnA_e] at hI
  have HI := Lib.hid hI
  have h1 := keep.toNat_lt
  have h2 := sy.toNat_lt
  have hself : ((⟨la.toArray⟩ : ByteArray).toList == (⟨la.toArray⟩ : ByteArray).toList) = true := by simp
  clear ha hb hI
  go_enter Try.func10, Try.ntmps10
  go_wp2
  go_region
  go_wp2
  go_region
  have hB0 : Below w.heap.size w (w.alloc (.cells #[.int .u8 (keep.toNat : Int), .int .u8 (sy.toNat : Int)] 69)).drew.drew := (((Below.refl _ _).alloc (Nat.le_refl _) _).drew).drew
  have B0 := Lib.hid hB0
  have N0 := Lib.hid (own_new 100000 w.heap.size _ hB0.size)
  clear hcut1 hcut2 hmn1 hmn2 hB0
  go_wp2_with (first
    | (go_at_call 13; refine N0.out.mono ?_; rintro e w1 ⟨p, rfl, ho, hb⟩; have O1 := Lib.hid ho; have B1 := Lib.hid (B0.out.trans hb); have t1 := True.intro; clear ho hb; unfold ptr)
    | (go_at_call 36; have _t := t1; refine (rnc_a O1.out).mono ?_; rintro e w2 ⟨rfl, ho, hb⟩; have O2 := Lib.hid ho; have B2 := Lib.hid (B1.out.trans hb); have t2 := True.intro; clear t1 ho hb)
    | (go_at_call 36; have _t := t2; refine (rnc_b O2.out).mono ?_; rintro e w3 ⟨rfl, ho, hb⟩; have O3 := Lib.hid ho; have B3 := Lib.hid (B2.out.trans hb); have t3 := True.intro; clear t2 ho hb)
    | (go_at_call 39; have _t := t3; refine (rna_a HA.out.len O3.out (HA.out.src _ B3.out)).mono ?_; rintro e w4 ⟨rfl, ho, hb⟩; have O4 := Lib.hid ho; have B4 := Lib.hid (B3.out.trans hb); have t4 := True.intro; clear t3 ho hb)
    | (go_at_call 39; have _t := t4; refine (rna_b HA.out.len HB.out.len O4.out (HB.out.src _ B4.out)).mono ?_; rintro e w5 ⟨rfl, ho, hb⟩; have O5 := Lib.hid ho; have B5 := Lib.hid (B4.out.trans hb); have t5 := True.intro; clear t4 ho hb)
    | (go_at_call 40; have _t := t5; refine (rns_a HA.out.len HB.out.len O5.out).mono ?_; rintro e w6 ⟨rfl, ho, hb⟩; have O6 := Lib.hid ho; have B6 := Lib.hid (B5.out.trans hb); have t6 := True.intro; clear t5 ho hb)
    | (go_at_call 40; have _t := t6; refine (rns_b HA.out.len HB.out.len O6.out).mono ?_; rintro e w7 ⟨rfl, ho, hb⟩; have O7 := Lib.hid ho; have B7 := Lib.hid (B6.out.trans hb); have t7 := True.intro; clear t6 ho hb)
    | (go_at_call 40; have _t := t7; refine (rns_c HA.out.len HB.out.len O7.out).mono ?_; rintro e w8 ⟨rfl, ho, hb⟩; have O8 := Lib.hid ho; have B8 := Lib.hid (B7.out.trans hb); have t8 := True.intro; clear t7 ho hb)
    | (go_at_call 41; have _t := t8; refine (rnr_a HA.out.len HB.out.len O8.out).mono ?_; rintro e w9 ⟨rfl, ho, hb⟩; have O9 := Lib.hid ho; have B9 := Lib.hid (B8.out.trans hb); have t9 := True.intro; clear t8 ho hb)
    | (go_at_call 40; have _t := t9; refine (rns_d HA.out.len HB.out.len O9.out).mono ?_; rintro e w10 ⟨rfl, ho, hb⟩; have O10 := Lib.hid ho; have B10 := Lib.hid (B9.out.trans hb); have t10 := True.intro; clear t9 ho hb)
    | (go_at_call 37; refine (rnk (rn9_i HA.out.len HB.out.len) (by omega) (by omega) keep (rnA_e la lb keep) O10.out).mono ?_; rintro e w11 ⟨rfl, ho, hb⟩; have O11 := Lib.hid (show Own w.heap.size w11 p (dsk [rootS, fileN la, fileN lb] 9 5) from ho); have B11 := Lib.hid (B10.out.trans hb); clear ho hb)
    | (go_at_call 38; refine (rnl HI.out (by omega) FF.out.1 (n := 1) (by rw [FF.out.2.1]; rfl) O11.out).mono ?_; rintro e w12 ⟨al, cl, rfl, ho, hb⟩; have O12 := Lib.hid ho; have B12 := Lib.hid (B11.out.trans hb); have u1 := True.intro; clear ho hb)
    | (go_at_call 18; have _t := u1; refine (rnf (n := 2) FF.out.2.2.1 FF.out.2.2.2.1 O12.out).mono ?_; rintro e w' ⟨rfl, rfl⟩; have u2 := True.intro; clear u1)
    | (go_at_call 42; refine (rnz (i := 2) FF.out.2.2.2.2.1 O12.out).mono ?_; rintro e w' ⟨rfl, rfl⟩)
    | (go_at_call 16; refine (rnd (i := 2) (l := la) HI.out (by omega) FF.out.2.2.2.2.2.1 FF.out.2.2.2.2.2.2 O12.out).mono ?_; rintro e w13 ⟨ar, nr, cr, rfl, hst, ho, hb⟩; have sr := hst _ (Below.refl _ _); have O13 := Lib.hid ho; have B13 := Lib.hid (B12.out.trans hb); have sa := HA.out.str _ B13.out; have AW := Lib.hid (awake_walk w13); clear ho hb hst)
    | (go_at_call 12; refine AW.out.mono ?_; rintro e w14 ⟨rfl, hb⟩; have B14 := Lib.hid (B13.out.trans (hb.mono B13.out.size)); clear hb))
  go_ret
  exact ⟨rfl, B14.out⟩

set_option maxRecDepth 100000 in
set_option maxHeartbeats 2000000 in
theorem rn_walk_k {w : World} {A C : Option Addr} {n c n2 c2 m m2 : Nat} {la lb : List UInt8} (ha : RnArg w A n c m la) (hb : RnArg w C n2 c2 m2 lb) (keep sy : UInt8) (hs : (((sy.toNat : Int) % 2) == 1) = false) (hk : (((keep.toNat : Int) % 2) == 1) = true) (hk2 : keep.toNat % 2 = 1) :
    Calls Try.prog 10 #[.slice A n c, .slice C n2 c2, .agg #[.int .u8 (keep.toNat : Int), .int .u8 (sy.toNat : Int)]] w fun e w' => e = .returned (.bool true) ∧ Below w.heap.size w w' := by
  have hcut1 := ha.cut
  have hcut2 := hb.cut
  have hmn1 := ha.mn
  have hmn2 := hb.mn
  have HA := Lib.hid ha
  have HB := Lib.hid hb
  have FF := Lib.hid (rn_new la lb 8 5)
  have hI := (rn8_i HA.out.len HB.out.len).crash [keep]
  rw [rnB_e, if_pos hk2] at hI
  have HI := Lib.hid hI
  have h1 := keep.toNat_lt
  have h2 := sy.toNat_lt
  have hself : ((⟨la.toArray⟩ : ByteArray).toList == (⟨la.toArray⟩ : ByteArray).toList) = true := by simp
  clear ha hb hI
  go_enter Try.func10, Try.ntmps10
  go_wp2
  go_region
  go_wp2
  go_region
  have hB0 : Below w.heap.size w (w.alloc (.cells #[.int .u8 (keep.toNat : Int), .int .u8 (sy.toNat : Int)] 69)).drew.drew := (((Below.refl _ _).alloc (Nat.le_refl _) _).drew).drew
  have B0 := Lib.hid hB0
  have N0 := Lib.hid (own_new 100000 w.heap.size _ hB0.size)
  clear hcut1 hcut2 hmn1 hmn2 hB0
  go_wp2_with (first
    | (go_at_call 13; refine N0.out.mono ?_; rintro e w1 ⟨p, rfl, ho, hb⟩; have O1 := Lib.hid ho; have B1 := Lib.hid (B0.out.trans hb); have t1 := True.intro; clear ho hb; unfold ptr)
    | (go_at_call 36; have _t := t1; refine (rnc_a O1.out).mono ?_; rintro e w2 ⟨rfl, ho, hb⟩; have O2 := Lib.hid ho; have B2 := Lib.hid (B1.out.trans hb); have t2 := True.intro; clear t1 ho hb)
    | (go_at_call 36; have _t := t2; refine (rnc_b O2.out).mono ?_; rintro e w3 ⟨rfl, ho, hb⟩; have O3 := Lib.hid ho; have B3 := Lib.hid (B2.out.trans hb); have t3 := True.intro; clear t2 ho hb)
    | (go_at_call 39; have _t := t3; refine (rna_a HA.out.len O3.out (HA.out.src _ B3.out)).mono ?_; rintro e w4 ⟨rfl, ho, hb⟩; have O4 := Lib.hid ho; have B4 := Lib.hid (B3.out.trans hb); have t4 := True.intro; clear t3 ho hb)
    | (go_at_call 39; have _t := t4; refine (rna_b HA.out.len HB.out.len O4.out (HB.out.src _ B4.out)).mono ?_; rintro e w5 ⟨rfl, ho, hb⟩; have O5 := Lib.hid ho; have B5 := Lib.hid (B4.out.trans hb); have t5 := True.intro; clear t4 ho hb)
    | (go_at_call 40; have _t := t5; refine (rns_a HA.out.len HB.out.len O5.out).mono ?_; rintro e w6 ⟨rfl, ho, hb⟩; have O6 := Lib.hid ho; have B6 := Lib.hid (B5.out.trans hb); have t6 := True.intro; clear t5 ho hb)
    | (go_at_call 40; have _t := t6; refine (rns_b HA.out.len HB.out.len O6.out).mono ?_; rintro e w7 ⟨rfl, ho, hb⟩; have O7 := Lib.hid ho; have B7 := Lib.hid (B6.out.trans hb); have t7 := True.intro; clear t6 ho hb)
    | (go_at_call 40; have _t := t7; refine (rns_c HA.out.len HB.out.len O7.out).mono ?_; rintro e w8 ⟨rfl, ho, hb⟩; have O8 := Lib.hid ho; have B8 := Lib.hid (B7.out.trans hb); have t8 := True.intro; clear t7 ho hb)
    | (go_at_call 41; have _t := t8; refine (rnr_a HA.out.len HB.out.len O8.out).mono ?_; rintro e w9 ⟨rfl, ho, hb⟩; have O9 := Lib.hid ho; have B9 := Lib.hid (B8.out.trans hb); have t9 := True.intro; clear t8 ho hb)
    | (go_at_call 37; refine (rnk (rn8_i HA.out.len HB.out.len) (by omega) (by omega) keep (by rw [rnB_e, if_pos hk2]) O9.out).mono ?_; rintro e w10 ⟨rfl, ho, hb⟩; have O10 := Lib.hid (show Own w.heap.size w10 p (dsk [rootS, fileN la, fileN lb] 8 5) from ho); have B10 := Lib.hid (B9.out.trans hb); clear ho hb)
    | (go_at_call 38; refine (rnl HI.out (by omega) FF.out.1 (n := 1) (by rw [FF.out.2.1]; rfl) O10.out).mono ?_; rintro e w11 ⟨al, cl, rfl, ho, hb⟩; have O11 := Lib.hid ho; have B11 := Lib.hid (B10.out.trans hb); have u1 := True.intro; clear ho hb)
    | (go_at_call 18; have _t := u1; refine (rnf (n := 2) FF.out.2.2.1 FF.out.2.2.2.1 O11.out).mono ?_; rintro e w' ⟨rfl, rfl⟩; have u2 := True.intro; clear u1)
    | (go_at_call 42; refine (rnz (i := 2) FF.out.2.2.2.2.1 O11.out).mono ?_; rintro e w' ⟨rfl, rfl⟩)
    | (go_at_call 16; refine (rnd (i := 2) (l := la) HI.out (by omega) FF.out.2.2.2.2.2.1 FF.out.2.2.2.2.2.2 O11.out).mono ?_; rintro e w12 ⟨ar, nr, cr, rfl, hst, ho, hb⟩; have sr := hst _ (Below.refl _ _); have O12 := Lib.hid ho; have B12 := Lib.hid (B11.out.trans hb); have sa := HA.out.str _ B12.out; have AW := Lib.hid (awake_walk w12); clear ho hb hst)
    | (go_at_call 12; refine AW.out.mono ?_; rintro e w13 ⟨rfl, hb⟩; have B13 := Lib.hid (B12.out.trans (hb.mono B12.out.size)); clear hb))
  go_ret
  exact ⟨rfl, B13.out⟩

set_option maxRecDepth 100000 in
set_option maxHeartbeats 2000000 in
theorem rn_walk_o {w : World} {A C : Option Addr} {n c n2 c2 m m2 : Nat} {la lb : List UInt8} (ha : RnArg w A n c m la) (hb : RnArg w C n2 c2 m2 lb) (keep sy : UInt8) (hs : (((sy.toNat : Int) % 2) == 1) = false) (hk : (((keep.toNat : Int) % 2) == 1) = false) (hk2 : keep.toNat % 2 = 0) :
    Calls Try.prog 10 #[.slice A n c, .slice C n2 c2, .agg #[.int .u8 (keep.toNat : Int), .int .u8 (sy.toNat : Int)]] w fun e w' => e = .returned (.bool true) ∧ Below w.heap.size w w' := by
  have hcut1 := ha.cut
  have hcut2 := hb.cut
  have hmn1 := ha.mn
  have hmn2 := hb.mn
  have HA := Lib.hid ha
  have HB := Lib.hid hb
  have FF := Lib.hid (rn_old la lb 8 5)
  have hI := (rn8_i HA.out.len HB.out.len).crash [keep]
  rw [rnB_e, if_neg (by omega)] at hI
  have HI := Lib.hid hI
  have h1 := keep.toNat_lt
  have h2 := sy.toNat_lt
  have hself : ((⟨lb.toArray⟩ : ByteArray).toList == (⟨lb.toArray⟩ : ByteArray).toList) = true := by simp
  clear ha hb hI
  go_enter Try.func10, Try.ntmps10
  go_wp2
  go_region
  go_wp2
  go_region
  have hB0 : Below w.heap.size w (w.alloc (.cells #[.int .u8 (keep.toNat : Int), .int .u8 (sy.toNat : Int)] 69)).drew.drew := (((Below.refl _ _).alloc (Nat.le_refl _) _).drew).drew
  have B0 := Lib.hid hB0
  have N0 := Lib.hid (own_new 100000 w.heap.size _ hB0.size)
  clear hcut1 hcut2 hmn1 hmn2 hB0
  go_wp2_with (first
    | (go_at_call 13; refine N0.out.mono ?_; rintro e w1 ⟨p, rfl, ho, hb⟩; have O1 := Lib.hid ho; have B1 := Lib.hid (B0.out.trans hb); have t1 := True.intro; clear ho hb; unfold ptr)
    | (go_at_call 36; have _t := t1; refine (rnc_a O1.out).mono ?_; rintro e w2 ⟨rfl, ho, hb⟩; have O2 := Lib.hid ho; have B2 := Lib.hid (B1.out.trans hb); have t2 := True.intro; clear t1 ho hb)
    | (go_at_call 36; have _t := t2; refine (rnc_b O2.out).mono ?_; rintro e w3 ⟨rfl, ho, hb⟩; have O3 := Lib.hid ho; have B3 := Lib.hid (B2.out.trans hb); have t3 := True.intro; clear t2 ho hb)
    | (go_at_call 39; have _t := t3; refine (rna_a HA.out.len O3.out (HA.out.src _ B3.out)).mono ?_; rintro e w4 ⟨rfl, ho, hb⟩; have O4 := Lib.hid ho; have B4 := Lib.hid (B3.out.trans hb); have t4 := True.intro; clear t3 ho hb)
    | (go_at_call 39; have _t := t4; refine (rna_b HA.out.len HB.out.len O4.out (HB.out.src _ B4.out)).mono ?_; rintro e w5 ⟨rfl, ho, hb⟩; have O5 := Lib.hid ho; have B5 := Lib.hid (B4.out.trans hb); have t5 := True.intro; clear t4 ho hb)
    | (go_at_call 40; have _t := t5; refine (rns_a HA.out.len HB.out.len O5.out).mono ?_; rintro e w6 ⟨rfl, ho, hb⟩; have O6 := Lib.hid ho; have B6 := Lib.hid (B5.out.trans hb); have t6 := True.intro; clear t5 ho hb)
    | (go_at_call 40; have _t := t6; refine (rns_b HA.out.len HB.out.len O6.out).mono ?_; rintro e w7 ⟨rfl, ho, hb⟩; have O7 := Lib.hid ho; have B7 := Lib.hid (B6.out.trans hb); have t7 := True.intro; clear t6 ho hb)
    | (go_at_call 40; have _t := t7; refine (rns_c HA.out.len HB.out.len O7.out).mono ?_; rintro e w8 ⟨rfl, ho, hb⟩; have O8 := Lib.hid ho; have B8 := Lib.hid (B7.out.trans hb); have t8 := True.intro; clear t7 ho hb)
    | (go_at_call 41; have _t := t8; refine (rnr_a HA.out.len HB.out.len O8.out).mono ?_; rintro e w9 ⟨rfl, ho, hb⟩; have O9 := Lib.hid ho; have B9 := Lib.hid (B8.out.trans hb); have t9 := True.intro; clear t8 ho hb)
    | (go_at_call 37; refine (rnk (rn8_i HA.out.len HB.out.len) (by omega) (by omega) keep (by rw [rnB_e, if_neg (by omega)]) O9.out).mono ?_; rintro e w10 ⟨rfl, ho, hb⟩; have O10 := Lib.hid (show Own w.heap.size w10 p (dsk [rootN, fileN la, fileN lb] 8 5) from ho); have B10 := Lib.hid (B9.out.trans hb); clear ho hb)
    | (go_at_call 38; refine (rnl HI.out (by omega) FF.out.1 (n := 2) (by rw [FF.out.2.1]; rfl) O10.out).mono ?_; rintro e w11 ⟨al, cl, rfl, ho, hb⟩; have O11 := Lib.hid ho; have B11 := Lib.hid (B10.out.trans hb); have u1 := True.intro; clear ho hb)
    | (go_at_call 18; have _t := u1; refine (rnf (n := 3) FF.out.2.2.1 FF.out.2.2.2.1 O11.out).mono ?_; rintro e w' ⟨rfl, rfl⟩; have u2 := True.intro; clear u1)
    | (go_at_call 42; refine (rnz (i := 3) FF.out.2.2.2.2.2.2.1 O11.out).mono ?_; rintro e w' ⟨rfl, rfl⟩)
    | (go_at_call 16; refine (rnd (i := 3) (l := lb) HI.out (by omega) FF.out.2.2.2.2.2.2.2.1 FF.out.2.2.2.2.2.2.2.2 O11.out).mono ?_; rintro e w12 ⟨ar, nr, cr, rfl, hst, ho, hb⟩; have sr := hst _ (Below.refl _ _); have O12 := Lib.hid ho; have B12 := Lib.hid (B11.out.trans hb); have sa := HB.out.str _ B12.out; have AW := Lib.hid (awake_walk w12); clear ho hb hst)
    | (go_at_call 18; have _t := u2; refine (rnf (n := 2) FF.out.2.2.2.2.1 FF.out.2.2.2.2.2.1 O12.out).mono ?_; rintro e w' ⟨rfl, rfl⟩; clear u2)
    | (go_at_call 12; refine AW.out.mono ?_; rintro e w13 ⟨rfl, hb⟩; have B13 := Lib.hid (B12.out.trans (hb.mono B12.out.size)); clear hb))
  go_ret
  exact ⟨rfl, B13.out⟩

end Go.Proofs.Ytagjmphmdgklkaa
