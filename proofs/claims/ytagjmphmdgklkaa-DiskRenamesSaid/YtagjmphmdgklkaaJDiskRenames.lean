/- DiskRenames returns true for every input. Conditions: none. -/
import Derived.Test.YtagjmphmdgklkaaJDiskRenames0
import Derived.Test.YtagjmphmdgklkaaG5
namespace Go.Proofs.Ytagjmphmdgklkaa.diskRenames
open Go.ChangeShapes Go.WideShapes Go.ChangeAt Go.RowKit

theorem own : ownKnob Try.prog.godebug = none := by kernel_rfl

theorem u8_of {a : Int} (h : (Lit.int .u8 a).wf = true) : ∃ n : UInt8, a = (n.toNat : Int) := by
  have h' := bounds_u8 h
  refine ⟨UInt8.ofNat a.toNat, ?_⟩
  rw [UInt8.toNat_ofNat']
  omega

theorem tArr : Try.prog.underlying 69 = some (.array 2 5) := by kernel_rfl
set_option maxRecDepth 100000 in
theorem cellsArr : Try.prog.cellsOf 69 = 2 := by kernel_rfl

set_option maxRecDepth 100000 in
theorem open_two {H : Type} {enc : TypeId × Value → H} {W : World} {base : Nat} {v : Value} {d : DataW H} {p : List MemPlace} (hval : Value.okWide Try.prog W .any base 69 v) (h : DataW.Trod enc Try.prog W 0 (fun _ => true) true 69 v d p) :
    ∃ k s : UInt8, v = .agg #[.int .u8 (k.toNat : Int), .int .u8 (s.toNat : Int)] := by
  simp only [Value.okWide, tArr] at hval
  obtain ⟨cs, rfl, hsz, _⟩ := hval
  rw [cellsArr] at hsz
  obtain ⟨l⟩ := cs
  match l, hsz with
  | [c0, c1], _ =>
    obtain ⟨fuel, hf⟩ := h
    cases fuel with
    | zero => cases hf
    | succ n =>
      rw [DataW.trod_step] at hf
      unfold DataW.trodStep at hf
      rw [tArr] at hf
      simp only at hf
      split at hf
      · simp only [Option.map_eq_some_iff] at hf
        obtain ⟨xs, hxs, _⟩ := hf
        rw [cellsU8] at hxs
        simp only [Value.cells, List.range_succ, List.range_zero, List.nil_append, List.cons_append, List.mapM_cons, List.mapM_nil, Option.bind_eq_bind, Option.pure_def, Option.bind_eq_some_iff] at hxs
        obtain ⟨y0, h0, _, ⟨y1, h1, _⟩, _⟩ := hxs
        simp at h0 h1
        obtain ⟨a0, e0, _, w0⟩ := DataW.trod_int tU8 h0
        obtain ⟨a1, e1, _, w1⟩ := DataW.trod_int tU8 h1
        obtain ⟨k, rfl⟩ := u8_of w0
        obtain ⟨s, rfl⟩ := u8_of w1
        simp at e0 e1
        exact ⟨k, s, by rw [e0, e1]⟩
      · cases hf

theorem walk {w : World} {va vb : Value} {la lb : List UInt8} (ha : BytesIn w va la) (hb : BytesIn w vb lb) (keep sy : UInt8) :
    Calls Try.prog 10 #[va, vb, .agg #[.int .u8 (keep.toNat : Int), .int .u8 (sy.toNat : Int)]] w fun e w' => e = .returned (.bool true) ∧ Below w.heap.size w w' := by
  obtain ⟨A, n, c, rfl, _⟩ := ha.ex
  obtain ⟨C, n2, c2, rfl, _⟩ := hb.ex
  obtain ⟨m, l1, h1⟩ := ha.arg
  obtain ⟨m2, l2, h2⟩ := hb.arg
  cases hs : (((sy.toNat : Int) % 2) == 1) with
  | true => exact rn_walk_s h1 h2 keep sy hs
  | false =>
    have hk : keep.toNat % 2 = 1 ∨ keep.toNat % 2 = 0 := by omega
    rcases hk with hk | hk
    · exact rn_walk_k h1 h2 keep sy hs (by simp; omega) hk
    · exact rn_walk_o h1 h2 keep sy hs (by simp; omega) hk

theorem types : plainTypes Try.prog [34, 5, 69] = true := by kernel_rfl

set_option maxRecDepth 100000 in
theorem lifted (os : Os) (started : os.Started) (H : Type) (enc : TypeId × Value → H) :
    ReturnsInHanded {} Try.checked os 10 .any (Rows.diskRenamesSpec.pre6 enc Try.prog Try.f10 Rows.diskRenamesRow.domain false) (Rows.diskRenamesSpec.post enc Try.prog Try.f10 false true false false) := by
  refine returnsInHanded_of_change (C := Try.checked) own started (by kernel_rfl) Try.func10
    (ChangeSpec.witness6 (enc := enc) (C := Try.checked) false ⟨#[], #[.slice none 0 0, .slice none 0 0, .agg #[.int .u8 0, .int .u8 0]], []⟩ 8 (by kernel_rfl) (by kernel_rfl) (by kernel_rfl) (by kernel_rfl)) ?_
  intro W base args ds gs before hval0 hW hcnd _
  have hval : ∀ (j : Nat) t v, Try.f10.params[j]? = some t → args[j]? = some v → Value.okWide Try.prog W .any base t v := hval0
  have hW' := hW
  obtain ⟨p, q, hA0, hV, rfl, hfz, hnd⟩ := hW
  have hA : DataW.TrodAll enc Try.prog W 0 (fun _ => true) true Try.f10.params.toList args.toList ds p := hA0
  rw [Try.params10] at hA hval
  obtain ⟨v0, vs0, d0, ds0, p0, q0, hargs, rfl, rfl, h0, r0⟩ := trodAll_cons hA
  obtain ⟨v1, vs1, d1, ds1, p1, q1, rfl, rfl, rfl, h1, r1⟩ := trodAll_cons r0
  obtain ⟨v2, vs2, d2, ds2, p2, q2, rfl, rfl, rfl, h2, r2⟩ := trodAll_cons r1
  obtain ⟨rfl, rfl, rfl⟩ := trodAll_nil r2
  obtain rfl : args = #[v0, v1, v2] := by cases args; simp_all
  obtain ⟨rfl, rfl⟩ := trodVars_none hV
  obtain ⟨la, ha⟩ := open_bytesIn (hval 0 34 v0 rfl rfl) h0
  obtain ⟨lb, hb⟩ := open_bytesIn (hval 1 34 v1 rfl rfl) h1
  obtain ⟨keep, sy, rfl⟩ := open_two (hval 2 69 v2 rfl rfl) h2
  clear hA0 hval0
  refine (walk ha hb keep sy).mono fun e W' ⟨he, hg⟩ => ?_
  subst he
  exact ⟨_, rfl, law_done hW' hg types (by rw [Try.params10]; simp) rfl rfl (fun _ _ _ => (trodAll_cons_mk (shut_bool Try.underlying4 _) trodAll_mk0)) rfl
    (ok_one (by kernel_rfl) rfl (okWide_bool_mk Try.underlying4 _))⟩

theorem over : Rows.diskRenamesRow.holds Try.pinned (OpenSpec.ofChange Rows.diskRenamesSpec) :=
  OpenClaim.holds_of_wide 10 Try.f10 rfl rfl rfl rfl rfl rfl rfl ⟨rfl, rfl, rfl, rfl, rfl⟩ rfl rfl rfl rfl rfl (by kernel_rfl) Try.func10 (by kernel_rfl)
    (of_decide_eq_true (by kernel_rfl)) (by unfold Func.isWrapper; first | (rw [if_pos (by decide +kernel)]; kernel_rfl) | (rw [if_neg (by decide +kernel)]; exact ⟨rfl, rfl⟩))
    (fun os started H enc _ => lifted os started H enc)

theorem proved : Rows.DiskRenamesSaid :=
  over
#print axioms proved
end Go.Proofs.Ytagjmphmdgklkaa.diskRenames
