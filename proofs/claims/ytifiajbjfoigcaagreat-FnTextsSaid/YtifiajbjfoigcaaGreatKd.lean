/-
  CONTRACTS of the functions that the law reaches, group Kd.
-/
import Derived.Test.YtifiajbjfoigcaaGreatKc
/-
  CONTRACTS: messages right or not, by kind.
-/
namespace Go.Abs
open Go Go.Proofs
set_option linter.unusedSimpArgs false
attribute [local simp] fieldAddr build fillL

def I64 (n : Int) : Prop := -(2 ^ 63) ≤ n ∧ n < 2 ^ 63
theorem wrap_address {n : Int} (h : I64 n) : (1 ≤ IntKind.i64.wrap (n - 10) ∧ IntKind.i64.wrap (n - 10) ≤ 4) = (11 ≤ n ∧ n ≤ 14) := by
  unfold I64 at h
  rw [show IntKind.i64.wrap (n - 10) = (n - 10 + 2 ^ 63) % 2 ^ 64 - 2 ^ 63 from by simp [IntKind.wrap, IntKind.bits, IntKind.signed]; omega]
  refine propext ⟨fun g => ?_, fun g => ?_⟩ <;> omega
theorem isAddress_eq' {n : Int} (h : I64 n) (H : Heap) : evF Tryz.prog TT 72 #[.int .i64 n] H = some (.bool (decide (11 ≤ n ∧ n ≤ 14)), H) := by
  rw [isAddress_eq]
  exact congrArg (fun b => some (Value.bool b, H)) (decide_eq_decide.2 (by rw [wrap_address h]))

set_option maxHeartbeats 1000000 in
theorem mok1 (s d t i j c : Int) (y : Bool) {x : List UInt8} {H : Heap} {a : Option Addr} {l : List Entr} (hl : Sl 2 encEntry H a l) (hs : I64 s) (hd : I64 d) (hx : Sm x) :
    evF Tryz.prog TT 38 #[.agg #[.int .i64 1, .int .i64 s, .int .i64 d, .int .i64 t, .int .i64 i, .int .i64 j, .int .i64 c, .bool y, .slice a l.length 0, S x]] H =
      some (.bool (msgOk ⟨1, s, d, t, i, j, c, y, l, x⟩), H) := by
  refine Ret.eq ?_
  refine Ret.go rfl Tryz.func38 rfl (by decide) (by simp [Tryz.ntmps38]) (by kernel_rfl) loc38 Tryz.results38 Tryz.ntmps38 ?_
  have hq := appOk_eq 1 s d t i j c y x hl
  have hsa := isAddress_eq' hs
  have hda := isAddress_eq' hd
  simp [-isPlace_eq, isPlace_eq', -isAddress_eq, hsa, hda, hx, hq]
  repeat' (first | (refine pendP (fun h => ?_) (fun h => ?_) <;> simp [-isAddress_eq, h, hx, hq, hsa, hda]) | (refine pendB (fun h => ?_) (fun h => ?_) <;> simp [-isAddress_eq, h, hx, hq, hsa, hda]))
  all_goals clear hq hsa hda
  all_goals refine bool_eq ?_
  all_goals simp [msgOk, between, place] at *
  all_goals (first | exact decide_eq_false (fun hh => by omega) | omega | (intros; omega) | (intros; simp_all; done) | (refine decide_eq_false (fun hh => ?_); simp_all <;> omega) | (constructor <;> intro hh <;> simp_all <;> omega))
set_option maxHeartbeats 1000000 in
theorem mok2 (s d t i j c : Int) (y : Bool) {x : List UInt8} {H : Heap} {a : Option Addr} {l : List Entr} (hl : Sl 2 encEntry H a l) (hs : I64 s) (hd : I64 d) (hx : Sm x) :
    evF Tryz.prog TT 38 #[.agg #[.int .i64 2, .int .i64 s, .int .i64 d, .int .i64 t, .int .i64 i, .int .i64 j, .int .i64 c, .bool y, .slice a l.length 0, S x]] H =
      some (.bool (msgOk ⟨2, s, d, t, i, j, c, y, l, x⟩), H) := by
  refine Ret.eq ?_
  refine Ret.go rfl Tryz.func38 rfl (by decide) (by simp [Tryz.ntmps38]) (by kernel_rfl) loc38 Tryz.results38 Tryz.ntmps38 ?_
  have hq := appOk_eq 2 s d t i j c y x hl
  have hsa := isAddress_eq' hs
  have hda := isAddress_eq' hd
  simp [-isPlace_eq, isPlace_eq', -isAddress_eq, hsa, hda, hx, hq]
  repeat' (first | (refine pendP (fun h => ?_) (fun h => ?_) <;> simp [-isAddress_eq, h, hx, hq, hsa, hda]) | (refine pendB (fun h => ?_) (fun h => ?_) <;> simp [-isAddress_eq, h, hx, hq, hsa, hda]))
  all_goals clear hq hsa hda
  all_goals refine bool_eq ?_
  all_goals simp [msgOk, between, place] at *
  all_goals (first | exact decide_eq_false (fun hh => by omega) | omega | (intros; omega) | (intros; simp_all; done) | (refine decide_eq_false (fun hh => ?_); simp_all <;> omega) | (constructor <;> intro hh <;> simp_all <;> omega))
set_option maxHeartbeats 1000000 in
theorem mok3 (s d t i j c : Int) (y : Bool) {x : List UInt8} {H : Heap} {a : Option Addr} {l : List Entr} (hl : Sl 2 encEntry H a l) (hs : I64 s) (hd : I64 d) (hx : Sm x) :
    evF Tryz.prog TT 38 #[.agg #[.int .i64 3, .int .i64 s, .int .i64 d, .int .i64 t, .int .i64 i, .int .i64 j, .int .i64 c, .bool y, .slice a l.length 0, S x]] H =
      some (.bool (msgOk ⟨3, s, d, t, i, j, c, y, l, x⟩), H) := by
  refine Ret.eq ?_
  refine Ret.go rfl Tryz.func38 rfl (by decide) (by simp [Tryz.ntmps38]) (by kernel_rfl) loc38 Tryz.results38 Tryz.ntmps38 ?_
  have hq := appOk_eq 3 s d t i j c y x hl
  have hsa := isAddress_eq' hs
  have hda := isAddress_eq' hd
  simp [-isPlace_eq, isPlace_eq', -isAddress_eq, hsa, hda, hx, hq]
  repeat' (first | (refine pendP (fun h => ?_) (fun h => ?_) <;> simp [-isAddress_eq, h, hx, hq, hsa, hda]) | (refine pendB (fun h => ?_) (fun h => ?_) <;> simp [-isAddress_eq, h, hx, hq, hsa, hda]))
  all_goals clear hq hsa hda
  all_goals refine bool_eq ?_
  all_goals simp [msgOk, between, place] at *
  all_goals (first | exact decide_eq_false (fun hh => by omega) | omega | (intros; omega) | (intros; simp_all; done) | (refine decide_eq_false (fun hh => ?_); simp_all <;> omega) | (constructor <;> intro hh <;> simp_all <;> omega))
set_option maxHeartbeats 1000000 in
theorem mok4 (s d t i j c : Int) (y : Bool) {x : List UInt8} {H : Heap} {a : Option Addr} {l : List Entr} (hl : Sl 2 encEntry H a l) (hs : I64 s) (hd : I64 d) (hx : Sm x) :
    evF Tryz.prog TT 38 #[.agg #[.int .i64 4, .int .i64 s, .int .i64 d, .int .i64 t, .int .i64 i, .int .i64 j, .int .i64 c, .bool y, .slice a l.length 0, S x]] H =
      some (.bool (msgOk ⟨4, s, d, t, i, j, c, y, l, x⟩), H) := by
  refine Ret.eq ?_
  refine Ret.go rfl Tryz.func38 rfl (by decide) (by simp [Tryz.ntmps38]) (by kernel_rfl) loc38 Tryz.results38 Tryz.ntmps38 ?_
  have hq := appOk_eq 4 s d t i j c y x hl
  have hsa := isAddress_eq' hs
  have hda := isAddress_eq' hd
  simp [-isPlace_eq, isPlace_eq', -isAddress_eq, hsa, hda, hx, hq]
  repeat' (first | (refine pendP (fun h => ?_) (fun h => ?_) <;> simp [-isAddress_eq, h, hx, hq, hsa, hda]) | (refine pendB (fun h => ?_) (fun h => ?_) <;> simp [-isAddress_eq, h, hx, hq, hsa, hda]))
  all_goals clear hq hsa hda
  all_goals refine bool_eq ?_
  all_goals simp [msgOk, between, place] at *
  all_goals (first | exact decide_eq_false (fun hh => by omega) | omega | (intros; omega) | (intros; simp_all; done) | (refine decide_eq_false (fun hh => ?_); simp_all <;> omega) | (constructor <;> intro hh <;> simp_all <;> omega))
set_option maxHeartbeats 1000000 in
theorem mok5 (s d t i j c : Int) (y : Bool) {x : List UInt8} {H : Heap} {a : Option Addr} {l : List Entr} (hl : Sl 2 encEntry H a l) (hs : I64 s) (hd : I64 d) (hx : Sm x) :
    evF Tryz.prog TT 38 #[.agg #[.int .i64 5, .int .i64 s, .int .i64 d, .int .i64 t, .int .i64 i, .int .i64 j, .int .i64 c, .bool y, .slice a l.length 0, S x]] H =
      some (.bool (msgOk ⟨5, s, d, t, i, j, c, y, l, x⟩), H) := by
  refine Ret.eq ?_
  refine Ret.go rfl Tryz.func38 rfl (by decide) (by simp [Tryz.ntmps38]) (by kernel_rfl) loc38 Tryz.results38 Tryz.ntmps38 ?_
  have hq := appOk_eq 5 s d t i j c y x hl
  have hsa := isAddress_eq' hs
  have hda := isAddress_eq' hd
  simp [-isPlace_eq, isPlace_eq', -isAddress_eq, hsa, hda, hx, hq]
  repeat' (first | (refine pendP (fun h => ?_) (fun h => ?_) <;> simp [-isAddress_eq, h, hx, hq, hsa, hda]) | (refine pendB (fun h => ?_) (fun h => ?_) <;> simp [-isAddress_eq, h, hx, hq, hsa, hda]))
  all_goals clear hq hsa hda
  all_goals refine bool_eq ?_
  all_goals simp [msgOk, between, place] at *
  all_goals (first | exact decide_eq_false (fun hh => by omega) | omega | (intros; omega) | (intros; simp_all; done) | (refine decide_eq_false (fun hh => ?_); simp_all <;> omega) | (constructor <;> intro hh <;> simp_all <;> omega))
set_option maxHeartbeats 1000000 in
theorem mok6 (s d t i j c : Int) (y : Bool) {x : List UInt8} {H : Heap} {a : Option Addr} {l : List Entr} (hl : Sl 2 encEntry H a l) (hs : I64 s) (hd : I64 d) (hx : Sm x) :
    evF Tryz.prog TT 38 #[.agg #[.int .i64 6, .int .i64 s, .int .i64 d, .int .i64 t, .int .i64 i, .int .i64 j, .int .i64 c, .bool y, .slice a l.length 0, S x]] H =
      some (.bool (msgOk ⟨6, s, d, t, i, j, c, y, l, x⟩), H) := by
  refine Ret.eq ?_
  refine Ret.go rfl Tryz.func38 rfl (by decide) (by simp [Tryz.ntmps38]) (by kernel_rfl) loc38 Tryz.results38 Tryz.ntmps38 ?_
  have hq := appOk_eq 6 s d t i j c y x hl
  have hsa := isAddress_eq' hs
  have hda := isAddress_eq' hd
  simp [-isPlace_eq, isPlace_eq', -isAddress_eq, hsa, hda, hx, hq]
  repeat' (first | (refine pendP (fun h => ?_) (fun h => ?_) <;> simp [-isAddress_eq, h, hx, hq, hsa, hda]) | (refine pendB (fun h => ?_) (fun h => ?_) <;> simp [-isAddress_eq, h, hx, hq, hsa, hda]))
  all_goals clear hq hsa hda
  all_goals refine bool_eq ?_
  all_goals simp [msgOk, between, place] at *
  all_goals (first | exact decide_eq_false (fun hh => by omega) | omega | (intros; omega) | (intros; simp_all; done) | (refine decide_eq_false (fun hh => ?_); simp_all <;> omega) | (constructor <;> intro hh <;> simp_all <;> omega))
set_option maxHeartbeats 1000000 in
theorem mok7 (s d t i j c : Int) (y : Bool) {x : List UInt8} {H : Heap} {a : Option Addr} {l : List Entr} (hl : Sl 2 encEntry H a l) (hs : I64 s) (hd : I64 d) (hx : Sm x) :
    evF Tryz.prog TT 38 #[.agg #[.int .i64 7, .int .i64 s, .int .i64 d, .int .i64 t, .int .i64 i, .int .i64 j, .int .i64 c, .bool y, .slice a l.length 0, S x]] H =
      some (.bool (msgOk ⟨7, s, d, t, i, j, c, y, l, x⟩), H) := by
  refine Ret.eq ?_
  refine Ret.go rfl Tryz.func38 rfl (by decide) (by simp [Tryz.ntmps38]) (by kernel_rfl) loc38 Tryz.results38 Tryz.ntmps38 ?_
  have hq := appOk_eq 7 s d t i j c y x hl
  have hsa := isAddress_eq' hs
  have hda := isAddress_eq' hd
  simp [-isPlace_eq, isPlace_eq', -isAddress_eq, hsa, hda, hx, hq]
  repeat' (first | (refine pendP (fun h => ?_) (fun h => ?_) <;> simp [-isAddress_eq, h, hx, hq, hsa, hda]) | (refine pendB (fun h => ?_) (fun h => ?_) <;> simp [-isAddress_eq, h, hx, hq, hsa, hda]))
  all_goals clear hq hsa hda
  all_goals refine bool_eq ?_
  all_goals simp [msgOk, between, place] at *
  all_goals (first | exact decide_eq_false (fun hh => by omega) | omega | (intros; omega) | (intros; simp_all; done) | (refine decide_eq_false (fun hh => ?_); simp_all <;> omega) | (constructor <;> intro hh <;> simp_all <;> omega))

theorem mok0 (k s d t i j c : Int) (y : Bool) {x : List UInt8} {H : Heap} {a : Option Addr} {l : List Entr} (k1 : k ≠ 1) (k2 : k ≠ 2) (k3 : k ≠ 3) (k4 : k ≠ 4) (k5 : k ≠ 5) (k6 : k ≠ 6) (k7 : k ≠ 7) :
    evF Tryz.prog TT 38 #[.agg #[.int .i64 k, .int .i64 s, .int .i64 d, .int .i64 t, .int .i64 i, .int .i64 j, .int .i64 c, .bool y, .slice a l.length 0, S x]] H =
      some (.bool (msgOk ⟨k, s, d, t, i, j, c, y, l, x⟩), H) := by
  refine Ret.eq ?_
  refine Ret.go rfl Tryz.func38 rfl (by decide) (by simp [Tryz.ntmps38]) (by kernel_rfl) loc38 Tryz.results38 Tryz.ntmps38 ?_
  simp [-isPlace_eq, isPlace_eq', -isAddress_eq, k1, k2, k3, k4, k5, k6, k7]
  repeat' (first | (refine pendP (fun h => ?_) (fun h => ?_) <;> simp [-isAddress_eq, h, k1, k2, k3, k4, k5, k6, k7]) | (refine pendB (fun h => ?_) (fun h => ?_) <;> simp [-isAddress_eq, h, k1, k2, k3, k4, k5, k6, k7]))
  all_goals simp [msgOk, k1, k2, k3, k4, k5, k6, k7]

def msgV (m : Msg') (a : Option Addr) : Value := .agg #[.int .i64 m.kind, .int .i64 m.src, .int .i64 m.dst, .int .i64 m.term, .int .i64 m.index, .int .i64 m.iterm, .int .i64 m.commit, .bool m.yes, .slice a m.ents.length 0, S m.data]
/-- A message whose addresses are whole numbers of the machine, and whose text is not too long. -/
def mIn (m : Msg') : Prop := I64 m.src ∧ I64 m.dst ∧ Sm m.data
theorem mok_eq {m : Msg'} {H : Heap} {a : Option Addr} (hl : Sl 2 encEntry H a m.ents) (hm : mIn m) : evF Tryz.prog TT 38 #[msgV m a] H = some (.bool (msgOk m), H) := by
  obtain ⟨k, s, d, t, i, j, c, y, l, x⟩ := m
  obtain ⟨hs, hd, hx⟩ := hm
  by_cases k1 : k = 1
  · subst k1; exact mok1 s d t i j c y hl hs hd hx
  by_cases k2 : k = 2
  · subst k2; exact mok2 s d t i j c y hl hs hd hx
  by_cases k3 : k = 3
  · subst k3; exact mok3 s d t i j c y hl hs hd hx
  by_cases k4 : k = 4
  · subst k4; exact mok4 s d t i j c y hl hs hd hx
  by_cases k5 : k = 5
  · subst k5; exact mok5 s d t i j c y hl hs hd hx
  by_cases k6 : k = 6
  · subst k6; exact mok6 s d t i j c y hl hs hd hx
  by_cases k7 : k = 7
  · subst k7; exact mok7 s d t i j c y hl hs hd hx
  exact mok0 k s d t i j c y k1 k2 k3 k4 k5 k6 k7
end Go.Abs

/-
  CONTRACTS: messages right or not, the other text.
-/
namespace Go.Abs
open Go Go.Proofs
set_option linter.unusedSimpArgs false
attribute [local simp] fieldAddr build fillL

section
variable {P : Program} {T : Table} {ls : List Nat} {rs : List ResultVar} {H0 : Heap} {post : Value → Heap → Prop} {fr : List Frame} {s : St}
/-- A cut within a row of statements: what holds after those of `a`, the first of `X`. -/
def Cutq (P : Program) (T : Table) (ls : List Nat) (rs : List ResultVar) (H0 : Heap) (post : Value → Heap → Prop) (fr : List Frame) (J : St → Prop) (a X : Code) : Prop :=
  ∀ s, @mC P T ⟨ls, rs, H0, post, .inv (fun s' => @here ⟨J⟩ s') :: fr⟩ ⟨a⟩ s → @mC P T ⟨ls, rs, H0, post, fr⟩ ⟨X⟩ s
theorem cutq_base {J : St → Prop} {a b : Code} (h2 : ∀ s', J s' → @mC P T ⟨ls, rs, H0, post, fr⟩ ⟨b⟩ s') : Cutq P T ls rs H0 post fr J a (.seq a b) := by
  intro s h1
  rw [mC_seq]
  have h1 : after P T ls rs H0 post (.inv J :: fr) (evC P T ls a s) := by unfold mC here at h1; exact h1
  unfold mC
  show after P T ls rs H0 post (.seq b :: fr) (evC P T ls a s)
  revert h1
  cases evC P T ls a s with
  | none => exact fun h => absurd h (after_none _)
  | some r => cases r with
    | norm s' =>
      intro h
      have g := h2 s' h
      unfold mC at g
      exact g
    | exit id s' => exact fun h => h
    | ret s' => exact fun h => h
theorem cutq_step {J : St → Prop} {a X c : Code} (h : Cutq P T ls rs H0 post fr J a X) : Cutq P T ls rs H0 post fr J (.seq c a) (.seq c X) := by
  intro s h1
  rw [mC_seq] at h1 ⊢
  have h1 : after P T ls rs H0 post (.seq a :: .inv J :: fr) (evC P T ls c s) := by unfold mC here at h1; exact h1
  unfold mC
  show after P T ls rs H0 post (.seq X :: fr) (evC P T ls c s)
  revert h1
  cases evC P T ls c s with
  | none => exact fun h => absurd h (after_none _)
  | some r => cases r with
    | norm s' =>
      intro h'
      have g := h s' (by unfold mC here; exact h')
      unfold mC at g
      exact g
    | exit id s' => exact fun h => h
    | ret s' => exact fun h => h
theorem mC_cutq (J : St → Prop) {a X : Code} (h : Cutq P T ls rs H0 post fr J a X) (h1 : @mC P T ⟨ls, rs, H0, post, .inv (fun s' => @here ⟨J⟩ s') :: fr⟩ ⟨a⟩ s) : @mC P T ⟨ls, rs, H0, post, fr⟩ ⟨X⟩ s := h s h1
end

def srv (s d : Int) : Prop := 0 ≤ s ∧ s ≤ 4 ∧ 0 ≤ d ∧ d ≤ 4 ∧ s ≠ d
def asks (s d : Int) : Prop := 11 ≤ s ∧ s ≤ 14 ∧ 0 ≤ d ∧ d ≤ 4
def trm (t : Int) : Prop := 1 ≤ t ∧ t ≤ 100000
instance (s d : Int) : Decidable (srv s d) := by unfold srv; infer_instance
instance (s d : Int) : Decidable (asks s d) := by unfold asks; infer_instance
instance (t : Int) : Decidable (trm t) := by unfold trm; infer_instance

set_option maxHeartbeats 4000000 in
theorem smok (k s d t i j c : Int) (y : Bool) {x : List UInt8} {H : Heap} {a : Option Addr} {l : List Entr} (hl : Sl 2 encEntry H a l) (hx : Sm x) :
    evF Tryz.prog TT 16 #[.agg #[.int .i64 k, .int .i64 s, .int .i64 d, .int .i64 t, .int .i64 i, .int .i64 j, .int .i64 c, .bool y, .slice a l.length 0, S x]] H =
      some (.bool (msgOk ⟨k, s, d, t, i, j, c, y, l, x⟩), H) := by
  refine Ret.eq ?_
  refine Ret.go rfl Tryz.func16 rfl (by decide) (by simp [Tryz.ntmps16]) (by kernel_rfl) loc16 Tryz.results16 Tryz.ntmps16 ?_
  refine mC_cutq (fun st => ∃ (e : Nat → Value) (loc : Nat → List Value) (b4 b5 b6 b7 : Bool), st = ⟨e, loc, 2, H, 244⟩ ∧ e 1 = lptr 0 0 ∧ e 3 = lptr 1 0 ∧ e 4 = .bool b4 ∧ e 5 = .bool b5 ∧
    e 6 = .bool b6 ∧ e 7 = .bool b7 ∧ (b4 = true ↔ srv s d) ∧ (b5 = true ↔ asks s d) ∧ (b6 = true ↔ asks d s) ∧ (b7 = true ↔ trm t) ∧ loc 0 = [.int .i64 k, .int .i64 s, .int .i64 d, .int .i64 t, .int .i64 i, .int .i64 j, .int .i64 c, .bool y, .slice a l.length 0, S x] ∧
    loc 1 = [.int .i64 k, .int .i64 s, .int .i64 d, .int .i64 0, .int .i64 0, .int .i64 0, .int .i64 0, .bool false, .slice none 0 0, S []]) (cutq_step (cutq_step (cutq_step (cutq_step (cutq_step (cutq_base ?_)))))) ?_
  · rintro st ⟨e, loc, b4, b5, b6, b7, rfl, e1, e3, e4, e5, e6, e7, h4, h5, h6, h7, l0, l1⟩
    have hq1 := fun (k1 s1 d1 t1 i1 j1 c1 : Int) (y1 : Bool) (x1 : List UInt8) (k2 s2 d2 t2 i2 j2 c2 : Int) (y2 : Bool) (x2 : List UInt8) => l15Same_head k1 s1 d1 t1 i1 j1 c1 y1 x1 k2 s2 d2 t2 i2 j2 c2 y2 x2 hl hl
    have hq2 := fun (k1 s1 d1 t1 i1 j1 c1 : Int) (y1 : Bool) (x1 : List UInt8) (k2 s2 d2 t2 i2 j2 c2 : Int) (y2 : Bool) (x2 : List UInt8) => l15Same_head k1 s1 d1 t1 i1 j1 c1 y1 x1 k2 s2 d2 t2 i2 j2 c2 y2 x2 hl (Sl.nil 2 encEntry H)
    have hr := run_eq hl j t
    have hro := specReadOp_eq hx
    have hra := specReadAns_eq hx
    simp only [List.length_nil] at hq2
    have hw : place i j → l.length ≤ 4 → IntKind.i64.wrap (i + l.length) = i + l.length := fun h h' => by unfold place at h; rw [wrap_i64 (by omega) (by omega)]
    by_cases k1 : k = 1
    · subst k1
      simp [e1, e3, e4, e5, e6, e7, l0, l1, hq1, hq2, hr, hro, hra, l1In_eq, specBased_eq', -specBased_eq]
      repeat' (first | (refine pendP (fun h => ?_) (fun h => ?_) <;> simp [h, e1, e3, e4, e5, e6, e7, l0, l1, hq1, hq2, hr, hro, hra, l1In_eq, specBased_eq', -specBased_eq]) | (refine pendB (fun h => ?_) (fun h => ?_) <;> simp [h, e1, e3, e4, e5, e6, e7, l0, l1, hq1, hq2, hr, hro, hra, l1In_eq, specBased_eq', -specBased_eq]))
      all_goals clear hq1 hq2 hr hro hra e1 e3 e4 e5 e6 e7 l0 l1
      all_goals refine bool_eq ?_
      all_goals simp_all
      all_goals simp [msgOk, between, place, srv, asks, trm] at *
      all_goals (first | exact decide_eq_false (fun hh => by omega) | omega | (intros; omega) | (intros; simp_all; done) | (refine decide_eq_false (fun hh => ?_); simp_all <;> omega) | (constructor <;> intro hh <;> simp_all <;> omega))
    by_cases k2 : k = 2
    · subst k2
      clear k1
      simp [e1, e3, e4, e5, e6, e7, l0, l1, hq1, hq2, hr, hro, hra, l1In_eq, specBased_eq', -specBased_eq]
      repeat' (first | (refine pendP (fun h => ?_) (fun h => ?_) <;> simp [h, e1, e3, e4, e5, e6, e7, l0, l1, hq1, hq2, hr, hro, hra, l1In_eq, specBased_eq', -specBased_eq]) | (refine pendB (fun h => ?_) (fun h => ?_) <;> simp [h, e1, e3, e4, e5, e6, e7, l0, l1, hq1, hq2, hr, hro, hra, l1In_eq, specBased_eq', -specBased_eq]))
      all_goals clear hq1 hq2 hr hro hra e1 e3 e4 e5 e6 e7 l0 l1
      all_goals refine bool_eq ?_
      all_goals simp_all
      all_goals simp [msgOk, between, place, srv, asks, trm] at *
      all_goals (first | exact decide_eq_false (fun hh => by omega) | omega | (intros; omega) | (intros; simp_all; done) | (refine decide_eq_false (fun hh => ?_); simp_all <;> omega) | (constructor <;> intro hh <;> simp_all <;> omega))
    by_cases k3 : k = 3
    · subst k3
      clear k1 k2
      simp [e1, e3, e4, e5, e6, e7, l0, l1, hq1, hq2, hr, hro, hra, l1In_eq, specBased_eq', -specBased_eq]
      repeat' (first | (refine pendP (fun h => ?_) (fun h => ?_) <;> simp [h, e1, e3, e4, e5, e6, e7, l0, l1, hq1, hq2, hr, hro, hra, l1In_eq, specBased_eq', -specBased_eq]) | (refine pendB (fun h => ?_) (fun h => ?_) <;> simp [h, e1, e3, e4, e5, e6, e7, l0, l1, hq1, hq2, hr, hro, hra, l1In_eq, specBased_eq', -specBased_eq]))
      all_goals clear hq1 hq2 hr hro hra e1 e3 e4 e5 e6 e7 l0 l1
      all_goals refine bool_eq ?_
      all_goals simp_all
      all_goals simp [msgOk, between, place, srv, asks, trm] at *
      all_goals (first | exact decide_eq_false (fun hh => by omega) | omega | (intros; omega) | (intros; simp_all; done) | (refine decide_eq_false (fun hh => ?_); simp_all <;> omega) | (constructor <;> intro hh <;> simp_all <;> omega))
    by_cases k4 : k = 4
    · subst k4
      clear k1 k2 k3
      simp [e1, e3, e4, e5, e6, e7, l0, l1, hq1, hq2, hr, hro, hra, l1In_eq, specBased_eq', -specBased_eq]
      repeat' (first | (refine pendP (fun h => ?_) (fun h => ?_) <;> simp [h, e1, e3, e4, e5, e6, e7, l0, l1, hq1, hq2, hr, hro, hra, l1In_eq, specBased_eq', -specBased_eq]) | (refine pendB (fun h => ?_) (fun h => ?_) <;> simp [h, e1, e3, e4, e5, e6, e7, l0, l1, hq1, hq2, hr, hro, hra, l1In_eq, specBased_eq', -specBased_eq]))
      all_goals clear hq1 hq2 hr hro hra e1 e3 e4 e5 e6 e7 l0 l1
      all_goals refine bool_eq ?_
      all_goals simp_all
      all_goals simp [msgOk, between, place, srv, asks, trm] at *
      all_goals (first | exact decide_eq_false (fun hh => by omega) | omega | (intros; omega) | (intros; simp_all; done) | (refine decide_eq_false (fun hh => ?_); simp_all <;> omega) | (constructor <;> intro hh <;> simp_all <;> omega))
    by_cases k5 : k = 5
    · subst k5
      clear k1 k2 k3 k4
      simp [e1, e3, e4, e5, e6, e7, l0, l1, hq1, hq2, hr, hro, hra, l1In_eq, specBased_eq', -specBased_eq]
      repeat' (first | (refine pendP (fun h => ?_) (fun h => ?_) <;> simp [h, e1, e3, e4, e5, e6, e7, l0, l1, hq1, hq2, hr, hro, hra, l1In_eq, specBased_eq', -specBased_eq]) | (refine pendB (fun h => ?_) (fun h => ?_) <;> simp [h, e1, e3, e4, e5, e6, e7, l0, l1, hq1, hq2, hr, hro, hra, l1In_eq, specBased_eq', -specBased_eq]))
      all_goals clear hq1 hq2 hr hro hra e1 e3 e4 e5 e6 e7 l0 l1
      all_goals refine bool_eq ?_
      all_goals simp_all
      all_goals simp [msgOk, between, place, srv, asks, trm] at *
      all_goals (first | exact decide_eq_false (fun hh => by omega) | omega | (intros; omega) | (intros; simp_all; done) | (refine decide_eq_false (fun hh => ?_); simp_all <;> omega) | (constructor <;> intro hh <;> simp_all <;> omega))
    by_cases k6 : k = 6
    · subst k6
      clear k1 k2 k3 k4 k5
      simp [e1, e3, e4, e5, e6, e7, l0, l1, hq1, hq2, hr, hro, hra, l1In_eq, specBased_eq', -specBased_eq]
      repeat' (first | (refine pendP (fun h => ?_) (fun h => ?_) <;> simp [h, e1, e3, e4, e5, e6, e7, l0, l1, hq1, hq2, hr, hro, hra, l1In_eq, specBased_eq', -specBased_eq]) | (refine pendB (fun h => ?_) (fun h => ?_) <;> simp [h, e1, e3, e4, e5, e6, e7, l0, l1, hq1, hq2, hr, hro, hra, l1In_eq, specBased_eq', -specBased_eq]))
      all_goals clear hq1 hq2 hr hro hra e1 e3 e4 e5 e6 e7 l0 l1
      all_goals refine bool_eq ?_
      all_goals simp_all
      all_goals simp [msgOk, between, place, srv, asks, trm] at *
      all_goals (first | exact decide_eq_false (fun hh => by omega) | omega | (intros; omega) | (intros; simp_all; done) | (refine decide_eq_false (fun hh => ?_); simp_all <;> omega) | (constructor <;> intro hh <;> simp_all <;> omega))
    by_cases k7 : k = 7
    · subst k7
      clear k1 k2 k3 k4 k5 k6
      simp [e1, e3, e4, e5, e6, e7, l0, l1, hq1, hq2, hr, hro, hra, l1In_eq, specBased_eq', -specBased_eq]
      repeat' (first | (refine pendP (fun h => ?_) (fun h => ?_) <;> simp [h, e1, e3, e4, e5, e6, e7, l0, l1, hq1, hq2, hr, hro, hra, l1In_eq, specBased_eq', -specBased_eq]) | (refine pendB (fun h => ?_) (fun h => ?_) <;> simp [h, e1, e3, e4, e5, e6, e7, l0, l1, hq1, hq2, hr, hro, hra, l1In_eq, specBased_eq', -specBased_eq]))
      all_goals clear hq1 hq2 hr hro hra e1 e3 e4 e5 e6 e7 l0 l1
      all_goals refine bool_eq ?_
      all_goals simp_all
      all_goals simp [msgOk, between, place, srv, asks, trm] at *
      all_goals (first | exact decide_eq_false (fun hh => by omega) | omega | (intros; omega) | (intros; simp_all; done) | (refine decide_eq_false (fun hh => ?_); simp_all <;> omega) | (constructor <;> intro hh <;> simp_all <;> omega))
    simp [e1, e3, e4, e5, e6, e7, l0, l1, hq1, hq2, hr, hro, hra, l1In_eq, specBased_eq', -specBased_eq, k1, k2, k3, k4, k5, k6, k7]
    repeat' (first | (refine pendP (fun h => ?_) (fun h => ?_) <;> simp [h, e1, e3, e4, e5, e6, e7, l0, l1, hq1, hq2, hr, hro, hra, l1In_eq, specBased_eq', -specBased_eq, k1, k2, k3, k4, k5, k6, k7]) | (refine pendB (fun h => ?_) (fun h => ?_) <;> simp [h, e1, e3, e4, e5, e6, e7, l0, l1, hq1, hq2, hr, hro, hra, l1In_eq, specBased_eq', -specBased_eq, k1, k2, k3, k4, k5, k6, k7]))
    all_goals simp [msgOk, k1, k2, k3, k4, k5, k6, k7]
  · simp
    repeat' (refine pendB (fun h => ?_) (fun h => ?_) <;> simp [h])
    all_goals exact here_intro ⟨_, _, _, _, _, _, rfl, by simp, by simp, rfl, rfl, rfl, rfl, by simp [srv, asks, trm] at *; (try omega), by simp [srv, asks, trm] at *; (try omega), by simp [srv, asks, trm] at *; (try omega), by simp [srv, asks, trm] at *; (try omega), by simp, by simp⟩

theorem smok_eq {m : Msg'} {H : Heap} {a : Option Addr} (hl : Sl 2 encEntry H a m.ents) (hx : Sm m.data) : evF Tryz.prog TT 16 #[msgV m a] H = some (.bool (msgOk m), H) :=
  smok m.kind m.src m.dst m.term m.index m.iterm m.commit m.yes hl hx
end Go.Abs

/-
  CONTRACTS: messages shown.
-/
namespace Go.Abs
open Go Go.Proofs
set_option linter.unusedSimpArgs false
attribute [local simp] fieldAddr build fillL

theorem Sl_lit (H : Heap) (l : List Int) (h : l.length < 2 ^ 44) : Sl 1 encI (H.push (l.map fun x => .int .i64 x) 1) (some ⟨H.size, 0, none⟩) l := by
  refine ⟨h, .inr ⟨H.size, 0, rfl, by simp, by simp, fun k hk => ?_⟩⟩
  simp [encI, hk]

def shown (l : List Int) : List UInt8 := (l.map var).flatten
theorem shown_len : ∀ l : List Int, (shown l).length ≤ 7 * l.length
  | [] => by simp [shown]
  | x :: r => by
    have h := shown_len r
    have h1 := var_len x
    simp only [shown, List.map_cons, List.flatten_cons, List.length_append, List.length_cons] at h ⊢
    omega
theorem shown_take {l : List Int} {i : Nat} (h : i < l.length) : shown (l.take (i + 1)) = shown (l.take i) ++ var l[i] := by
  rw [List.take_succ_eq_append_getElem h]
  simp only [shown, List.map_append, List.map_cons, List.map_nil, List.flatten_append, List.flatten_cons, List.flatten_nil, List.append_nil]
theorem rawEnts_len : ∀ {l : List Entr}, (∀ e ∈ l, e.2.length ≤ 900) → (rawEnts l).length ≤ 914 * l.length
  | [], _ => by simp [rawEnts]
  | x :: r, hh => by
    have h := rawEnts_len fun e he => hh e (List.mem_cons_of_mem _ he)
    have h1 := var_len x.1
    have h2 := var_len x.2.length
    have h3 := hh x (List.mem_cons_self ..)
    simp only [rawEnts, List.map_cons, List.flatten_cons, List.length_append, List.length_cons] at h ⊢
    omega
theorem rawEnts_take {l : List Entr} {i : Nat} (h : i < l.length) : rawEnts (l.take (i + 1)) = rawEnts (l.take i) ++ (var l[i].1 ++ (var l[i].2.length ++ l[i].2)) := by
  rw [List.take_succ_eq_append_getElem h]
  simp only [rawEnts, List.map_append, List.map_cons, List.map_nil, List.flatten_append, List.flatten_cons, List.flatten_nil, List.append_nil]

set_option maxHeartbeats 1000000 in
theorem showMsg_eq {m : Msg'} {H : Heap} {a : Option Addr} (hl : Sl 2 encEntry H a m.ents) (hm : mIn m) : evF Tryz.prog TT 15 #[msgV m a] H = some (S (showMsg m), H) := by
  refine Ret.eq ?_
  refine Ret.go rfl Tryz.func15 rfl (by decide) (by simp [Tryz.ntmps15]) (by kernel_rfl) loc15 Tryz.results15 Tryz.ntmps15 ?_
  have hk := mok_eq hl hm
  unfold msgV at hk ⊢
  by_cases ho : msgOk m = true
  · rw [ho] at hk
    obtain ⟨r1, r2, r3⟩ := msgOk_rng ho
    refine mC_cutq (fun st => ∃ (e : Nat → Value) (loc : Nat → List Value), st = ⟨e, loc, 1, H, 69⟩ ∧ e 1 = lptr 0 0 ∧ e 3 = .int .i64 (yesI m.yes) ∧ e 4 = S [] ∧
      loc 0 = [.int .i64 m.kind, .int .i64 m.src, .int .i64 m.dst, .int .i64 m.term, .int .i64 m.index, .int .i64 m.iterm, .int .i64 m.commit, .bool m.yes, .slice a m.ents.length 0, S m.data]) (cutq_step (cutq_step (cutq_step (cutq_step (cutq_base ?_))))) ?_
    · rintro st ⟨e, loc, rfl, e1, e3, e4, l0⟩
      simp [e1, e3, e4, l0]
      have hS := Sl_lit H (heads m) (by simp [heads])
      have hKe : H.push [.int .i64 m.kind, .int .i64 m.src, .int .i64 m.dst, .int .i64 m.term, .int .i64 m.index, .int .i64 m.iterm, .int .i64 m.commit, .int .i64 (yesI m.yes), .int .i64 m.ents.length] 1 = H.push ((heads m).map fun x => .int .i64 x) 1 := rfl
      have hU : Upd no H (H.push ((heads m).map fun x => .int .i64 x) 1) := (Upd_refl H).push _ 1
      have h9 : (heads m).length = 9 := rfl
      rw [hKe]
      generalize H.push ((heads m).map fun x => Value.int .i64 x) 1 = K at hS hU ⊢
      have hlK := hl.pe (by decide) hU.pe
      have hx := indexAddr_Sl (P := Tryz.prog) hS ti72
      have hy := indexAddr_Sl (P := Tryz.prog) hlK ti40
      rw [h9] at hx
      have hr := fun e he => (r3 e he).2
      have hdl := hm.2.2.lt
      refine mC_loop (fun j st => ∃ (e : Nat → Value) (loc : Nat → List Value) (i : Nat), st = ⟨e, loc, 1, K, 69⟩ ∧ j + i = 9 ∧ e 1 = lptr 0 0 ∧ e 4 = S (shown ((heads m).take i)) ∧ e 32 = .slice (some ⟨H.size, 0, none⟩) 9 0 ∧ e 33 = .int .i64 9 ∧ e 34 = .int .i64 i ∧
        loc 0 = [.int .i64 m.kind, .int .i64 m.src, .int .i64 m.dst, .int .i64 m.term, .int .i64 m.index, .int .i64 m.iterm, .int .i64 m.commit, .bool m.yes, .slice a m.ents.length 0, S m.data]) ?_ (j := 9) ⟨_, _, 0, rfl, rfl, by simp [e1], by simp [shown, e4], by simp, by simp, by simp, l0⟩
      rintro j st ⟨e, loc, i, rfl, hj, e1, e4, e32, e33, e34, l0⟩
      simp [e1, e4, e32, e33, e34, l0]
      refine pendP (fun c => ?_) (fun c => ?_)
      · have hd := ld_int hS (Pe.rfl' K) i (by rw [h9]; omega)
        have hw := wrap_nat (k := i) (by omega)
        have c9 : i < 9 := by omega
        have hsl := shown_len ((heads m).take i)
        have hvl := var_len (gi (heads m) i)
        have hst := shown_take (l := heads m) (i := i) (by omega)
        rw [← gi_get (by omega)] at hst
        rw [List.length_take] at hsl
        simp [e1, e4, e32, e33, e34, l0, hx, hd, c, c9, var_eq]
        refine ⟨by omega, ?_⟩
        exact again_intro (j - 1) (by omega) ⟨_, _, i + 1, rfl, by omega, by simp [e1, e4, e32, e33, e34, l0], by simp [hst], by simp [e1, e4, e32, e33, e34, l0], by simp [e1, e4, e32, e33, e34, l0], by simp [hw], by simp [e1, e4, e32, e33, e34, l0]⟩
      · have hi9 : i = 9 := by omega
        subst hi9
        have ht : (heads m).take 9 = heads m := rfl
        rw [ht] at e4
        have hsl := shown_len (heads m)
        rw [h9] at hsl
        simp [e1, e4, e32, e33, e34, l0]
        refine mC_loop (fun j st => ∃ (e : Nat → Value) (loc : Nat → List Value) (g i : Nat), st = ⟨e, loc, g, K, 69⟩ ∧ 0 < g ∧ j + i = m.ents.length ∧ e 1 = lptr 0 0 ∧ e 4 = S (shown (heads m) ++ rawEnts (m.ents.take i)) ∧ e 44 = .slice a m.ents.length 0 ∧ e 45 = .int .i64 m.ents.length ∧ e 46 = .int .i64 i ∧
          loc 0 = [.int .i64 m.kind, .int .i64 m.src, .int .i64 m.dst, .int .i64 m.term, .int .i64 m.index, .int .i64 m.iterm, .int .i64 m.commit, .bool m.yes, .slice a m.ents.length 0, S m.data]) ?_ (j := m.ents.length) ⟨_, _, _, 0, rfl, by decide, rfl, by simp [e1], by simp [rawEnts, e4], by simp, by simp, by simp, l0⟩
        rintro j st ⟨e, loc, g, i, rfl, hg, hj, e1, e4, e44, e45, e46, l0⟩
        have g0 : ¬ g = 0 := by omega
        have g0' : ¬ 0 = g := by omega
        simp [e1, e4, e44, e45, e46, l0, hg, g0, g0']
        refine pendP (fun c => ?_) (fun c => ?_)
        · have hd := hlK.ld (Pe.rfl' K) (by decide) i 0 2 c (by decide)
          have hw := wrap_nat (k := i) (by omega)
          have hre := rawEnts_len (l := m.ents.take i) fun e he => hr e (List.mem_of_mem_take he)
          rw [List.length_take] at hre
          have h1 := hr _ (List.getElem_mem c)
          have hsm : Sm m.ents[i].2 := Nat.lt_of_le_of_lt h1 (by decide)
          have hv1 := var_len m.ents[i].1
          have hv2 := var_len m.ents[i].2.length
          have hst := rawEnts_take c
          simp (maxDischargeDepth := 30) [e1, e4, e44, e45, e46, l0, hg, g0, g0', hy, hd, c, var_eq, encEntry, hsm]
          refine ⟨by omega, by omega, ?_⟩
          exact again_intro (j - 1) (by omega) ⟨_, _, _, i + 1, rfl, by omega, by omega, by simp [e1, e4, e44, e45, e46, l0, hg, g0, g0'], by simp [hst], by simp [e1, e4, e44, e45, e46, l0, hg, g0, g0'], by simp [e1, e4, e44, e45, e46, l0, hg, g0, g0'], by simp [hw], by simp [e1, e4, e44, e45, e46, l0, hg, g0, g0']⟩
        · have ht : m.ents.take i = m.ents := List.take_of_length_le (by omega)
          rw [ht] at e4
          have hre := rawEnts_len hr
          have hlen : (shown (heads m) ++ (rawEnts m.ents ++ m.data)).length < 2 ^ 62 := by simp; omega
          have hraw : shown (heads m) ++ (rawEnts m.ents ++ m.data) = rawMsg m := rfl
          have hcr := crc_eq (shown (heads m) ++ (rawEnts m.ents ++ m.data)) K hlen
          have hfl := fixed_length (crc (rawMsg m)) 4
          have hlen2 : (shown (heads m) ++ (rawEnts m.ents ++ m.data)).length < 2 ^ 61 + 10000 := by simp; omega
          rw [hraw] at hcr hlen hlen2
          simp [e1, e4, e44, e45, e46, l0, hg, g0, g0']
          rw [hraw]
          simp [hcr, fixed_eq]
          refine ⟨by omega, by omega, by simp [showMsg, ho], gc_flat rfl hU⟩
    · simp [hk]
      refine pendB (fun h => ?_) (fun h => ?_)
      · simp [h]
        exact here_intro ⟨_, _, rfl, by simp, by simp [yesI, h], by simp, by simp [h]⟩
      · simp [h]
        exact here_intro ⟨_, _, rfl, by simp, by simp [yesI, h], by simp, by simp [h]⟩
  · rw [Bool.not_eq_true] at ho
    rw [ho] at hk
    simp [hk, showMsg, ho]

set_option maxHeartbeats 1000000 in
theorem specShowMsg_eq {m : Msg'} {H : Heap} {a : Option Addr} (hl : Sl 2 encEntry H a m.ents) (hm : Sm m.data) : evF Tryz.prog TT 30 #[msgV m a] H = some (S (showMsg m), H) := by
  refine Ret.eq ?_
  refine Ret.go rfl Tryz.func30 rfl (by decide) (by simp [Tryz.ntmps30]) (by kernel_rfl) loc30 Tryz.results30 Tryz.ntmps30 ?_
  have hk := smok_eq hl hm
  unfold msgV at hk ⊢
  by_cases ho : msgOk m = true
  · rw [ho] at hk
    obtain ⟨r1, r2, r3⟩ := msgOk_rng ho
    have hy := indexAddr_Sl (P := Tryz.prog) hl ti40
    have hr := fun e he => (r3 e he).2
    have hdl := hm.lt
    have hsl := shown_len (heads m)
    have h9 : (heads m).length = 9 := rfl
    rw [h9] at hsl
    have hvv := fun n => var_len n
    have hsh : shown (heads m) = var m.kind ++ (var m.src ++ (var m.dst ++ (var m.term ++ (var m.index ++ (var m.iterm ++ (var m.commit ++ (var (yesI m.yes) ++ var m.ents.length))))))) := by simp [shown, heads]
    have va1 := var_len m.kind
    have va2 := var_len m.src
    have va3 := var_len m.dst
    have va4 := var_len m.term
    have va5 := var_len m.index
    have va6 := var_len m.iterm
    have va7 := var_len m.commit
    have va8 := var_len (yesI m.yes)
    have va9 := var_len m.ents.length
    simp (maxDischargeDepth := 30) [hk, specVar_eq]
    refine ⟨by omega, by omega, by omega, by omega, by omega, by omega, by omega, by omega, ?_⟩
    rw [← hsh]
    refine mC_loop (fun j st => ∃ (e : Nat → Value) (loc : Nat → List Value) (i : Nat), st = ⟨e, loc, 1, H, 86⟩ ∧ j + i = m.ents.length ∧ e 1 = lptr 0 0 ∧ e 3 = S (shown (heads m) ++ rawEnts (m.ents.take i)) ∧ e 4 = .int .i64 i ∧
      loc 0 = [.int .i64 m.kind, .int .i64 m.src, .int .i64 m.dst, .int .i64 m.term, .int .i64 m.index, .int .i64 m.iterm, .int .i64 m.commit, .bool m.yes, .slice a m.ents.length 0, S m.data]) ?_ (j := m.ents.length) ⟨_, _, 0, rfl, rfl, by simp, by simp [rawEnts], by simp, by simp⟩
    rintro j st ⟨e, loc, i, rfl, hj, e1, e3, e4, l0⟩
    simp [e1, e3, e4, l0]
    refine pendP (fun c => ?_) (fun c => ?_)
    · have hd := fun o k (h : o + k ≤ 2) => hl.ld (Pe.rfl' H) (by decide) i o k c h
      have hat := fun o o' => hl.at_ i o o' c
      have hw := wrap_nat (k := i) (by omega)
      have hre := rawEnts_len (l := m.ents.take i) fun e he => hr e (List.mem_of_mem_take he)
      rw [List.length_take] at hre
      have h1 := hr _ (List.getElem_mem c)
      have hsm : Sm m.ents[i].2 := Nat.lt_of_le_of_lt h1 (by decide)
      have hv1 := var_len m.ents[i].1
      have hv2 := var_len m.ents[i].2.length
      have hst := rawEnts_take c
      simp (maxDischargeDepth := 30) [e1, e3, e4, l0, hy, hd, hat, c, specVar_eq, encEntry, hsm]
      refine ⟨by omega, by omega, by omega, ?_⟩
      exact again_intro (j - 1) (by omega) ⟨_, _, i + 1, rfl, by omega, by simp [e1, e3, e4, l0], by simp [hst], by simp [hw], by simp [e1, e3, e4, l0]⟩
    · have ht : m.ents.take i = m.ents := List.take_of_length_le (by omega)
      rw [ht] at e3
      have hre := rawEnts_len hr
      have hlen : (shown (heads m) ++ (rawEnts m.ents ++ m.data)).length < 2 ^ 62 := by simp; omega
      have hraw : shown (heads m) ++ (rawEnts m.ents ++ m.data) = rawMsg m := rfl
      have hcr := specCrc_eq (shown (heads m) ++ (rawEnts m.ents ++ m.data)) H hlen
      have hfl := fixed_length (crc (rawMsg m)) 4
      have hlen2 : (shown (heads m) ++ (rawEnts m.ents ++ m.data)).length < 2 ^ 61 + 10000 := by simp; omega
      rw [hraw] at hcr hlen hlen2
      have hcl := crc_lt (rawMsg m)
      simp [e1, e3, e4, l0]
      rw [hraw]
      have hfx := specFixed_eq (crc (rawMsg m)) 4 H (by omega)
      simp [hcr, hfx]
      refine ⟨by omega, by omega, by simp [showMsg, ho]⟩
  · rw [Bool.not_eq_true] at ho
    rw [ho] at hk
    simp [hk, showMsg, ho]
end Go.Abs

/-
  CONTRACTS: messages read.
-/
namespace Go.Abs
open Go Go.Proofs
set_option linter.unusedSimpArgs false
attribute [local simp] fieldAddr build fillL

abbrev REs := List Entr × List UInt8 × Bool
def rent1 (r : REs) : REs :=
  (r.1 ++ [(((rnum r.2.1 r.2.2).1 : Int), (rpiece (rnum r.2.1 r.2.2).2.1 (rnum r.2.1 r.2.2).2.2).1)], (rpiece (rnum r.2.1 r.2.2).2.1 (rnum r.2.1 r.2.2).2.2).2)
theorem rents_step (n : Nat) (s : List UInt8) (ok : Bool) : rents (n + 1) s ok = ((((rnum s ok).1 : Int), (rpiece (rnum s ok).2.1 (rnum s ok).2.2).1) :: (rents n (rpiece (rnum s ok).2.1 (rnum s ok).2.2).2.1 (rpiece (rnum s ok).2.1 (rnum s ok).2.2).2.2).1, (rents n (rpiece (rnum s ok).2.1 (rnum s ok).2.2).2.1 (rpiece (rnum s ok).2.1 (rnum s ok).2.2).2.2).2) := rfl
theorem rents_succ : ∀ (n : Nat) (s : List UInt8) (ok : Bool), rents (n + 1) s ok = rent1 (rents n s ok)
  | 0, s, ok => rfl
  | n + 1, s, ok => by
    rw [rents_step (n + 1), rents_succ n, rents_step n]
    rfl
theorem rents_sm : ∀ (n : Nat) {s : List UInt8} (ok : Bool), Sm s → Sm (rents n s ok).2.1
  | 0, s, ok, h => h
  | n + 1, s, ok, h => by
    rw [rents_succ]
    exact Sm_rpiece (Sm_rnum (rents_sm n ok h) _) _
theorem rents_length : ∀ (n : Nat) (s : List UInt8) (ok : Bool), (rents n s ok).1.length = n
  | 0, s, ok => rfl
  | n + 1, s, ok => by
    rw [rents_succ]
    simp [rent1, rents_length n]

theorem rcount_le (s : List UInt8) (ok : Bool) (most : Int) (h : 0 ≤ most) : ((rcount s ok most).1 : Int) ≤ most := by
  unfold rcount
  split
  · rename_i g; exact g.2
  · exact h

/-- An append of one entry. -/
theorem ow_ent {H K : Heap} {a : Option Addr} {l : List Entr} {lo : Nat} (hu : Upd no H K) (hlo : H.size ≤ lo) (hk : lo ≤ K.size) (ho : Ow lo 2 encEntry K a l) (p : Entr) :
    Upd no H (apH (K.push [.int .i64 p.1, S p.2] 2) a l.length 2 [.int .i64 p.1, S p.2]) ∧ Ow lo 2 encEntry (apH (K.push [.int .i64 p.1, S p.2] 2) a l.length 2 [.int .i64 p.1, S p.2]) (some ⟨K.size + 1, 0, none⟩) (l ++ [p]) := by
  have ho2 := ho.pe (by decide) ((Upd_refl K).push (B := no) [.int .i64 p.1, S p.2] 2).pe
  exact ⟨(hu.push _ 2).ap ho2 hlo _ _ _, by simpa using ho2.ap (fun _ _ => rfl) (by simp; omega) (len := l.length) rfl [p] (by simp [encEntry])⟩

set_option maxHeartbeats 1000000 in
theorem readMsg_ret {s : List UInt8} (hs : Sm s) (H : Heap) : RetSl 2 encEntry 13 #[S s] H (readMsg s).1.ents fun v => .tuple #[.agg #[.int .i64 (readMsg s).1.kind, .int .i64 (readMsg s).1.src, .int .i64 (readMsg s).1.dst, .int .i64 (readMsg s).1.term, .int .i64 (readMsg s).1.index,
    .int .i64 (readMsg s).1.iterm, .int .i64 (readMsg s).1.commit, .bool (readMsg s).1.yes, v, S (readMsg s).1.data], .bool (readMsg s).2] := by
  unfold RetSl
  refine Ret.go rfl Tryz.func13 rfl (by decide) (by simp [Tryz.ntmps13]) (by kernel_rfl) loc13 Tryz.results13 Tryz.ntmps13 ?_
  have fail : ∀ K, Upd no H K → readMsg s = (.none, false) → RS 2 encEntry H (readMsg s).1.ents (fun v => Value.tuple #[.agg #[.int .i64 (readMsg s).1.kind, .int .i64 (readMsg s).1.src, .int .i64 (readMsg s).1.dst, .int .i64 (readMsg s).1.term, .int .i64 (readMsg s).1.index,
    .int .i64 (readMsg s).1.iterm, .int .i64 (readMsg s).1.commit, .bool (readMsg s).1.yes, v, S (readMsg s).1.data], .bool (readMsg s).2]) (.tuple #[.agg #[.int .i64 0, .int .i64 0, .int .i64 0, .int .i64 0, .int .i64 0, .int .i64 0, .int .i64 0, .bool false, .slice none 0 0, S []], .bool false]) K := fun K u e => by
    rw [e]
    exact ⟨none, rfl, u, Sl.nil _ _ _⟩
  simp [-num_eq]
  refine pendP (fun c0 => ?_) (fun c0 => ?_)
  · simp [c0]
    exact fail _ (Upd_refl H) (by rw [readMsg, if_neg (by omega)])
  · simp [c0, -num_eq]
    refine ⟨by omega, ?_⟩
    have hbx := Box.new H [S (s.drop 4), .bool true]
    have hu0 : Upd no H (H.push [S (s.drop 4), .bool true] 0) := (Upd_refl H).push _ 0
    generalize H.push [S (s.drop 4), .bool true] 0 = K at hbx hu0 ⊢
    have hb : RB K H.size := ⟨_, hbx⟩
    rw [hbx.as_set]
    have s0 : Sm (s.drop 4) := Sm_drop hs 4
    rw [num_eq hb s0 true]
    have s1 := Sm_rnum s0 true
    have b1 := rnum_le (s.drop 4) true
    generalize hp1 : rnum (s.drop 4) true = p1 at s1 b1 ⊢
    simp [-num_eq, hb]
    rw [num_eq hb s1 p1.2.2]
    have s2 := Sm_rnum s1 p1.2.2
    have b2 := rnum_le p1.2.1 p1.2.2
    generalize hp2 : rnum p1.2.1 p1.2.2 = p2 at s2 b2 ⊢
    simp [-num_eq, hb]
    rw [num_eq hb s2 p2.2.2]
    have s3 := Sm_rnum s2 p2.2.2
    have b3 := rnum_le p2.2.1 p2.2.2
    generalize hp3 : rnum p2.2.1 p2.2.2 = p3 at s3 b3 ⊢
    simp [-num_eq, hb]
    rw [num_eq hb s3 p3.2.2]
    have s4 := Sm_rnum s3 p3.2.2
    have b4 := rnum_le p3.2.1 p3.2.2
    generalize hp4 : rnum p3.2.1 p3.2.2 = p4 at s4 b4 ⊢
    simp [-num_eq, hb]
    rw [num_eq hb s4 p4.2.2]
    have s5 := Sm_rnum s4 p4.2.2
    have b5 := rnum_le p4.2.1 p4.2.2
    generalize hp5 : rnum p4.2.1 p4.2.2 = p5 at s5 b5 ⊢
    simp [-num_eq, hb]
    rw [num_eq hb s5 p5.2.2]
    have s6 := Sm_rnum s5 p5.2.2
    have b6 := rnum_le p5.2.1 p5.2.2
    generalize hp6 : rnum p5.2.1 p5.2.2 = p6 at s6 b6 ⊢
    simp [-num_eq, hb]
    rw [num_eq hb s6 p6.2.2]
    have s7 := Sm_rnum s6 p6.2.2
    have b7 := rnum_le p6.2.1 p6.2.2
    generalize hp7 : rnum p6.2.1 p6.2.2 = p7 at s7 b7 ⊢
    simp [-num_eq, hb]
    rw [num_eq hb s7 p7.2.2]
    have s8 := Sm_rnum s7 p7.2.2
    have b8 := rnum_le p7.2.1 p7.2.2
    generalize hp8 : rnum p7.2.1 p7.2.2 = p8 at s8 b8 ⊢
    simp [-num_eq, hb]
    rw [count_eq hb s8 p8.2.2 4]
    have s9 := Sm_rcount s8 p8.2.2 4
    have b9 := rcount_le p8.2.1 p8.2.2 4 (by decide)
    generalize hq : rcount p8.2.1 p8.2.2 4 = q at s9 b9 ⊢
    simp [-num_eq, hb]
    have hu1 : Upd no H (K.set H.size [S q.2.1, .bool q.2.2]) := hu0.set hbx (fun h => by omega) _
    have hb1 := hbx.set [S q.2.1, .bool q.2.2]
    clear hbx hb hu0
    generalize K.set H.size [S q.2.1, .bool q.2.2] = K1 at hu1 hb1 ⊢
    refine mC_loop (fun j st => ∃ (e : Nat → Value) (loc : Nat → List Value) (g i : Nat) (K : Heap) (a : Option Addr) (r : REs), st = ⟨e, loc, g, K, 77⟩ ∧ Upd no H K ∧ r = rents i q.2.1 q.2.2 ∧ Box K H.size [S r.2.1, .bool r.2.2] ∧ Ow (H.size + 1) 2 encEntry K a r.1 ∧ 1 < g ∧
      e 0 = S s ∧ e 2 = lptr 0 0 ∧ e 4 = .pointer (some ⟨H.size, 0, none⟩) ∧ e 5 = lptr 1 0 ∧ e 42 = .int .i64 q.1 ∧ e 43 = .int .i64 i ∧ loc 0 = [.int .i64 0, .int .i64 0, .int .i64 0, .int .i64 0, .int .i64 0, .int .i64 0, .int .i64 0, .bool false, .slice none 0 0, S []] ∧
      loc 1 = [.int .i64 p1.1, .int .i64 p2.1, .int .i64 p3.1, .int .i64 p4.1, .int .i64 p5.1, .int .i64 p6.1, .int .i64 p7.1, .bool (decide ((p8.1 : Int) = 1)), .slice a r.1.length 0, S []] ∧ i + j = q.1) ?_ (j := q.1)
      ⟨_, _, _, 0, K1, none, rents 0 q.2.1 q.2.2, rfl, hu1, rfl, hb1, Ow.nil _ _ _ _, by decide, by simp, by simp, by simp, by simp, by simp, by simp, by simp, by simp [rents], by simp⟩
    clear hu1 hb1 K1 K
    rintro j st ⟨e, loc, g, i, K, a, r, rfl, hu, hr, hb, ho, hg, h0, h2, h4, h5, h42, h43, l0, l1, hj⟩
    have hsz := hu.size
    have hlt := hb.lt
    have hrs : Sm r.2.1 := by rw [hr]; exact rents_sm i _ s9
    have hrl : r.1.length = i := by rw [hr]; exact rents_length i _ _
    have g0 : ¬ g = 0 := by omega
    have g1 : ¬ g = 1 := by omega
    have g2 : ¬ 0 = g := by omega
    have g3 : ¬ 1 = g := by omega
    have g4 : 0 < g := by omega
    simp [h0, h2, h4, h5, h42, h43, l0, l1, g0, g1, g2, g3, g4, hg]
    refine pendP (fun c1 => ?_) (fun c1 => ?_)
    · have hi1 := wrap_nat (k := i) (by omega)
      have hnext : rents (i + 1) q.2.1 q.2.2 = rent1 r := by rw [rents_succ, ← hr]
      have hrb : RB K H.size := ⟨_, hb⟩
      have hps : ∀ d, Pe K (K.set H.size d) := fun d => (hb.change d).pe
      have ap := append_one (P := Tryz.prog) ti40 ho (fun _ _ => rfl) (by omega) (by decide) un40
      have fin : ∀ (d : List Value) (y : Entr), Upd no H (apH ((K.set H.size d).push [.int .i64 y.1, S y.2] 2) a r.1.length 2 [.int .i64 y.1, S y.2]) ∧ Ow (H.size + 1) 2 encEntry (apH ((K.set H.size d).push [.int .i64 y.1, S y.2] 2) a r.1.length 2 [.int .i64 y.1, S y.2]) (some ⟨K.size + 1, 0, none⟩) (r.1 ++ [y]) ∧
          Box (apH ((K.set H.size d).push [.int .i64 y.1, S y.2] 2) a r.1.length 2 [.int .i64 y.1, S y.2]) H.size d := fun d y => by
        have u1 : Upd no H (K.set H.size d) := hu.set hb (fun h => by omega) d
        have o1 := ho.pe (by decide) (hps d)
        have := ow_ent u1 (Nat.le_succ _) (by simp; omega) o1 y
        exact ⟨this.1, this.2, ((hb.set d).push _ _).ap (o1.pe (by decide) ((Upd_refl _).push (B := no) [.int .i64 y.1, S y.2] 2).pe) (Nat.lt_succ_self _) (by simp; omega) _ _ _⟩
      rw [hb.as_set]
      simp [h0, h2, h4, h5, h42, h43, l0, l1, g0, g1, g2, g3, g4, hg, c1, hrb, hrs, ap, hps, hi1]
      obtain ⟨pa, pb, pc⟩ := fin [S (rpiece (rnum r.2.1 r.2.2).2.1 (rnum r.2.1 r.2.2).2.2).2.1, .bool (rpiece (rnum r.2.1 r.2.2).2.1 (rnum r.2.1 r.2.2).2.2).2.2] (((rnum r.2.1 r.2.2).1 : Int), (rpiece (rnum r.2.1 r.2.2).2.1 (rnum r.2.1 r.2.2).2.2).1)
      exact again_intro (j - 1) (by omega) ⟨_, _, _, i + 1, _, _, rent1 r, rfl, pa, hnext.symm, pc, pb, by omega, by simp [h0, h2, h4, h5, h42, h43, l0, l1, g0, g1, g2, g3, g4, hg], by simp [h0, h2, h4, h5, h42, h43, l0, l1, g0, g1, g2, g3, g4, hg], by simp [h0, h2, h4, h5, h42, h43, l0, l1, g0, g1, g2, g3, g4, hg], by simp [h0, h2, h4, h5, h42, h43, l0, l1, g0, g1, g2, g3, g4, hg], by simp [h0, h2, h4, h5, h42, h43, l0, l1, g0, g1, g2, g3, g4, hg], by simp, by simp [h0, h2, h4, h5, h42, h43, l0, l1, g0, g1, g2, g3, g4, hg], by simp [rent1], by omega⟩
    · obtain rfl : i = q.1 := by omega
      have hsl := ho.sl (fun _ _ => rfl) (by omega)
      have hy : decide ((p8.1 : Int) = 1) = decide (p8.1 = 1) := decide_eq_decide.2 (by omega)
      have hrm : rmsg s = (⟨p1.1, p2.1, p3.1, p4.1, p5.1, p6.1, p7.1, decide ((p8.1 : Int) = 1), r.1, r.2.1⟩, r.2.2) := by
        rw [hy]
        simp [rmsg, rnums, nth, hp1, hp2, hp3, hp4, hp5, hp6, hp7, hp8, hq, ← hr]
      have hmv : maxVar = 562949953421311 := rfl
      have hI : ∀ n : Nat, (n : Int) ≤ maxVar → I64 n := fun n h => by unfold I64; omega
      have hst := showMsg_eq (m := (rmsg s).1) (H := K) (a := a) (by rw [hrm]; exact hsl) (by rw [hrm]; exact ⟨hI _ b2, hI _ b3, hrs⟩)
      unfold msgV at hst
      have hbc := hb.cells
      have hrd : readMsg s = if 4 ≤ s.length ∧ (rmsg s).2 = true ∧ showMsg (rmsg s).1 = s then ((rmsg s).1, true) else (.none, false) := rfl
      generalize showMsg (rmsg s).1 = t at hst hrd
      rw [hrm] at hst hrd
      simp only at hst hrd
      simp [h0, h2, h4, h5, h42, h43, l0, l1, g0, g1, g2, g3, g4, hg, c1, hst, hlt, hbc]
      refine pendB (fun c2 => ?_) (fun c2 => ?_)
      · simp at c2
        simp [h0, h2, h4, h5, h42, h43, l0, l1, g0, g1, g2, g3, g4, hg, c2]
        exact fail _ (gc_upd hu) (by rw [hrd, if_neg (by simp [c2])])
      · simp at c2
        simp [h0, h2, h4, h5, h42, h43, l0, l1, g0, g1, g2, g3, g4, hg, c2, hst]
        refine pendB (fun c3 => ?_) (fun c3 => ?_)
        · simp at c3
          simp [h0, h2, h4, h5, h42, h43, l0, l1, g0, g1, g2, g3, g4, hg, c3]
          exact fail _ (gc_upd hu) (by rw [hrd, if_neg (by simp [c3])])
        · simp at c3
          have hlen : 4 ≤ s.length := by omega
          rw [hrd, if_pos ⟨hlen, c2, c3⟩]
          simp [h0, h2, h4, h5, h42, h43, l0, l1, g0, g1, g2, g3, g4, hg, c3]
          exact RS.of (mk := fun v => .tuple #[.agg #[.int .i64 p1.1, .int .i64 p2.1, .int .i64 p3.1, .int .i64 p4.1, .int .i64 p5.1, .int .i64 p6.1, .int .i64 p7.1, .bool (decide ((p8.1 : Int) = 1)), v, S r.2.1], .bool true]) hu hsl (fun _ _ => rfl) rfl
end Go.Abs

/-
  DRAWS: the cursor made, names, points, entries.
-/
namespace Go.Abs
open Go Go.Proofs
set_option linter.unusedSimpArgs false
attribute [local simp] fieldAddr build fillL

/-! ### The cursor is made -/
theorem new_ret {H : Heap} {a : Option Addr} {l : List UInt8} (hl : Sl 1 encB H a l) : Ret Tryz.prog TT 18 #[.slice a l.length 0] H fun v H' => v = .pointer (some ⟨H.size, 0, none⟩) ∧ Upd no H H' ∧ Cur ⟨H.size, a, l⟩ H' := by
  refine Ret.go rfl Tryz.func18 rfl (by decide) (by simp [Tryz.ntmps18]) (by kernel_rfl) loc18 Tryz.results18 Tryz.ntmps18 ?_
  have hlen := hl.1
  have hx := indexAddr_Sl (P := Tryz.prog) hl ti22
  simp
  refine mC_loop (fun j st => ∃ (e : Nat → Value) (loc : Nat → List Value) (i : Nat) (h : Int), st = ⟨e, loc, 0, H, 32⟩ ∧ j + i = l.length ∧ e 0 = .slice a l.length 0 ∧ e 3 = .int .i64 h ∧ e 4 = .int .i64 i) ?_ (j := l.length)
    ⟨_, _, 0, IntKind.i64.wrap (10101 + (l.length : Int)), rfl, rfl, by simp, by simp, by simp⟩
  rintro j st ⟨e, loc, i, h, rfl, hj, e0, e3, e4⟩
  have fin : ∀ h, gc H (.pointer (some ⟨H.size, 0, none⟩)) (H.push [.slice a l.length 0, .int .i64 0, .int .i64 h] 0) = H.push [.slice a l.length 0, .int .i64 0, .int .i64 h] 0 := fun h => gc_kept rfl
  have cur : ∀ h : Int, Upd no H (H.push [.slice a l.length 0, .int .i64 0, .int .i64 h] 0) ∧ Cur ⟨H.size, a, l⟩ (H.push [.slice a l.length 0, .int .i64 0, .int .i64 h] 0) := fun h =>
    ⟨(Upd_refl H).push _ 0, 0, h, Box.new H _, hl.pe (by decide) ((Upd_refl H).push (B := no) _ 0).pe, by omega, by omega⟩
  simp [e0, e3, e4]
  refine pendP (fun c1 => ?_) (fun c1 => ?_)
  · by_cases c2 : (i : Int) < 4000
    · have hw := wrap_nat (k := i) (by omega)
      have hd := hl.ld (Pe.rfl' H) (by decide) i 0 1 c1 (by decide)
      simp [e0, e3, e4, c1, c2, hx, hd, encB, byteV, hw]
      exact again_intro (j - 1) (by omega) ⟨_, _, i + 1, _, rfl, by omega, by simp [e0, e3, e4], by simp; rfl, by simp⟩
    · simp [e0, e3, e4, c1, c2, fin]
      exact (cur _).2
  · simp [e0, e3, e4, c1, fin]
    exact (cur _).2

theorem pickS_len {c : Curs} {K : Heap} (hc : Cur c K) {cells : List Value} {n k : Nat} (hn : cells.length = n) (h0 : 0 < n) (hs : n < 2 ^ 44) (ha : cells.all isS = true) (hk : ∀ v ∈ cells, (strOf' v).length ≤ k) : (pickSX c n cells K).length ≤ k := by
  have h := hk _ (pickS_mem hc hn h0 hs ha)
  simpa [S, strOf'] using h

/-! ### A name -/
theorem name_ret {c : Curs} {H : Heap} (hc : Cur c H) : Ret Tryz.prog TT 77 #[.pointer (some ⟨c.id, 0, none⟩)] H fun v H' => ∃ x, v = S x ∧ Dr c H H' ∧ x.length ≤ 8 := by
  refine Ret.go rfl Tryz.func77 rfl (by decide) (by simp [Tryz.ntmps77]) (by kernel_rfl) loc77 Tryz.results77 Tryz.ntmps77 ?_
  simp (maxDischargeDepth := 30) [hc]
  exact ⟨_, rfl, pickS_len hc rfl (by decide) (by decide) rfl (by decide)⟩
noncomputable def nameX (c : Curs) (H : Heap) : List UInt8 := resS 77 #[.pointer (some ⟨c.id, 0, none⟩)] H
noncomputable def nameH (c : Curs) (H : Heap) : Heap := resH 77 #[.pointer (some ⟨c.id, 0, none⟩)] H
@[simp] theorem name_eq {c : Curs} {H : Heap} (hc : Cur c H) : evF Tryz.prog TT 77 #[.pointer (some ⟨c.id, 0, none⟩)] H = some (S (nameX c H), nameH c H) := (res_str (name_ret hc)).1
theorem name_dr {c : Curs} {H : Heap} (hc : Cur c H) : Dr c H (nameH c H) := (res_str (name_ret hc)).2.1
theorem name_len {c : Curs} {H : Heap} (hc : Cur c H) : (nameX c H).length ≤ 8 := (res_str (name_ret hc)).2.2
@[simp] theorem Cur_name {c : Curs} {H : Heap} (hc : Cur c H) : Cur c (nameH c H) := (name_dr hc).1
@[simp] theorem Dr_name {c : Curs} {H K : Heap} (h : Dr c H K) : Dr c H (nameH c K) := h.trans (name_dr h.1)

/-! ### What lays its result in a slice of its own, of a draw -/
def DS {α : Type} (es : Nat) (enc : α → List Value) (c : Curs) (H : Heap) (q : List α → Prop) (v : Value) (H' : Heap) : Prop := ∃ a l, v = .slice a l.length 0 ∧ Dr c H H' ∧ Ow H.size es enc H' a l ∧ l.length ≤ 1001 ∧ q l
theorem DS.of {α : Type} {es : Nat} {enc : α → List Value} {c : Curs} {H K : Heap} {q : List α → Prop} {a : Option Addr} {l : List α} (hc : Cur c H) (d : Dr c H K) (h : Ow H.size es enc K a l) (hb : l.length ≤ 1001) (hq : q l) {m : Nat} (hn : l.length = m) : DS es enc c H q (.slice a m 0) (gc H (.slice a m 0) K) := by
  subst hn
  refine ⟨a, l, rfl, Dr_gc hc d _, ?_, hb, hq⟩
  cases a with
  | none =>
    rcases h with ⟨_, rfl⟩ | ⟨b, hh, _⟩
    · exact Ow.nil _ _ _ _
    · cases hh
  | some b => rw [gc_kept rfl]; exact h

theorem right_ret {c : Curs} {H : Heap} (hc : Cur c H) (n : Int) (hn : n < 1000) : Ret Tryz.prog TT 79 #[.pointer (some ⟨c.id, 0, none⟩), .int .i64 n] H (DS 2 encPt c H fun _ => True) := by
  refine Ret.go rfl Tryz.func79 rfl (by decide) (by simp [Tryz.ntmps79]) (by kernel_rfl) loc79 Tryz.results79 Tryz.ntmps79 ?_
  simp (maxDischargeDepth := 30) [hc]
  have hp : Dr c H (H.push [] 2) := Dr_push (Dr.refl hc) [] 2
  have h1 := hp.trans (below_dr hp.1 250)
  have h2 := h1.trans (below_dr h1.1 n)
  have b2 := below_rng h1.1 (n := n) (by omega)
  have ho : Ow H.size 2 encPt (belowH c n (belowH c 250 (H.push [] 2))) (some ⟨H.size, 0, none⟩) [] :=
    (Ow.new (Nat.le_refl _) [] rfl).pe (by decide) ((below_dr hp.1 250).2.pe.trans (below_dr h1.1 _).2.pe)
  generalize belowX c n (belowH c 250 (H.push [] 2)) = k at b2 ⊢
  generalize belowH c n (belowH c 250 (H.push [] 2)) = K at h2 ho ⊢
  generalize belowX c 250 (H.push [] 2) = t
  rw [wrap_i64 (n := 1 + k) (by omega) (by omega)]
  refine mC_loop (fun j s => ∃ (e : Nat → Value) (loc : Nat → List Value) (g : Nat) (K : Heap) (a : Option Addr) (l : List Pt) (t : Int), s = ⟨e, loc, g, K, 33⟩ ∧ Dr c H K ∧ Ow H.size 2 encPt K a l ∧ e 0 = .pointer (some ⟨c.id, 0, none⟩) ∧
    e 5 = .slice a l.length 0 ∧ e 6 = .int .i64 t ∧ e 7 = .int .i64 j ∧ l.length + j ≤ 1001) ?_ (j := (1 + k).toNat) ⟨_, _, _, K, _, [], t, rfl, h2, ho, by simp, by simp, by simp, by simp; omega, by simp; omega⟩
  rintro j s ⟨e, loc, g, K, a, l, t, rfl, hd, ho, h0, h5, h6, h7, hl⟩
  simp (maxDischargeDepth := 30) [h0, h5, h6, h7, hd.1]
  refine pendP (fun c1 => ?_) (fun c1 => ?_)
  · have hp := (below_dr hd.1 40).2.pe
    have ho1 := ho.pe (by decide) hp
    have ap := append_one (P := Tryz.prog) ti84 ho1 (fun _ _ => rfl) (by omega) (by decide) un84
    have hw : IntKind.i64.wrap ((j : Int) - 1) = ((j - 1 : Nat) : Int) := by rw [wrap_i64 (by omega) (by omega)]; omega
    have fin : ∀ y z : Int, Dr c H (apH ((belowH c 40 K).push [.int .i64 y, .int .i64 z] 2) a l.length 2 [.int .i64 y, .int .i64 z]) ∧ Ow H.size 2 encPt (apH ((belowH c 40 K).push [.int .i64 y, .int .i64 z] 2) a l.length 2 [.int .i64 y, .int .i64 z]) (some ⟨(belowH c 40 K).size + 1, 0, none⟩) (l ++ [(y, z)]) := by
      intro y z
      have hd2 := Dr_push (Dr_below hd 40) [.int .i64 y, .int .i64 z] 2
      have ho2 := ho1.pe (by decide) ((Upd_refl _).push (B := no) [.int .i64 y, .int .i64 z] 2).pe
      have ho3 := ho2.ap (fun _ _ => rfl) (by have := hd2.2.size; exact this) (len := l.length) rfl [(y, z)] (news := [.int .i64 y, .int .i64 z]) (by simp [encPt])
      exact ⟨hc.ap hd2 ho2 _ _ _, by simpa using ho3⟩
    obtain ⟨f1, f2⟩ := fin t (IntKind.i64.wrap (belowX c 40 K - 20))
    simp (maxDischargeDepth := 30) [h0, h5, h6, h7, hd.1, c1, ap, hw, f1.1]
    exact again_intro (j - 1) (by omega) ⟨_, _, _, _, _, _, _, rfl, Dr_below f1 30, f2.pe (by decide) (below_dr f1.1 30).2.pe, by simp [h0, h5, h6, h7, hd.1], by simp, by simp; rfl, by simp, by simp; omega⟩
  · simp (maxDischargeDepth := 30) [h0, h5, h6, h7, hd.1, c1]
    exact DS.of hc hd ho (by omega) trivial rfl
end Go.Abs

/-
  DRAWS: entries, texts spoiled.
-/
namespace Go.Abs
open Go Go.Proofs
set_option linter.unusedSimpArgs false
attribute [local simp] fieldAddr build fillL

set_option maxHeartbeats 1000000 in
theorem entries_ret {c : Curs} {H : Heap} (hc : Cur c H) (n t0 top : Int) (h0 : 0 ≤ n) (hn : n < 1000) : Ret Tryz.prog TT 85 #[.pointer (some ⟨c.id, 0, none⟩), .int .i64 n, .int .i64 t0, .int .i64 top] H (DS 2 encEntry c H fun l => ∀ x ∈ l, x.2.length ≤ 8) := by
  refine Ret.go rfl Tryz.func85 rfl (by decide) (by simp [Tryz.ntmps85]) (by kernel_rfl) loc85 Tryz.results85 Tryz.ntmps85 ?_
  have hwn : IntKind.i64.wrap (n + 1) = n + 1 := wrap_i64 (by omega) (by omega)
  simp (maxDischargeDepth := 30) [hc, hwn]
  have hp : Dr c H (H.push [] 2) := Dr_push (Dr.refl hc) [] 2
  have h1 := hp.trans (below_dr hp.1 (n + 1))
  have b2 := below_rng hp.1 (n := n + 1) (by omega)
  have ho : Ow H.size 2 encEntry (belowH c (n + 1) (H.push [] 2)) (some ⟨H.size, 0, none⟩) [] :=
    (Ow.new (Nat.le_refl _) [] rfl).pe (by decide) (below_dr hp.1 _).2.pe
  generalize belowX c (n + 1) (H.push [] 2) = k at b2 ⊢
  generalize belowH c (n + 1) (H.push [] 2) = K at h1 ho ⊢
  refine mC_loop (fun j s => ∃ (e : Nat → Value) (loc : Nat → List Value) (g : Nat) (K : Heap) (a : Option Addr) (l : List Entr) (t : Int), s = ⟨e, loc, g, K, 45⟩ ∧ Dr c H K ∧ Ow H.size 2 encEntry K a l ∧ e 0 = .pointer (some ⟨c.id, 0, none⟩) ∧
    e 9 = .slice a l.length 0 ∧ e 2 = .int .i64 t ∧ e 3 = .int .i64 top ∧ e 10 = .int .i64 j ∧ l.length + j ≤ 1001 ∧ ∀ x ∈ l, x.2.length ≤ 8) ?_ (j := k.toNat) ⟨_, _, _, K, _, [], t0, rfl, h1, ho, by simp, by simp, by simp, by simp, by simp; omega, by simp; omega, by simp⟩
  rintro j s ⟨e, loc, g, K, a, l, t, rfl, hd, ho, h0, h9, h2, h3, h10, hl, hq⟩
  simp (maxDischargeDepth := 30) [h0, h9, h2, h3, h10, hd.1]
  refine pendP (fun c1 => ?_) (fun c1 => ?_)
  · have dK : ∀ K', Dr c H K' → Dr c H (textH c 8 K') := fun K' d => Dr_text d 8 (by decide) (by decide)
    have pT : ∀ K', Dr c H K' → Pe K' (textH c 8 K') := fun K' d => (text_dr d.1 8 (by decide) (by decide)).2.pe
    have ho1 := ho.pe (by decide) (pT K hd)
    have ho2 := (ho.pe (by decide) (once_dr hd.1 3).2.pe).pe (by decide) (pT _ (Dr_once hd 3))
    have ap1 := append_one (P := Tryz.prog) ti40 ho1 (fun _ _ => rfl) (by omega) (by decide) un40
    have ap2 := append_one (P := Tryz.prog) ti40 ho2 (fun _ _ => rfl) (by omega) (by decide) un40
    have hw : IntKind.i64.wrap ((j : Int) - 1) = ((j - 1 : Nat) : Int) := by rw [wrap_i64 (by omega) (by omega)]; omega
    have fin : ∀ K', Dr c H K' → Pe K K' → ∀ y : Int, Dr c H (apH ((textH c 8 K').push [.int .i64 y, S (textX c 8 K')] 2) a l.length 2 [.int .i64 y, S (textX c 8 K')]) ∧ Ow H.size 2 encEntry (apH ((textH c 8 K').push [.int .i64 y, S (textX c 8 K')] 2) a l.length 2 [.int .i64 y, S (textX c 8 K')]) (some ⟨(textH c 8 K').size + 1, 0, none⟩) (l ++ [(y, textX c 8 K')]) ∧ (∀ x ∈ l ++ [(y, textX c 8 K')], x.2.length ≤ 8) := by
      intro K' d p y
      have hd2 := Dr_push (dK K' d) [.int .i64 y, S (textX c 8 K')] 2
      have ho2 := ((ho.pe (by decide) p).pe (by decide) (pT K' d)).pe (by decide) ((Upd_refl _).push (B := no) [.int .i64 y, S (textX c 8 K')] 2).pe
      have ho3 := ho2.ap (fun _ _ => rfl) (by have := hd2.2.size; exact this) (len := l.length) rfl [(y, textX c 8 K')] (news := [.int .i64 y, S (textX c 8 K')]) (by simp [encEntry])
      refine ⟨hc.ap hd2 ho2 _ _ _, by simpa using ho3, fun x hx => ?_⟩
      rcases List.mem_append.1 hx with hx | hx
      · exact hq x hx
      · rw [List.mem_singleton.1 hx]
        have := text_len d.1 8 (by decide) (by decide)
        show (textX c 8 K').length ≤ 8
        omega
    simp (maxDischargeDepth := 30) [h0, h9, h2, h3, h10, hd.1, c1]
    refine pendP (fun c2 => ?_) (fun c2 => ?_)
    · simp (maxDischargeDepth := 30) [h0, h9, h2, h3, h10, hd.1, ap1, ap2, hw, c1, c2]
      refine pendP (fun c3 => ?_) (fun c3 => ?_)
      · simp (maxDischargeDepth := 30) [h0, h9, h2, h3, h10, hd.1, ap1, ap2, hw, c1, c2, c3]
        exact DS.of hc hd ho (by omega) (fun a b h => hq (a, b) h) rfl
      · simp (maxDischargeDepth := 30) [h0, h9, h2, h3, h10, hd.1, ap1, ap2, hw, c1, c2, c3]
        exact again_intro (j - 1) (by omega) ⟨_, _, _, _, _, _, _, rfl, (fin _ hd (Pe.rfl' K) _).1, (fin _ hd (Pe.rfl' K) _).2.1, by simp [h0, h9, h2, h3, h10, hd.1], by simp [h0, h9, h2, h3, h10, hd.1], by simp [h0, h9, h2, h3, h10, hd.1]; rfl, by simp [h0, h9, h2, h3, h10, hd.1], by simp, by simp; omega, (fin _ hd (Pe.rfl' K) _).2.2⟩
    · simp (maxDischargeDepth := 30) [h0, h9, h2, h3, h10, hd.1, ap1, ap2, hw, c1, c2]
      refine pendP (fun c4 => ?_) (fun c4 => ?_)
      · simp (maxDischargeDepth := 30) [h0, h9, h2, h3, h10, hd.1, ap1, ap2, hw, c1, c2, c4]
        refine pendB (fun c5 => ?_) (fun c5 => ?_)
        · simp (maxDischargeDepth := 30) [h0, h9, h2, h3, h10, hd.1, ap1, ap2, hw, c1, c2, c4, c5]
          refine pendP (fun c3 => ?_) (fun c3 => ?_)
          · simp (maxDischargeDepth := 30) [h0, h9, h2, h3, h10, hd.1, ap1, ap2, hw, c1, c2, c3, c4, c5]
            exact DS.of hc (Dr_once hd 3) (ho.pe (by decide) (once_dr hd.1 3).2.pe) (by omega) (fun a b h => hq (a, b) h) rfl
          · simp (maxDischargeDepth := 30) [h0, h9, h2, h3, h10, hd.1, ap1, ap2, hw, c1, c2, c3, c4, c5]
            exact again_intro (j - 1) (by omega) ⟨_, _, _, _, _, _, _, rfl, (fin _ (Dr_once hd 3) (once_dr hd.1 3).2.pe _).1, (fin _ (Dr_once hd 3) (once_dr hd.1 3).2.pe _).2.1, by simp [h0, h9, h2, h3, h10, hd.1], by simp [h0, h9, h2, h3, h10, hd.1], by simp [h0, h9, h2, h3, h10, hd.1]; rfl, by simp [h0, h9, h2, h3, h10, hd.1], by simp, by simp; omega, (fin _ (Dr_once hd 3) (once_dr hd.1 3).2.pe _).2.2⟩
        · have c3 : ¬ top < t := by omega
          simp (maxDischargeDepth := 30) [h0, h9, h2, h3, h10, hd.1, ap1, ap2, hw, c1, c2, c3, c4, c5]
          exact again_intro (j - 1) (by omega) ⟨_, _, _, _, _, _, _, rfl, (fin _ (Dr_once hd 3) (once_dr hd.1 3).2.pe _).1, (fin _ (Dr_once hd 3) (once_dr hd.1 3).2.pe _).2.1, by simp [h0, h9, h2, h3, h10, hd.1], by simp [h0, h9, h2, h3, h10, hd.1], by simp [h0, h9, h2, h3, h10, hd.1]; rfl, by simp [h0, h9, h2, h3, h10, hd.1], by simp, by simp; omega, (fin _ (Dr_once hd 3) (once_dr hd.1 3).2.pe _).2.2⟩
      · simp (maxDischargeDepth := 30) [h0, h9, h2, h3, h10, hd.1, ap1, ap2, hw, c1, c2, c4]
        refine pendP (fun c3 => ?_) (fun c3 => ?_)
        · simp (maxDischargeDepth := 30) [h0, h9, h2, h3, h10, hd.1, ap1, ap2, hw, c1, c2, c3, c4]
          exact DS.of hc hd ho (by omega) (fun a b h => hq (a, b) h) rfl
        · simp (maxDischargeDepth := 30) [h0, h9, h2, h3, h10, hd.1, ap1, ap2, hw, c1, c2, c3, c4]
          exact again_intro (j - 1) (by omega) ⟨_, _, _, _, _, _, _, rfl, (fin _ hd (Pe.rfl' K) _).1, (fin _ hd (Pe.rfl' K) _).2.1, by simp [h0, h9, h2, h3, h10, hd.1], by simp [h0, h9, h2, h3, h10, hd.1], by simp [h0, h9, h2, h3, h10, hd.1]; rfl, by simp [h0, h9, h2, h3, h10, hd.1], by simp, by simp; omega, (fin _ hd (Pe.rfl' K) _).2.2⟩
  · simp (maxDischargeDepth := 30) [h0, h9, h2, h3, h10, hd.1, c1]
    exact DS.of hc hd ho (by omega) (fun a b h => hq (a, b) h) rfl
end Go.Abs

/-
  DRAWS: texts spoiled, answers, calls.
-/
namespace Go.Abs
open Go Go.Proofs
set_option linter.unusedSimpArgs false
attribute [local simp] fieldAddr build fillL

set_option maxHeartbeats 1000000 in
theorem spoil_ret {c : Curs} {H : Heap} (hc : Cur c H) {s : List UInt8} (hs : Sm s) : Ret Tryz.prog TT 33 #[.pointer (some ⟨c.id, 0, none⟩), S s] H fun v H' => ∃ x, v = S x ∧ Dr c H H' ∧ x.length ≤ s.length + 3 := by
  refine Ret.go rfl Tryz.func33 rfl (by decide) (by simp [Tryz.ntmps33]) (by kernel_rfl) loc33 Tryz.results33 Tryz.ntmps33 ?_
  have hsl := hs.lt
  by_cases c0 : s = []
  · subst c0
    simp (maxDischargeDepth := 30) [hc]
    refine ⟨_, rfl, ?_⟩
    have := text_len hc 3 (by decide) (by decide)
    omega
  · have hpos : 0 < s.length := List.length_pos_iff.2 c0
    have b := below_rng hc (n := s.length) (by omega)
    have c0' : ¬ (s.length : Int) = 0 := by omega
    simp (maxDischargeDepth := 30) [hc, c0, c0']
    have hd := below_dr hc s.length
    generalize belowX c s.length H = k at b ⊢
    obtain ⟨m, rfl⟩ : ∃ m : Nat, k = m := ⟨k.toNat, by omega⟩
    have hm : m < s.length := by omega
    have hw : IntKind.i64.wrap ((m : Int) + 1) = ((m + 1 : Nat) : Int) := by rw [wrap_i64 (by omega) (by omega)]; omega
    generalize belowH c s.length H = K at hd ⊢
    have hm1 : m ≤ s.length := by omega
    have hm2 : m + 1 ≤ s.length := by omega
    refine pendP (fun c1 => ?_) (fun c1 => ?_)
    · simp (maxDischargeDepth := 30) [hd.1, hw, hm, hm1, hm2, -Int.natCast_add, c1]
      exact ⟨by omega, _, rfl, Dr_gc hc (Dr_below hd 4) _, by simp; omega⟩
    · simp (maxDischargeDepth := 30) [hd.1, hw, hm, hm1, hm2, -Int.natCast_add, c1]
      refine pendP (fun c2 => ?_) (fun c2 => ?_)
      · simp (maxDischargeDepth := 30) [hd.1, hw, hm, hm1, hm2, -Int.natCast_add, c1, c2]
        refine mDF_mut (byte_dr (Cur_below hd.1 4)).2.size (by kernel_rfl) fun f => ?_
        simp (maxDischargeDepth := 30) [hd.1, hw, hm, hm1, hm2, -Int.natCast_add, c1, c2]
        exact ⟨by cases f <;> kernel_rfl, by cases f <;> kernel_rfl, by omega, by omega, _, rfl, Dr_gc hc (Dr_push (Dr_byte (Dr_below hd 4)) _ 1) _, by simp; omega⟩
      · simp (maxDischargeDepth := 30) [hd.1, hw, hm, hm1, hm2, -Int.natCast_add, c1, c2]
        refine pendP (fun c3 => ?_) (fun c3 => ?_)
        · simp (maxDischargeDepth := 30) [hd.1, hw, hm, hm1, hm2, -Int.natCast_add, c1, c2, c3]
          exact ⟨_, rfl, Dr_gc hc (Dr_below hd 4) _, by simp; omega⟩
        · simp (maxDischargeDepth := 30) [hd.1, hw, hm, hm1, hm2, -Int.natCast_add, c1, c2, c3]
          refine mDF_mut (below_dr (Cur_below hd.1 4) 255).2.size (by kernel_rfl) fun f => ?_
          simp (maxDischargeDepth := 30) [hd.1, hw, hm, hm1, hm2, -Int.natCast_add, c1, c2, c3]
          exact ⟨by cases f <;> kernel_rfl, by cases f <;> kernel_rfl, by omega, by omega, _, rfl, Dr_gc hc (Dr_push (Dr_below (Dr_below hd 4) 255) _ 1) _, by simp; omega⟩
noncomputable def spoilX (c : Curs) (s : List UInt8) (H : Heap) : List UInt8 := resS 33 #[.pointer (some ⟨c.id, 0, none⟩), S s] H
noncomputable def spoilH (c : Curs) (s : List UInt8) (H : Heap) : Heap := resH 33 #[.pointer (some ⟨c.id, 0, none⟩), S s] H
@[simp] theorem spoil_eq {c : Curs} {H : Heap} (hc : Cur c H) {s : List UInt8} (hs : Sm s) : evF Tryz.prog TT 33 #[.pointer (some ⟨c.id, 0, none⟩), S s] H = some (S (spoilX c s H), spoilH c s H) := (res_str (spoil_ret hc hs)).1
theorem spoil_dr {c : Curs} {H : Heap} (hc : Cur c H) {s : List UInt8} (hs : Sm s) : Dr c H (spoilH c s H) := (res_str (spoil_ret hc hs)).2.1
theorem spoil_len {c : Curs} {H : Heap} (hc : Cur c H) {s : List UInt8} (hs : Sm s) : (spoilX c s H).length ≤ s.length + 3 := (res_str (spoil_ret hc hs)).2.2
@[simp] theorem Cur_spoil {c : Curs} {H : Heap} (hc : Cur c H) {s : List UInt8} (hs : Sm s) : Cur c (spoilH c s H) := (spoil_dr hc hs).1
@[simp] theorem Dr_spoil {c : Curs} {H K : Heap} (h : Dr c H K) {s : List UInt8} (hs : Sm s) : Dr c H (spoilH c s K) := h.trans (spoil_dr h.1 hs)

/-! ### An answer -/
def DA (c : Curs) (H : Heap) (v : Value) (H' : Heap) : Prop := ∃ a : Ans, v = ansV a ∧ Dr c H H' ∧ a.data.length ≤ 1000
set_option maxHeartbeats 1000000 in
theorem answer_ret {c : Curs} {H : Heap} (hc : Cur c H) : Ret Tryz.prog TT 27 #[.pointer (some ⟨c.id, 0, none⟩)] H (DA c H) := by
  refine Ret.go rfl Tryz.func27 rfl (by decide) (by simp [Tryz.ntmps27]) (by kernel_rfl) loc27 Tryz.results27 Tryz.ntmps27 ?_
  simp (maxDischargeDepth := 30) [hc]
  have h1 := Dr_below (Dr_below (Dr_below (Dr_refl hc) 5) 300) 500
  have h2 := Dr_text h1 10 (by decide) (by decide)
  have tl := text_len h1.1 10 (by decide) (by decide)
  have h3 := Dr_once h2 8
  generalize textX c 10 (belowH c 500 (belowH c 300 (belowH c 5 H))) = d at tl ⊢
  generalize belowX c 500 (belowH c 300 (belowH c 5 H)) = mk
  generalize belowX c 300 (belowH c 5 H) = ix
  generalize belowX c 5 H = cd
  generalize textH c 10 (belowH c 500 (belowH c 300 (belowH c 5 H))) = K0 at h3 ⊢
  generalize onceX c 8 K0 = bb
  generalize onceH c 8 K0 = K1 at h3 ⊢
  have fin : ∀ (x y z : Int) (t : List UInt8) (K : Heap), Dr c H K → t.length ≤ 1000 → DA c H (.agg #[.int .i64 x, .int .i64 y, .int .i64 z, S t]) (gc H (.agg #[.int .i64 x, .int .i64 y, .int .i64 z, S t]) K) :=
    fun x y z t K d h => ⟨⟨x, y, z, t⟩, rfl, Dr_gc hc d _, h⟩
  refine pendB (fun c0 => ?_) (fun c0 => ?_)
  · have hd := Dr_below h3 4
    simp (maxDischargeDepth := 30) [h3.1, hd.1]
    generalize belowX c 4 K1 = w
    generalize belowH c 4 K1 = K at hd ⊢
    refine pendP (fun c1 => ?_) (fun c1 => ?_)
    · simp (maxDischargeDepth := 30) [hd.1, c1]
      exact fin _ _ _ _ _ (Dr_pick hd rfl (by decide) (by decide) rfl) (by omega)
    · simp (maxDischargeDepth := 30) [hd.1, c1]
      refine pendP (fun c2 => ?_) (fun c2 => ?_)
      · simp (maxDischargeDepth := 30) [hd.1, c1, c2]
        exact fin _ _ _ _ _ (Dr_pick hd rfl (by decide) (by decide) rfl) (by omega)
      · simp (maxDischargeDepth := 30) [hd.1, c1, c2]
        refine pendP (fun c3 => ?_) (fun c3 => ?_)
        · simp (maxDischargeDepth := 30) [hd.1, c1, c2, c3]
          exact fin _ _ _ _ _ (Dr_pick hd rfl (by decide) (by decide) rfl) (by omega)
        · simp (maxDischargeDepth := 30) [hd.1, c1, c2, c3]
          have b2 := below_rng hd.1 (n := 2) (by decide)
          have hd2 := Dr_push (Dr_below hd 2) [] 1
          have ho : Ow H.size 1 encB ((belowH c 2 K).push [] 1) (some ⟨(belowH c 2 K).size, 0, none⟩) [] := Ow.new (Dr_below hd 2).2.size [] rfl
          generalize (belowH c 2 K).push [] 1 = K2 at hd2 ho ⊢
          generalize (belowH c 2 K).size = idk at ho ⊢
          generalize belowX c 2 K = q at b2 ⊢
          rw [wrap_i64 (n := 900 + q) (by omega) (by omega)]
          refine mC_loop (fun j s => ∃ (e : Nat → Value) (loc : Nat → List Value) (K : Heap) (a : Option Addr) (l : List UInt8), s = ⟨e, loc, 2, K, 52⟩ ∧ Dr c H K ∧ Ow H.size 1 encB K a l ∧
            e 2 = lptr 0 0 ∧ e 3 = lptr 1 0 ∧ e 4 = .int .i64 (900 + q) ∧ e 5 = .slice a l.length 0 ∧ (l.length : Int) + j = 900 + q ∧ loc 1 = [.int .i64 cd, .int .i64 ix, .int .i64 mk, S d] ∧ loc 0 = [.int .i64 0, .int .i64 0, .int .i64 0, S []]) ?_ (j := (900 + q).toNat)
            ⟨_, _, K2, _, [], rfl, hd2, ho, by simp, by simp, by simp, by simp, by simp; omega, by simp, by simp⟩
          rintro j s ⟨e, loc, K, a, l, rfl, hd, ho, e2, e3, e4, e5, hj, l1, l0⟩
          simp [e2, e3, e4, e5, l0, l1]
          refine pendP (fun c4 => ?_) (fun c4 => ?_)
          · have ap := append_one (P := Tryz.prog) ti22 ho (fun _ _ => rfl) (by omega) (by decide) un22
            have hdp := Dr_push hd [.int .u8 7] 1
            have ho2 := ho.pe (by decide) ((Upd_refl K).push (B := no) [.int .u8 7] 1).pe
            have ho3 := ho2.ap (fun _ _ => rfl) (by have := hdp.2.size; exact this) (len := l.length) rfl [7] (news := [.int .u8 7]) (by simp [encB, byteV])
            simp [e2, e3, e4, e5, l0, l1, c4, ap]
            exact again_intro (j - 1) (by omega) ⟨_, _, _, _, l ++ [7], rfl, hc.ap hdp ho2 _ _ _, ho3, by simp [e2, e3, e4, e5, l0, l1], by simp [e2, e3, e4, e5, l0, l1], by simp [e2, e3, e4, e5, l0, l1], by simp, by simp; omega, by simp [e2, e3, e4, e5, l0, l1], by simp [e2, e3, e4, e5, l0, l1]⟩
          · have cv := convert_bytes (P := Tryz.prog) ho un22 un5 un9 (Pe_refl K ▸ trivial) rfl
            simp [e2, e3, e4, e5, l0, l1, c4, cv]
            exact fin _ _ _ _ _ hd (by omega)
  · simp [c0]
    exact fin _ _ _ _ _ h3 (by omega)
end Go.Abs

/-
  DRAWS: calls.
-/
namespace Go.Abs
open Go Go.Proofs
set_option linter.unusedSimpArgs false
attribute [local simp] fieldAddr build fillL

theorem updL_now (f : Nat → List Value) (i : Nat) (v : List Value) : updL f i v i = v := if_pos rfl
def DO (c : Curs) (H : Heap) (v : Value) (H' : Heap) : Prop := ∃ o : Op', v = opV o ∧ Dr c H H' ∧ o.key.length ≤ 20 ∧ o.data.length ≤ 3000
set_option maxHeartbeats 2000000 in
theorem op_ret {c : Curs} {H : Heap} (hc : Cur c H) (kd : Int) : Ret Tryz.prog TT 50 #[.pointer (some ⟨c.id, 0, none⟩), .int .i64 kd] H (DO c H) := by
  refine Ret.go rfl Tryz.func50 rfl (by decide) (by simp [Tryz.ntmps50]) (by kernel_rfl) loc50 Tryz.results50 Tryz.ntmps50 ?_
  refine mC_cutq (fun st => ∃ (e : Nat → Value) (loc : Nat → List Value) (K : Heap) (k f t : Int), st = ⟨e, loc, 2, K, 110⟩ ∧ Dr c H K ∧ e 0 = .pointer (some ⟨c.id, 0, none⟩) ∧ e 4 = lptr 0 0 ∧ e 5 = .int .i64 k ∧ e 6 = lptr 1 0 ∧ e 7 = .int .i64 f ∧ e 8 = .int .i64 t ∧
    loc 0 = [.int .i64 0, S [], .int .i64 0, .int .i64 0, S []] ∧ loc 1 = [.int .i64 k, S [], .int .i64 0, .int .i64 0, S []]) (cutq_step (cutq_step (cutq_step (cutq_step (cutq_step (cutq_step (cutq_base ?_))))))) ?_
  · rintro st ⟨e, loc, K, k, f, t, rfl, hd, e0, e4, e5, e6, e7, e8, l0, l1⟩
    refine mC_cutq (fun st => ∃ (e : Nat → Value) (loc : Nat → List Value) (K : Heap) (o : Op'), st = ⟨e, loc, 2, K, 110⟩ ∧ Dr c H K ∧ e 0 = .pointer (some ⟨c.id, 0, none⟩) ∧ e 4 = lptr 0 0 ∧ e 6 = lptr 1 0 ∧ 
      loc 0 = [.int .i64 0, S [], .int .i64 0, .int .i64 0, S []] ∧ loc 1 = [.int .i64 o.kind, S o.key, .int .i64 o.low, .int .i64 o.high, S o.data] ∧ o.key.length ≤ 20 ∧ o.data.length ≤ 2900) (cutq_base ?_) ?_
    · rintro st ⟨e, loc, K, o, rfl, hd, e0, e4, e6, l0, l1, k1, k2⟩
      have fin : ∀ (x y z : Int) (u t : List UInt8) (K : Heap), Dr c H K → u.length ≤ 20 → t.length ≤ 3000 → DO c H (.agg #[.int .i64 x, S u, .int .i64 y, .int .i64 z, S t]) (gc H (.agg #[.int .i64 x, S u, .int .i64 y, .int .i64 z, S t]) K) :=
        fun x y z u t K d h h' => ⟨⟨x, u, y, z, t⟩, rfl, Dr_gc hc d _, h, h'⟩
      have hsm : Sm o.data := Nat.lt_of_le_of_lt k2 (by decide)
      simp (maxDischargeDepth := 30) [e0, e4, e6, l0, l1, hd.1]
      have h1 := Dr_once hd 25
      generalize onceX c 25 K = b1
      generalize onceH c 25 K = K1 at h1 ⊢
      refine pendB (fun c1 => ?_) (fun c1 => ?_)
      · subst c1
        have h2 := Dr_below h1 5
        simp (maxDischargeDepth := 30) [e0, e4, e6, l0, l1, hd.1, h1.1, h2.1]
        generalize belowX c 5 K1 = w
        generalize belowH c 5 K1 = K2 at h2 ⊢
        refine pendP (fun d0 => ?_) (fun d0 => ?_)
        · simp (maxDischargeDepth := 30) [e0, e4, e6, l0, l1, h2.1, d0]
          exact fin _ _ _ _ _ _ (Dr_pickS h2 rfl (by decide) (by decide) rfl) (Nat.le_trans (pickS_len (k := 9) h2.1 rfl (by decide) (by decide) rfl (by decide)) (by decide)) (by omega)
        simp (maxDischargeDepth := 30) [e0, e4, e6, l0, l1, h2.1, d0]
        refine pendP (fun d1 => ?_) (fun d1 => ?_)
        · simp (maxDischargeDepth := 30) [e0, e4, e6, l0, l1, h2.1, d0, d1]
          exact fin _ _ _ _ _ _ (Dr_pick h2 rfl (by decide) (by decide) rfl) k1 (by omega)
        simp (maxDischargeDepth := 30) [e0, e4, e6, l0, l1, h2.1, d0, d1]
        refine pendP (fun d2 => ?_) (fun d2 => ?_)
        · simp (maxDischargeDepth := 30) [e0, e4, e6, l0, l1, h2.1, d0, d1, d2]
          exact fin _ _ _ _ _ _ (Dr_pick h2 rfl (by decide) (by decide) rfl) k1 (by omega)
        simp (maxDischargeDepth := 30) [e0, e4, e6, l0, l1, h2.1, d0, d1, d2]
        refine pendP (fun d3 => ?_) (fun d3 => ?_)
        · simp (maxDischargeDepth := 30) [e0, e4, e6, l0, l1, h2.1, d0, d1, d2, d3, hsm]
          have sl := spoil_len h2.1 hsm
          exact fin _ _ _ _ _ _ (Dr_spoil h2 hsm) k1 (by omega)
        simp (maxDischargeDepth := 30) [e0, e4, e6, l0, l1, h2.1, d0, d1, d2, d3]
        exact fin _ _ _ _ _ _ (Dr_below h2 10) k1 (by omega)
      · subst c1
        simp (maxDischargeDepth := 30) [e0, e4, e6, l0, l1, h1.1]
        exact fin _ _ _ _ _ _ h1 k1 (by omega)
    ·
      have nl := name_len hd.1
      have dn := Dr_name hd
      simp (maxDischargeDepth := 30) [e0, e4, e5, e6, e7, e8, l0, l1, hd.1]
      refine pendP (fun c1 => ?_) (fun c1 => ?_)
      · simp (maxDischargeDepth := 30) [e0, e4, e5, e6, e7, e8, l0, l1, hd.1, c1]
        refine pendB (fun c2 => ?_) (fun c2 => ?_) <;> simp (maxDischargeDepth := 30) [e0, e4, e5, e6, e7, e8, l0, l1, hd.1, c1, c2]
        · exact here_intro ⟨_, _, _, ⟨_, _, _, _, _⟩, rfl, by simp (maxDischargeDepth := 30) [hd, hd.1], by simp [e0, e4, e5, e6, e7, e8, l0, l1, hd.1], by simp [e0, e4, e5, e6, e7, e8, l0, l1, hd.1], by simp [e0, e4, e5, e6, e7, e8, l0, l1, hd.1], by simp [e0, e4, e5, e6, e7, e8, l0, l1, hd.1], updL_now _ _ _, by simp <;> omega, by simp⟩
        · exact here_intro ⟨_, _, _, ⟨_, _, _, _, _⟩, rfl, by simp (maxDischargeDepth := 30) [hd, hd.1], by simp [e0, e4, e5, e6, e7, e8, l0, l1, hd.1], by simp [e0, e4, e5, e6, e7, e8, l0, l1, hd.1], by simp [e0, e4, e5, e6, e7, e8, l0, l1, hd.1], by simp [e0, e4, e5, e6, e7, e8, l0, l1, hd.1], updL_now _ _ _, by simp <;> omega, by simp⟩
      simp (maxDischargeDepth := 30) [e0, e4, e5, e6, e7, e8, l0, l1, hd.1, c1]
      refine pendP (fun c2 => ?_) (fun c2 => ?_)
      · simp (maxDischargeDepth := 30) [e0, e4, e5, e6, e7, e8, l0, l1, hd.1, c1, c2]
        exact here_intro ⟨_, _, _, ⟨_, _, _, _, _⟩, rfl, by simp (maxDischargeDepth := 30) [hd, hd.1], by simp [e0, e4, e5, e6, e7, e8, l0, l1, hd.1], by simp [e0, e4, e5, e6, e7, e8, l0, l1, hd.1], by simp [e0, e4, e5, e6, e7, e8, l0, l1, hd.1], by simp [e0, e4, e5, e6, e7, e8, l0, l1, hd.1], updL_now _ _ _, by simp <;> omega, by simp⟩
      simp (maxDischargeDepth := 30) [e0, e4, e5, e6, e7, e8, l0, l1, hd.1, c1, c2]
      refine pendP (fun c3 => ?_) (fun c3 => ?_)
      · simp (maxDischargeDepth := 30) [e0, e4, e5, e6, e7, e8, l0, l1, hd.1, c1, c2, c3]
        exact here_intro ⟨_, _, _, ⟨_, _, _, _, _⟩, rfl, by simp (maxDischargeDepth := 30) [hd, hd.1], by simp [e0, e4, e5, e6, e7, e8, l0, l1, hd.1], by simp [e0, e4, e5, e6, e7, e8, l0, l1, hd.1], by simp [e0, e4, e5, e6, e7, e8, l0, l1, hd.1], by simp [e0, e4, e5, e6, e7, e8, l0, l1, hd.1], updL_now _ _ _, by simp <;> omega, by simp⟩
      simp (maxDischargeDepth := 30) [e0, e4, e5, e6, e7, e8, l0, l1, hd.1, c1, c2, c3]
      refine pendP (fun c4 => ?_) (fun c4 => ?_)
      · simp (maxDischargeDepth := 30) [e0, e4, e5, e6, e7, e8, l0, l1, hd.1, c1, c2, c3, c4]
        refine mG_call (right_ret dn.1 8 (by decide)) ?_
        rintro _ K' ⟨a, l, rfl, d, ow, lb, _⟩
        have sl := ow.sl (fun _ _ => rfl) (by omega)
        have d' := dn.trans d
        have sb := specShowBlock_eq sl
        have sbl := showBlock_len l
        simp (maxDischargeDepth := 30) [e0, e4, e5, e6, e7, e8, l0, l1, hd.1, c1, c2, c3, c4, sb]
        exact here_intro ⟨_, _, _, ⟨_, nameX c K, _, _, showBlock l⟩, rfl, d', by simp [e0, e4, e5, e6, e7, e8, l0, l1, hd.1], by simp [e0, e4, e5, e6, e7, e8, l0, l1, hd.1], by simp [e0, e4, e5, e6, e7, e8, l0, l1, hd.1], by simp [e0, e4, e5, e6, e7, e8, l0, l1, hd.1], updL_now _ _ _, by simp <;> omega, by simp <;> omega⟩
      simp (maxDischargeDepth := 30) [e0, e4, e5, e6, e7, e8, l0, l1, hd.1, c1, c2, c3, c4]
      refine pendP (fun c5 => ?_) (fun c5 => ?_)
      · simp (maxDischargeDepth := 30) [e0, e4, e5, e6, e7, e8, l0, l1, hd.1, c1, c2, c3, c4, c5]
        exact here_intro ⟨_, _, _, ⟨_, nameX c K, _, _, _⟩, rfl, by simp (maxDischargeDepth := 30) [hd, hd.1], by simp [e0, e4, e5, e6, e7, e8, l0, l1, hd.1], by simp [e0, e4, e5, e6, e7, e8, l0, l1, hd.1], by simp [e0, e4, e5, e6, e7, e8, l0, l1, hd.1], by simp [e0, e4, e5, e6, e7, e8, l0, l1, hd.1], updL_now _ _ _, by simp <;> omega, by simp⟩
      simp (maxDischargeDepth := 30) [e0, e4, e5, e6, e7, e8, l0, l1, hd.1, c1, c2, c3, c4, c5]
      refine pendP (fun c6 => ?_) (fun c6 => ?_)
      · simp (maxDischargeDepth := 30) [e0, e4, e5, e6, e7, e8, l0, l1, hd.1, c1, c2, c3, c4, c5, c6]
        exact here_intro ⟨_, _, _, ⟨_, _, _, _, _⟩, rfl, by simp (maxDischargeDepth := 30) [hd, hd.1], by simp [e0, e4, e5, e6, e7, e8, l0, l1, hd.1], by simp [e0, e4, e5, e6, e7, e8, l0, l1, hd.1], by simp [e0, e4, e5, e6, e7, e8, l0, l1, hd.1], by simp [e0, e4, e5, e6, e7, e8, l0, l1, hd.1], updL_now _ _ _, by simp <;> omega, by simp⟩
      simp (maxDischargeDepth := 30) [e0, e4, e5, e6, e7, e8, l0, l1, hd.1, c1, c2, c3, c4, c5, c6]
      exact here_intro ⟨_, _, _, ⟨_, _, _, _, _⟩, rfl, hd, by simp [e0, e4, e5, e6, e7, e8, l0, l1, hd.1], by simp [e0, e4, e5, e6, e7, e8, l0, l1, hd.1], by simp [e0, e4, e5, e6, e7, e8, l0, l1, hd.1], by simp [e0, e4, e5, e6, e7, e8, l0, l1, hd.1], l1, by simp, by simp⟩
  · simp (maxDischargeDepth := 30) [hc]
    refine pendP (fun c1 => ?_) (fun c1 => ?_)
    · simp (maxDischargeDepth := 30) [hc, c1]
      refine pendB (fun c2 => ?_) (fun c2 => ?_) <;> simp (maxDischargeDepth := 30) [hc, c1, c2]
      · exact here_intro ⟨_, _, _, _, _, _, rfl, by simp (maxDischargeDepth := 30) [hc], by simp, by simp, by simp; rfl, by simp, by simp; rfl, by simp; rfl, by simp, by simp⟩
      · exact here_intro ⟨_, _, _, _, _, _, rfl, by simp (maxDischargeDepth := 30) [hc], by simp, by simp, by simp; rfl, by simp, by simp; rfl, by simp; rfl, by simp, by simp⟩
    · simp (maxDischargeDepth := 30) [hc, c1]
      refine pendB (fun c2 => ?_) (fun c2 => ?_) <;> simp (maxDischargeDepth := 30) [hc, c1, c2]
      · exact here_intro ⟨_, _, _, _, _, _, rfl, by simp (maxDischargeDepth := 30) [hc], by simp, by simp, by simp; rfl, by simp, by simp; rfl, by simp; rfl, by simp, by simp⟩
      · exact here_intro ⟨_, _, _, _, _, _, rfl, by simp (maxDischargeDepth := 30) [hc], by simp, by simp, by simp; rfl, by simp, by simp; rfl, by simp; rfl, by simp, by simp⟩
end Go.Abs

/-
  DRAWS: commands, messages.
-/
namespace Go.Abs
open Go Go.Proofs
set_option linter.unusedSimpArgs false
attribute [local simp] fieldAddr build fillL

def DC (c : Curs) (H : Heap) (v : Value) (H' : Heap) : Prop := ∃ x : Cmd', v = cmdV x ∧ Dr c H H' ∧ x.op.key.length ≤ 20 ∧ x.op.data.length ≤ 3000
set_option maxHeartbeats 2000000 in
theorem cmd_ret {c : Curs} {H : Heap} (hc : Cur c H) : Ret Tryz.prog TT 19 #[.pointer (some ⟨c.id, 0, none⟩)] H (DC c H) := by
  refine Ret.go rfl Tryz.func19 rfl (by decide) (by simp [Tryz.ntmps19]) (by kernel_rfl) loc19 Tryz.results19 Tryz.ntmps19 ?_
  simp (maxDischargeDepth := 30) [hc]
  have h1 := Dr_below (Dr_below (Dr_below (Dr_refl hc) 4) 5) 2
  refine mG_call (op_ret h1.1 _) ?_
  rintro _ K ⟨o, rfl, d, k1, k2⟩
  have h2 := h1.trans d
  have h3 := Dr_once h2 15
  have fin : ∀ (a b x y z : Int) (u t : List UInt8) (K : Heap), Dr c H K → u.length ≤ 20 → t.length ≤ 3000 → DC c H (.agg #[.int .i64 a, .int .i64 b, .int .i64 x, S u, .int .i64 y, .int .i64 z, S t]) (gc H (.agg #[.int .i64 a, .int .i64 b, .int .i64 x, S u, .int .i64 y, .int .i64 z, S t]) K) :=
    fun a b x y z u t K d h h' => ⟨⟨a, b, ⟨x, u, y, z, t⟩⟩, rfl, Dr_gc hc d _, h, h'⟩
  simp (maxDischargeDepth := 30) [h2.1, h3.1]
  generalize onceX c 15 K = b1
  generalize onceH c 15 K = K1 at h3 ⊢
  refine pendB (fun c1 => ?_) (fun c1 => ?_) <;> subst c1
  · simp (maxDischargeDepth := 30) [h3.1]
    refine pendB (fun c2 => ?_) (fun c2 => ?_)
    · simp (maxDischargeDepth := 30) [h3.1, c2]
      exact fin _ _ _ _ _ _ _ _ (by simp (maxDischargeDepth := 30) [h3, h3.1]) k1 k2
    · simp (maxDischargeDepth := 30) [h3.1, c2]
      exact fin _ _ _ _ _ _ _ _ (by simp (maxDischargeDepth := 30) [h3, h3.1]) k1 k2
  · simp (maxDischargeDepth := 30) [h3.1]
    refine pendB (fun c2 => ?_) (fun c2 => ?_)
    · simp (maxDischargeDepth := 30) [h3.1, c2]
      exact fin _ _ _ _ _ _ _ _ (by simp (maxDischargeDepth := 30) [h3, h3.1]) k1 k2
    · simp (maxDischargeDepth := 30) [h3.1, c2]
      exact fin _ _ _ _ _ _ _ _ (by simp (maxDischargeDepth := 30) [h3, h3.1]) k1 k2

theorem mDF_em {P : Program} {T : Table} {ls : List Nat} {rs : List ResultVar} {H0 : Heap} {post : Value → Heap → Prop} {fr : List Frame} {ops : Array Oper} {rest : List Oper} {s' : St} {fs : List Foot} {s1 : St} (hsz : s1.heap.size ≤ s'.heap.size) (ha : agree (masks ops.toList) fs .mut = true)
    (h : ∀ f, f = .ext ∨ f = .mut → @mD P T ⟨ls, rs, H0, post, fr⟩ ⟨ops, rest⟩ (fs ++ [f]) s') : @mDF P T ⟨ls, rs, H0, post, fr⟩ ⟨ops, rest⟩ fs s' (footH s1 s') := by
  unfold footH
  by_cases hg : Grown s1.heap s'.heap
  · rw [if_pos hg]
    unfold mDF
    exact ⟨agree_mut ha, h _ (.inl rfl)⟩
  · rw [if_neg hg, if_pos hsz]
    unfold mDF
    exact ⟨ha, h _ (.inr rfl)⟩
theorem Ow.low {α : Type} {lo lo' es : Nat} {enc : α → List Value} {H : Heap} {a : Option Addr} {l : List α} (h : Ow lo' es enc H a l) (hl : lo ≤ lo') : Ow lo es enc H a l := by
  refine h.imp id ?_
  rintro ⟨b, ha, hb, hes, hc, hr⟩
  exact ⟨b, ha, hb, hes, hc, Nat.le_trans hl hr⟩

theorem showMsg_len {m : Msg'} (h : m.data.length ≤ 6000) : (showMsg m).length ≤ 20000 := by
  unfold showMsg
  split
  · rename_i ho
    obtain ⟨_, r2, r3⟩ := msgOk_rng ho
    have h1 := shown_len (heads m)
    have h2 := rawEnts_len (l := m.ents) fun e he => (r3 e he).2
    have h3 := fixed_length (crc (rawMsg m)) 4
    have h9 : (heads m).length = 9 := rfl
    rw [h9] at h1
    have e : rawMsg m = shown (heads m) ++ (rawEnts m.ents ++ m.data) := rfl
    rw [List.length_append]
    have e2 : (rawMsg m).length = (shown (heads m)).length + ((rawEnts m.ents).length + m.data.length) := by rw [e, List.length_append, List.length_append]
    omega
  · simp

/-! ### Messages -/
def DM (n : Nat) (c : Curs) (H : Heap) (v : Value) (H' : Heap) : Prop := ∃ (m : Msg') (a : Option Addr), v = msgV m a ∧ Dr c H H' ∧ Ow H.size 2 encEntry H' a m.ents ∧ m.ents.length ≤ n ∧ I64 m.src ∧ I64 m.dst ∧ m.data.length ≤ 4000 + n
theorem DM.of {nn : Nat} {c : Curs} {H K : Heap} (hc : Cur c H) (d : Dr c H K) {k s t x y z w : Int} {b : Bool} {a : Option Addr} {l : List Entr} {u : List UInt8} (ow : Ow H.size 2 encEntry K a l) {n : Nat} (hn : l.length = n) (h1 : l.length ≤ nn) (h2 : I64 s) (h3 : I64 t) (h4 : u.length ≤ 4000 + nn) :
    DM nn c H (.agg #[.int .i64 k, .int .i64 s, .int .i64 t, .int .i64 x, .int .i64 y, .int .i64 z, .int .i64 w, .bool b, .slice a n 0, S u]) (gc H (.agg #[.int .i64 k, .int .i64 s, .int .i64 t, .int .i64 x, .int .i64 y, .int .i64 z, .int .i64 w, .bool b, .slice a n 0, S u]) K) := by
  subst hn
  refine ⟨⟨k, s, t, x, y, z, w, b, l, u⟩, a, rfl, Dr_gc hc d _, ?_, h1, h2, h3, h4⟩
  cases a with
  | none =>
    rcases ow with ⟨_, rfl⟩ | ⟨b, hh, _⟩
    · exact Ow.nil _ _ _ _
    · cases hh
  | some b => rw [gc_kept rfl]; exact ow
theorem I64_small {n : Int} (h0 : -1000 ≤ n) (h1 : n ≤ 1000000) : I64 n := by unfold I64; omega

set_option maxHeartbeats 2000000 in
theorem msg_ret {c : Curs} {H : Heap} (hc : Cur c H) : Ret Tryz.prog TT 62 #[.pointer (some ⟨c.id, 0, none⟩), .int .i64 5, .int .i64 3, .int .i64 6] H (DM 1002 c H) := by
  refine Ret.go rfl Tryz.func62 rfl (by decide) (by simp [Tryz.ntmps62]) (by kernel_rfl) loc62 Tryz.results62 Tryz.ntmps62 ?_
  refine mC_cutq (fun st => ∃ (e : Nat → Value) (loc : Nat → List Value) (K : Heap) (k s d t x y : Int), st = ⟨e, loc, 2, K, 94⟩ ∧ Dr c H K ∧ e 0 = .pointer (some ⟨c.id, 0, none⟩) ∧ e 3 = .int .i64 6 ∧ e 8 = lptr 0 0 ∧ e 9 = lptr 1 0 ∧ e 10 = .int .i64 x ∧ e 11 = .int .i64 y ∧
    loc 0 = [.int .i64 0, .int .i64 0, .int .i64 0, .int .i64 0, .int .i64 0, .int .i64 0, .int .i64 0, .bool false, .slice none 0 0, S []] ∧ loc 1 = [.int .i64 k, .int .i64 s, .int .i64 d, .int .i64 t, .int .i64 0, .int .i64 0, .int .i64 0, .bool false, .slice none 0 0, S []] ∧ I64 s ∧ I64 d)
    (cutq_step (cutq_step (cutq_step (cutq_step (cutq_step (cutq_base ?_)))))) ?_
  · rintro st ⟨e, loc, K, k, s, d, t, x, y, rfl, hd, e0, e3, e8, e9, e10, e11, l0, l1, hs, hdd⟩
    have nil : ∀ K, Ow H.size 2 encEntry K none [] := fun K => Ow.nil _ _ _ _
    simp (maxDischargeDepth := 30) [e0, e3, e8, e9, e10, e11, l0, l1, hd.1]
    refine pendP (fun c1 => ?_) (fun c1 => ?_)
    · simp (maxDischargeDepth := 30) [e0, e3, e8, e9, e10, e11, l0, l1, hd.1, c1]
      exact DM.of hc hd (nil _) rfl (by simp) hs hdd (by simp)
    simp (maxDischargeDepth := 30) [e0, e3, e8, e9, e10, e11, l0, l1, hd.1, c1]
    refine pendP (fun c2 => ?_) (fun c2 => ?_)
    · simp (maxDischargeDepth := 30) [e0, e3, e8, e9, e10, e11, l0, l1, hd.1, c1, c2]
      exact DM.of hc (by simp (maxDischargeDepth := 30) [hd, hd.1]) (nil _) rfl (by simp) hs hdd (by simp)
    simp (maxDischargeDepth := 30) [e0, e3, e8, e9, e10, e11, l0, l1, hd.1, c1, c2]
    refine pendP (fun c3 => ?_) (fun c3 => ?_)
    · simp (maxDischargeDepth := 30) [e0, e3, e8, e9, e10, e11, l0, l1, hd.1, c1, c2, c3]
      have hd1 := Dr_below hd 9
      refine mG_call (entries_ret hd1.1 4 y t (by decide) (by decide)) ?_
      rintro _ K' ⟨a, l, rfl, d', ow, lb, _⟩
      simp (maxDischargeDepth := 30) [e0, e3, e8, e9, e10, e11, l0, l1, hd.1, c1, c2, c3]
      exact DM.of hc (hd1.trans d') (ow.low hd1.2.size) rfl (by omega) hs hdd (by simp)
    simp (maxDischargeDepth := 30) [e0, e3, e8, e9, e10, e11, l0, l1, hd.1, c1, c2, c3]
    refine pendP (fun c4 => ?_) (fun c4 => ?_)
    · simp (maxDischargeDepth := 30) [e0, e3, e8, e9, e10, e11, l0, l1, hd.1, c1, c2, c3, c4]
      exact DM.of hc (by simp (maxDischargeDepth := 30) [hd, hd.1]) (nil _) rfl (by simp) hs hdd (by simp)
    simp (maxDischargeDepth := 30) [e0, e3, e8, e9, e10, e11, l0, l1, hd.1, c1, c2, c3, c4]
    have hd1 := Dr_below hd t
    have tl := text_len hd1.1 6 (by decide) (by decide)
    exact DM.of hc (Dr_text hd1 6 (by decide) (by decide)) (nil _) rfl (by simp) hs hdd (by omega)
  · simp (maxDischargeDepth := 30) [hc]
    have b1 := below_rng (Cur_below hc 5) (n := 5) (by decide)
    have b2 := below_rng (Cur_below (Cur_below hc 5) 5) (n := 5) (by decide)
    refine pendP (fun c1 => ?_) (fun c1 => ?_)
    · simp (maxDischargeDepth := 30) [hc, c1]
      refine pendP (fun c2 => ?_) (fun c2 => ?_) <;> simp (maxDischargeDepth := 30) [hc, c1, c2]
      · exact here_intro ⟨_, _, _, _, _, _, _, _, _, rfl, by simp (maxDischargeDepth := 30) [hc], by simp, by simp, by simp, by simp, by simp; rfl, by simp; rfl, by simp, updL_now _ _ _, I64_small (by omega) (by omega), I64_small (by omega) (by omega)⟩
      · exact here_intro ⟨_, _, _, _, _, _, _, _, _, rfl, by simp (maxDischargeDepth := 30) [hc], by simp, by simp, by simp, by simp, by simp; rfl, by simp; rfl, by simp, updL_now _ _ _, I64_small (by omega) (by omega), I64_small (by omega) (by omega)⟩
    · simp (maxDischargeDepth := 30) [hc, c1]
      refine pendP (fun c2 => ?_) (fun c2 => ?_) <;> simp (maxDischargeDepth := 30) [hc, c1, c2]
      · exact here_intro ⟨_, _, _, _, _, _, _, _, _, rfl, by simp (maxDischargeDepth := 30) [hc], by simp, by simp, by simp, by simp, by simp; rfl, by simp; rfl, by simp, updL_now _ _ _, I64_small (by omega) (by omega), I64_small (by omega) (by omega)⟩
      · exact here_intro ⟨_, _, _, _, _, _, _, _, _, rfl, by simp (maxDischargeDepth := 30) [hc], by simp, by simp, by simp, by simp, by simp; rfl, by simp; rfl, by simp, updL_now _ _ _, I64_small (by omega) (by omega), I64_small (by omega) (by omega)⟩

theorem showAns_len (a : Ans) : (showAns a).length ≤ 30 + a.data.length := by
  unfold showAns rawAns
  have h1 := var_len a.code
  have h2 := var_len a.index
  have h3 := var_len a.mark
  split <;> simp <;> omega

set_option maxHeartbeats 2000000 in
theorem mail_ret {c : Curs} {H : Heap} (hc : Cur c H) : Ret Tryz.prog TT 63 #[.pointer (some ⟨c.id, 0, none⟩)] H (DM 1002 c H) := by
  refine Ret.go rfl Tryz.func63 rfl (by decide) (by simp [Tryz.ntmps63]) (by kernel_rfl) loc63 Tryz.results63 Tryz.ntmps63 ?_
  simp (maxDischargeDepth := 30) [hc]
  have b1 := below_rng hc (n := 4) (by decide)
  have b2 := below_rng (Cur_below hc 4) (n := 5) (by decide)
  have hd := Dr_once (Dr_below (Dr_below (Dr_refl hc) 4) 5) 2
  generalize belowX c 4 H = x at b1 ⊢
  generalize belowX c 5 (belowH c 4 H) = y at b2 ⊢
  rw [wrap_i64 (n := 11 + x) (by omega) (by omega)]
  generalize onceX c 2 (belowH c 5 (belowH c 4 H)) = b
  generalize onceH c 2 (belowH c 5 (belowH c 4 H)) = K at hd ⊢
  have nil : ∀ K, Ow H.size 2 encEntry K none [] := fun K => Ow.nil _ _ _ _
  refine pendB (fun c1 => ?_) (fun c1 => ?_)
  · simp (maxDischargeDepth := 30) [hd.1, c1]
    have h2 := Dr_below (Dr_below hd 4) 2
    refine mG_call (op_ret h2.1 _) ?_
    rintro _ K' ⟨o, rfl, d, k1, k2⟩
    have sl := showOp_len o
    have s1 : Sm o.key := Nat.lt_of_le_of_lt k1 (by decide)
    have s2 : Sm o.data := Nat.lt_of_le_of_lt k2 (by decide)
    simp (maxDischargeDepth := 30) [hd.1, c1, s1, s2]
    exact DM.of hc (h2.trans d) (nil _) rfl (by simp) (I64_small (by omega) (by omega)) (I64_small (by omega) (by omega)) (show (showOp o).length ≤ 4000 + 1002 by omega)
  · simp (maxDischargeDepth := 30) [hd.1, c1]
    have h2 := Dr_below hd 4
    refine mG_call (answer_ret h2.1) ?_
    rintro _ K' ⟨o, rfl, d, k2⟩
    have sl := showAns_len o
    simp (maxDischargeDepth := 30) [hd.1, c1]
    exact DM.of hc (h2.trans d) (nil _) rfl (by simp) (I64_small (by omega) (by omega)) (I64_small (by omega) (by omega)) (show (showAns o).length ≤ 4000 + 1002 by omega)

set_option maxHeartbeats 2000000 in
theorem any_ret {c : Curs} {H : Heap} (hc : Cur c H) : Ret Tryz.prog TT 31 #[.pointer (some ⟨c.id, 0, none⟩)] H (DM 1003 c H) := by
  refine Ret.go rfl Tryz.func31 rfl (by decide) (by simp [Tryz.ntmps31]) (by kernel_rfl) loc31 Tryz.results31 Tryz.ntmps31 ?_
  refine mC_cutq (fun st => ∃ (e : Nat → Value) (loc : Nat → List Value) (K : Heap) (m : Msg') (a : Option Addr), st = ⟨e, loc, 2, K, 65⟩ ∧ Dr c H K ∧ e 0 = .pointer (some ⟨c.id, 0, none⟩) ∧ e 2 = lptr 0 0 ∧ e 3 = lptr 1 0 ∧
    loc 0 = [.int .i64 0, .int .i64 0, .int .i64 0, .int .i64 0, .int .i64 0, .int .i64 0, .int .i64 0, .bool false, .slice none 0 0, S []] ∧ loc 1 = [.int .i64 m.kind, .int .i64 m.src, .int .i64 m.dst, .int .i64 m.term, .int .i64 m.index, .int .i64 m.iterm, .int .i64 m.commit, .bool m.yes, .slice a m.ents.length 0, S m.data] ∧
    Ow H.size 2 encEntry K a m.ents ∧ m.ents.length ≤ 1002 ∧ I64 m.src ∧ I64 m.dst ∧ m.data.length ≤ 5002) (cutq_step (cutq_step (cutq_base ?_))) ?_
  · rintro st ⟨e, loc, K, m, a, rfl, hd, e0, e2, e3, l0, l1, ow, hl, hs, hdd, hz⟩
    have h1 := Dr_once hd 8
    have ow1 := ow.pe (by decide) (once_dr hd.1 8).2.pe
    simp (maxDischargeDepth := 30) [e0, e2, e3, l0, l1, hd.1]
    generalize onceX c 8 K = b
    generalize onceH c 8 K = K1 at h1 ow1 ⊢
    refine pendB (fun c0 => ?_) (fun c0 => ?_)
    · have h2 := Dr_below h1 8
      have ow2 := ow1.pe (by decide) (below_dr h1.1 8).2.pe
      simp (maxDischargeDepth := 30) [e0, e2, e3, l0, l1, h1.1, c0]
      generalize belowX c 8 K1 = w
      generalize belowH c 8 K1 = K2 at h2 ow2 ⊢
      have pkD : ∀ {n : Nat} {cells : List Value}, cells.length = n → 0 < n → n < 2 ^ 44 → cells.all isI = true → Dr c H (pickH c n cells K2) := fun g1 g2 g3 g4 => Dr_pick h2 g1 g2 g3 g4
      have pkO : ∀ {n : Nat} {cells : List Value}, cells.length = n → 0 < n → n < 2 ^ 44 → cells.all isI = true → Ow H.size 2 encEntry (pickH c n cells K2) a m.ents := fun g1 g2 g3 g4 => ow2.pe (by decide) (pick_dr h2.1 g1 g2 g3 g4).2.pe
      refine pendP (fun d0 => ?_) (fun d0 => ?_)
      · simp (maxDischargeDepth := 30) [e0, e2, e3, l0, l1, h2.1, d0]
        exact DM.of hc (Dr_below h2 12) (ow2.pe (by decide) (below_dr h2.1 12).2.pe) rfl (by omega) hs hdd (by omega)
      simp (maxDischargeDepth := 30) [e0, e2, e3, l0, l1, h2.1, d0]
      refine pendP (fun d1 => ?_) (fun d1 => ?_)
      · simp (maxDischargeDepth := 30) [e0, e2, e3, l0, l1, h2.1, d0, d1]
        have pm := pick_mem h2.1 (n := 6) (cells := [.int .i64 (-1), .int .i64 5, .int .i64 10, .int .i64 11, .int .i64 14, .int .i64 15]) rfl (by decide) (by decide) rfl
        simp at pm
        exact DM.of hc (pkD (by rfl) (by decide) (by decide) (by rfl)) (pkO (by rfl) (by decide) (by decide) (by rfl)) rfl (by omega) hs (I64_small (by omega) (by omega)) (by omega)
      simp (maxDischargeDepth := 30) [e0, e2, e3, l0, l1, h2.1, d0, d1]
      refine pendP (fun d2 => ?_) (fun d2 => ?_)
      · simp (maxDischargeDepth := 30) [e0, e2, e3, l0, l1, h2.1, d0, d1, d2]
        exact DM.of hc (pkD (by rfl) (by decide) (by decide) (by rfl)) (pkO (by rfl) (by decide) (by decide) (by rfl)) rfl (by omega) hs hdd (by omega)
      simp (maxDischargeDepth := 30) [e0, e2, e3, l0, l1, h2.1, d0, d1, d2]
      refine pendP (fun d3 => ?_) (fun d3 => ?_)
      · simp (maxDischargeDepth := 30) [e0, e2, e3, l0, l1, h2.1, d0, d1, d2, d3]
        exact DM.of hc (pkD (by rfl) (by decide) (by decide) (by rfl)) (pkO (by rfl) (by decide) (by decide) (by rfl)) rfl (by omega) hs hdd (by omega)
      simp (maxDischargeDepth := 30) [e0, e2, e3, l0, l1, h2.1, d0, d1, d2, d3]
      refine pendP (fun d4 => ?_) (fun d4 => ?_)
      · simp (maxDischargeDepth := 30) [e0, e2, e3, l0, l1, h2.1, d0, d1, d2, d3, d4]
        exact DM.of hc (pkD (by rfl) (by decide) (by decide) (by rfl)) (pkO (by rfl) (by decide) (by decide) (by rfl)) rfl (by omega) hs hdd (by omega)
      simp (maxDischargeDepth := 30) [e0, e2, e3, l0, l1, h2.1, d0, d1, d2, d3, d4]
      refine pendP (fun d5 => ?_) (fun d5 => ?_)
      · simp (maxDischargeDepth := 30) [e0, e2, e3, l0, l1, h2.1, d0, d1, d2, d3, d4, d5]
        exact DM.of hc h2 ow2 rfl (by omega) hs hdd (by omega)
      simp (maxDischargeDepth := 30) [e0, e2, e3, l0, l1, h2.1, d0, d1, d2, d3, d4, d5]
      refine pendP (fun d6 => ?_) (fun d6 => ?_)
      · simp (maxDischargeDepth := 30) [e0, e2, e3, l0, l1, h2.1, d0, d1, d2, d3, d4, d5, d6]
        refine mDF_em (below_dr h2.1 5).2.size (by kernel_rfl) fun f hf => ?_
        have hd5 := Dr_below h2 5
        have ow5 := ow2.pe (by decide) (below_dr h2.1 5).2.pe
        have ap := append_one (P := Tryz.prog) ti40 ow5 (fun _ _ => rfl) (by omega) (by decide) un40
        generalize belowX c 5 K2 = y
        generalize belowH c 5 K2 = K5 at hd5 ow5 ap ⊢
        have hdp := Dr_push hd5 [.int .i64 y, S []] 2
        have ho2 := ow5.pe (by decide) ((Upd_refl K5).push (B := no) [.int .i64 y, S []] 2).pe
        have ho3 := ho2.ap (fun _ _ => rfl) (by have := hdp.2.size; exact this) (len := m.ents.length) rfl [(y, [])] (news := [.int .i64 y, S []]) (by simp [encEntry])
        have hd6 := hc.ap hdp ho2 m.ents.length 2 [.int .i64 y, S []]
        simp (maxDischargeDepth := 30) [e0, e2, e3, l0, l1, hd5.1, d0, d1, d2, d3, d4, d5, d6, ap]
        refine ⟨by rcases hf with rfl | rfl <;> kernel_rfl, mDF_em (by simp) (by rcases hf with rfl | rfl <;> kernel_rfl) fun f2 hf2 => ?_⟩
        simp (maxDischargeDepth := 30) [e0, e2, e3, l0, l1, hd5.1, d0, d1, d2, d3, d4, d5, d6]
        exact ⟨by rcases hf with rfl | rfl <;> rcases hf2 with rfl | rfl <;> kernel_rfl, DM.of hc hd6 (by simpa using ho3) (by simp) (by simp; omega) hs hdd (by omega)⟩
      · simp (maxDischargeDepth := 30) [e0, e2, e3, l0, l1, h2.1, d0, d1, d2, d3, d4, d5, d6]
        refine ⟨by omega, ?_⟩
        exact DM.of hc h2 ow2 rfl (by omega) hs hdd (by simp; omega)
    · simp (maxDischargeDepth := 30) [e0, e2, e3, l0, l1, h1.1, c0]
      exact DM.of hc h1 ow1 rfl (by omega) hs hdd (by omega)
  · simp (maxDischargeDepth := 30) [hc]
    refine mG_call (msg_ret hc) ?_
    rintro _ K ⟨m, a, rfl, d, ow, hl, hs, hdd, hz⟩
    have h1 := Dr_once d 3
    unfold msgV
    simp (maxDischargeDepth := 30) [d.1]
    refine pendB (fun c1 => ?_) (fun c1 => ?_)
    · simp (maxDischargeDepth := 30) [h1.1, c1]
      refine mG_call (mail_ret h1.1) ?_
      rintro _ K' ⟨m', a', rfl, d', ow', hl', hs', hdd', hz'⟩
      unfold msgV
      simp (maxDischargeDepth := 30)
      exact here_intro ⟨_, _, _, m', a', rfl, h1.trans d', by simp, by simp, by simp, by simp, updL_now _ _ _, ow'.low h1.2.size, hl', hs', hdd', hz'⟩
    · simp (maxDischargeDepth := 30) [h1.1, c1]
      exact here_intro ⟨_, _, _, m, a, rfl, h1, by simp, by simp, by simp, by simp, updL_now _ _ _, ow.pe (by decide) (once_dr d.1 3).2.pe, hl, hs, hdd, hz⟩
end Go.Abs

/-
  DRAWS: of the laws on texts.
-/
namespace Go.Abs
open Go Go.Proofs
set_option linter.unusedSimpArgs false
attribute [local simp] fieldAddr build fillL

theorem new_ret' {H : Heap} {a : Option Addr} {l : List UInt8} (hl : Sl 1 encB H a l) : Ret Tryz.prog TT 18 #[.slice a l.length 0] H fun v H' => ∃ c : Curs, v = .pointer (some ⟨c.id, 0, none⟩) ∧ Upd no H H' ∧ Cur c H' ∧ c.id = H.size :=
  (new_ret hl).mono fun v H' ⟨e, u, hc⟩ => ⟨⟨H.size, a, l⟩, e, u, hc, rfl⟩
/-- A cursor of a call's own: nothing that was has changed. -/
theorem Upd.own {H K K' : Heap} {c : Curs} (u : Upd no H K) (hid : c.id = H.size) (d : Dr c K K') : Upd no H K' :=
  u.trans d.2 fun i hi e => by
    have e : i = c.id := e
    omega

theorem drawCmd_ret {H : Heap} {a : Option Addr} {l : List UInt8} (hl : Sl 1 encB H a l) : Ret Tryz.prog TT 5 #[.slice a l.length 0] H fun v H' => ∃ x : Cmd', v = cmdV x ∧ H' = H ∧ x.op.key.length ≤ 20 ∧ x.op.data.length ≤ 3000 := by
  refine Ret.go rfl Tryz.func5 rfl (by decide) (by simp [Tryz.ntmps5]) (by kernel_rfl) loc5 Tryz.results5 Tryz.ntmps5 ?_
  simp
  refine mG_call (new_ret' hl) ?_
  rintro _ K ⟨c, rfl, u, hc, hid⟩
  simp
  refine mG_call (cmd_ret hc) ?_
  rintro _ K' ⟨x, rfl, d, k1, k2⟩
  unfold cmdV
  simp
  exact ⟨x, by simp, gc_flat rfl (u.own hid d), k1, k2⟩
theorem drawAns_ret {H : Heap} {a : Option Addr} {l : List UInt8} (hl : Sl 1 encB H a l) : Ret Tryz.prog TT 8 #[.slice a l.length 0] H fun v H' => ∃ x : Ans, v = ansV x ∧ H' = H ∧ x.data.length ≤ 1000 := by
  refine Ret.go rfl Tryz.func8 rfl (by decide) (by simp [Tryz.ntmps8]) (by kernel_rfl) loc8 Tryz.results8 Tryz.ntmps8 ?_
  simp
  refine mG_call (new_ret' hl) ?_
  rintro _ K ⟨c, rfl, u, hc, hid⟩
  simp
  refine mG_call (answer_ret hc) ?_
  rintro _ K' ⟨x, rfl, d, k2⟩
  unfold ansV
  simp
  exact ⟨x, by simp, gc_flat rfl (u.own hid d), k2⟩
/-- A message off a call. -/
def RM (H : Heap) (v : Value) (H' : Heap) : Prop := ∃ (m : Msg') (a : Option Addr), v = msgV m a ∧ Upd no H H' ∧ Sl 2 encEntry H' a m.ents ∧ mIn m ∧ m.data.length ≤ 6000
theorem DM.mIn {m : Msg'} {n : Nat} (hn : n ≤ 2000) (h2 : I64 m.src) (h3 : I64 m.dst) (h4 : m.data.length ≤ 4000 + n) : mIn m := ⟨h2, h3, Nat.lt_of_le_of_lt h4 (by omega)⟩
theorem drawMsg_ret {H : Heap} {a : Option Addr} {l : List UInt8} (hl : Sl 1 encB H a l) : Ret Tryz.prog TT 14 #[.slice a l.length 0] H (RM H) := by
  refine Ret.go rfl Tryz.func14 rfl (by decide) (by simp [Tryz.ntmps14]) (by kernel_rfl) loc14 Tryz.results14 Tryz.ntmps14 ?_
  simp
  refine mG_call (new_ret' hl) ?_
  rintro _ K ⟨c, rfl, u, hc, hid⟩
  simp
  refine mG_call (any_ret hc) ?_
  rintro _ K' ⟨m, b, rfl, d, ow, h1, h2, h3, h4⟩
  unfold msgV
  simp
  refine ⟨m, b, rfl, gc_upd (u.own hid d), ?_, DM.mIn (n := 1003) (by decide) h2 h3 h4, by omega⟩
  have sl := ow.sl (fun _ _ => rfl) (by omega)
  cases b with
  | none =>
    rcases ow with ⟨_, hh⟩ | ⟨b, hh, _⟩
    · rw [hh]; exact Sl.nil _ _ _
    · cases hh
  | some b => rw [gc_kept rfl]; exact sl
theorem drawRead_ret {H : Heap} {a : Option Addr} {l : List UInt8} (hl : Sl 1 encB H a l) : Ret Tryz.prog TT 12 #[.slice a l.length 0] H fun v H' => ∃ x, v = S x ∧ H' = H ∧ Sm x := by
  refine Ret.go rfl Tryz.func12 rfl (by decide) (by simp [Tryz.ntmps12]) (by kernel_rfl) loc12 Tryz.results12 Tryz.ntmps12 ?_
  simp
  refine mG_call (new_ret' hl) ?_
  rintro _ K ⟨c, rfl, u, hc, hid⟩
  simp
  refine mG_call (any_ret hc) ?_
  rintro _ K' ⟨m, b, rfl, d, ow, h1, h2, h3, h4⟩
  have sl := ow.sl (fun _ _ => rfl) (by omega)
  have mi := DM.mIn (n := 1003) (by decide) h2 h3 h4
  have sh := specShowMsg_eq sl mi.2.2
  unfold msgV at sh ⊢
  have hlen := showMsg_len (by omega : m.data.length ≤ 6000)
  have h5 := Dr_once d 4
  have sm : Sm (showMsg m) := Nat.lt_of_le_of_lt hlen (by decide)
  simp (maxDischargeDepth := 30) [sh, d.1]
  generalize onceX c 4 K' = b1
  generalize onceH c 4 K' = K1 at h5 ⊢
  have uu : ∀ K2, Dr c K K2 → Upd no H K2 := fun K2 d => u.own hid d
  refine pendB (fun c1 => ?_) (fun c1 => ?_)
  · simp (maxDischargeDepth := 30) [h5.1, c1, sm]
    have h6 := Dr_spoil h5 sm
    have l6 := spoil_len h5.1 sm
    exact ⟨_, rfl, gc_flat rfl (uu _ h6), Nat.lt_of_le_of_lt l6 (by omega)⟩
  · simp (maxDischargeDepth := 30) [h5.1, c1]
    refine pendP (fun c2 => ?_) (fun c2 => ?_)
    · have h6 := Dr_once h5 4
      simp (maxDischargeDepth := 30) [h5.1, c2]
      generalize onceX c 4 K1 = b2
      generalize onceH c 4 K1 = K2 at h6 ⊢
      refine pendB (fun c3 => ?_) (fun c3 => ?_)
      · have sm4 : Sm ((showMsg m).drop 4) := Sm_drop sm 4
        have h7 := Dr_spoil h6 sm4
        have l7 := spoil_len h6.1 sm4
        rw [List.length_drop] at l7
        simp (maxDischargeDepth := 30) [h6.1, c3, sm4]
        generalize spoilX c ((showMsg m).drop 4) K2 = t at l7 ⊢
        generalize spoilH c ((showMsg m).drop 4) K2 = K3 at h7 ⊢
        have e1 := specCrc_eq t K3 (by omega)
        have e2 := specFixed_eq (crc t) 4 K3 (by have := crc_lt t; omega)
        have e3 := fixed_length (crc t) 4
        refine ⟨by omega, ?_⟩
        simp (maxDischargeDepth := 30) [e1, e2]
        exact ⟨by omega, _, rfl, gc_flat rfl (uu _ h7), by unfold Sm; simp; omega⟩
      · simp (maxDischargeDepth := 30) [h6.1, c3]
        exact ⟨_, rfl, gc_flat rfl (uu _ h6), sm⟩
    · simp (maxDischargeDepth := 30) [h5.1, c2]
      exact ⟨_, rfl, gc_flat rfl (uu _ h5), sm⟩
@[simp] theorem big_eq {H : Heap} {a : Option Addr} (n c : Nat) : evF Tryz.prog TT 4 #[.slice a n c] H = some (.bool (decide (1048576 < n)), H) := by
  refine Ret.eq ?_
  refine Ret.go rfl Tryz.func4 rfl (by decide) (by simp [Tryz.ntmps4]) (by kernel_rfl) loc4 Tryz.results4 Tryz.ntmps4 ?_
  simp
  omega
end Go.Abs

/-
  THE LAW ON TEXTS.
-/
namespace Go.Abs
open Go Go.Proofs
set_option linter.unusedSimpArgs false
attribute [local simp] fieldAddr build fillL

theorem showCmd_sm {x : Cmd'} (h : x.op.data.length ≤ 3000) : Sm (showCmd x) := by
  unfold showCmd
  split
  · have h1 := var_len x.client
    have h2 := var_len x.serial
    have h3 := showOp_len x.op
    unfold Sm
    simp only [List.length_append]
    omega
  · unfold Sm; simp
theorem showAns_nil {a : Ans} (h : ansOk a = false) : showAns a = [] := by
  unfold showAns
  rw [if_neg (by simp [h])]
theorem readAns_nil : (readAns []).2 = false := by
  rw [← Bool.not_eq_true]
  intro h
  have : readAns [] = ((readAns []).1, true) := Prod.ext rfl h
  exact (readAns_iff.1 this).2 rfl
theorem showMsg_nil {m : Msg'} (h : msgOk m = false) : showMsg m = [] := by
  unfold showMsg
  rw [if_neg (by simp [h])]
theorem showMsg_data {m : Msg'} (h : msgOk m = true) : m.data.length ≤ (showMsg m).length := by
  unfold showMsg rawMsg
  rw [if_pos h]
  simp only [List.length_append]
  omega
theorem mIn_of {m : Msg'} (h : msgOk m = true) (hs : Sm (showMsg m)) : mIn m := by
  obtain ⟨r1, _, _⟩ := msgOk_rng h
  have hmv : maxVar = 562949953421311 := rfl
  have a := r1 m.src (by simp [heads])
  have b := r1 m.dst (by simp [heads])
  exact ⟨by unfold I64; omega, by unfold I64; omega, Nat.lt_of_le_of_lt (showMsg_data h) hs⟩

set_option maxHeartbeats 4000000 in
theorem fnTexts_ret {H : Heap} {a : Option Addr} {l : List UInt8} (hl : Sl 1 encB H a l) : Ret Tryz.prog TT 3 #[.slice a l.length 0] H fun v H' => v = .bool true ∧ H' = H := by
  refine Ret.go rfl Tryz.func3 rfl (by decide) (by simp [Tryz.ntmps3]) (by kernel_rfl) loc3 Tryz.results3 Tryz.ntmps3 ?_
  refine mC_cutq (fun st => ∃ (e : Nat → Value) (loc : Nat → List Value), st = ⟨e, loc, 2, H, 118⟩ ∧ e 0 = .slice a l.length 0) (cutq_step (cutq_step (cutq_step (cutq_step (cutq_step (cutq_base ?_)))))) ?_
  · rintro st ⟨e, loc, rfl, e0⟩
    refine mC_cutq (fun st => ∃ (e : Nat → Value) (loc : Nat → List Value), st = ⟨e, loc, 4, H, 118⟩ ∧ e 0 = .slice a l.length 0) (cutq_step (cutq_step (cutq_base ?_))) ?_
    · rintro st ⟨e, loc, rfl, e0⟩
      simp [e0]
      refine mG_call (drawRead_ret hl) ?_
      rintro _ K ⟨t, rfl, e, hst⟩
      rw [e]
      simp [e0]
      have hrr := readMsg_ret hst H
      rcases hrm : readMsg t with ⟨M, good⟩
      rw [hrm] at hrr
      refine mG_call hrr ?_
      rintro _ K1 ⟨a1, rfl, u1, s1⟩
      simp [e0]
      refine mG_call (drawMsg_ret (hl.pe (by decide) u1.pe)) ?_
      rintro _ K2 ⟨n, b, rfl, u2, s2, mi, hnd⟩
      have hsh := showMsg_eq s2 mi
      unfold msgV at hsh ⊢
      simp [hsh]
      have s12 := s1.pe (by decide) u2.pe
      have hsu : Sm (showMsg n) := Nat.lt_of_le_of_lt (showMsg_len hnd) (by decide)
      have hrr2 := readMsg_ret hsu K2
      cases hok : msgOk n with
      | true =>
        have r := readMsg_show hok
        rw [r] at hrr2
        refine mG_call hrr2 ?_
        rintro _ K3 ⟨a3, rfl, u3, s3⟩
        have s13 := s12.pe (by decide) u3.pe
        have s23 := s2.pe (by decide) u3.pe
        have q1 := smok_eq s23 mi.2.2
        have q2 := sameEntries_eq s3 s23
        have q3 := showMsg_eq s3 mi
        rw [hok] at q1
        unfold msgV at q1 q3
        simp at q2
        cases good with
        | false =>
          simp [q1, q2, q3]
          exact gc_flat rfl ((u1.then u2).then u3)
        | true =>
          obtain ⟨g1, g2, _⟩ := readMsg_true hrm
          have mM : mIn M := mIn_of g2 (by rw [g1]; exact hst)
          have q4 := showMsg_eq s13 mM
          have q5 := smok_eq s13 mM.2.2
          rw [g2] at q5
          rw [g1] at q4
          unfold msgV at q4 q5
          simp [q1, q2, q3, q4, q5]
          exact gc_flat rfl ((u1.then u2).then u3)
      | false =>
        have nn := showMsg_nil hok
        have r := readMsg_false readMsg_nil
        rw [nn, r] at hrr2
        rw [nn]
        refine mG_call hrr2 ?_
        rintro _ K3 ⟨a3, rfl, u3, s3⟩
        have s13 := s12.pe (by decide) u3.pe
        have s23 := s2.pe (by decide) u3.pe
        have q1 := smok_eq s23 mi.2.2
        rw [hok] at q1
        unfold msgV at q1
        cases good with
        | false =>
          simp [q1]
          exact gc_flat rfl ((u1.then u2).then u3)
        | true =>
          obtain ⟨g1, g2, _⟩ := readMsg_true hrm
          have mM : mIn M := mIn_of g2 (by rw [g1]; exact hst)
          have q4 := showMsg_eq s13 mM
          have q5 := smok_eq s13 mM.2.2
          rw [g2] at q5
          rw [g1] at q4
          unfold msgV at q4 q5
          simp [q1, q4, q5]
          exact gc_flat rfl ((u1.then u2).then u3)
    · simp [e0]
      refine mG_call (drawAns_ret hl) ?_
      rintro _ K ⟨⟨cd, ix, mk, da⟩, rfl, e, k2⟩
      rw [e]
      unfold ansV
      simp (maxDischargeDepth := 30)
      have hsm : Sm (showAns ⟨cd, ix, mk, da⟩) := Nat.lt_of_le_of_lt (showAns_len _) (by simp at k2 ⊢; omega)
      cases hok : ansOk ⟨cd, ix, mk, da⟩ with
      | true =>
        have r := readAns_show hok
        simp (maxDischargeDepth := 30) [hsm, r, hok]
        exact here_intro ⟨_, _, rfl, by simp [e0]⟩
      | false =>
        have r := readAns_nil
        have n := showAns_nil hok
        rw [n] at hsm
        simp (maxDischargeDepth := 30) [n, hsm, r, hok]
        exact here_intro ⟨_, _, rfl, by simp [e0]⟩
  · simp
    refine pendP (fun c0 => ?_) (fun c0 => ?_)
    · simp [c0]
    simp [c0]
    refine mG_call (drawCmd_ret hl) ?_
    rintro _ K ⟨⟨cl, se, ⟨ki, ke, lo, hi, da⟩⟩, rfl, e, k1, k2⟩
    rw [e]
    have s1 : Sm ke := Nat.lt_of_le_of_lt k1 (by decide)
    have s2 : Sm da := Nat.lt_of_le_of_lt k2 (by decide)
    unfold cmdV
    simp (maxDischargeDepth := 30) [s1, s2]
    cases hok : cmdOk ⟨cl, se, ⟨ki, ke, lo, hi, da⟩⟩ with
    | true =>
      have r := readCmd_show hok
      have ne := showCmd_ne hok
      have hsm : Sm (showCmd ⟨cl, se, ⟨ki, ke, lo, hi, da⟩⟩) := showCmd_sm k2
      simp (maxDischargeDepth := 30) [hsm, r, ne]
      exact here_intro ⟨_, _, rfl, by simp⟩
    | false =>
      have r := readCmd_nil
      have n := showCmd_nil hok
      have hsm : Sm ([] : List UInt8) := by unfold Sm; simp
      simp (maxDischargeDepth := 30) [n, hsm, r]
      exact here_intro ⟨_, _, rfl, by simp⟩
theorem fnTexts_big {H : Heap} {a : Option Addr} {n : Nat} (hn : 1048576 < n) : Ret Tryz.prog TT 3 #[.slice a n 0] H fun v H' => v = .bool true ∧ H' = H := by
  refine Ret.go rfl Tryz.func3 rfl (by decide) (by simp [Tryz.ntmps3]) (by kernel_rfl) loc3 Tryz.results3 Tryz.ntmps3 ?_
  simp
  refine pendP (fun c0 => ?_) (fun c0 => ?_)
  · simp [c0]
  · exact absurd hn c0
end Go.Abs

