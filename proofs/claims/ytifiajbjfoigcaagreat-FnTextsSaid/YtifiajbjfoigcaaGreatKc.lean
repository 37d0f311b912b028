/-
  CONTRACTS of the functions that the law reaches, group Kc.
-/
import Derived.Test.YtifiajbjfoigcaaGreatKb
/-
  CONTRACTS: calls and answers, right or not.
-/
namespace Go.Abs
open Go Go.Proofs
set_option linter.unusedSimpArgs false
attribute [local simp] fieldAddr build fillL

@[simp] theorem isClient_eq (n : Int) (H : Heap) : evF Tryz.prog TT 20 #[.int .i64 n] H = some (.bool (decide (1 ≤ n ∧ n ≤ 4)), H) := by
  refine Ret.eq ?_
  refine Ret.go rfl Tryz.func20 rfl (by decide) (by simp [Tryz.ntmps20]) (by kernel_rfl) loc20 Tryz.results20 Tryz.ntmps20 ?_
  simp
@[simp] theorem isSerial_eq (n : Int) (H : Heap) : evF Tryz.prog TT 21 #[.int .i64 n] H = some (.bool (decide (1 ≤ n ∧ n ≤ 1000000)), H) := by
  refine Ret.eq ?_
  refine Ret.go rfl Tryz.func21 rfl (by decide) (by simp [Tryz.ntmps21]) (by kernel_rfl) loc21 Tryz.results21 Tryz.ntmps21 ?_
  simp
@[simp] theorem isTime_eq (n : Int) (H : Heap) : evF Tryz.prog TT 54 #[.int .i64 n] H = some (.bool (decide (0 ≤ n ∧ n ≤ 1099511627776)), H) := by
  refine Ret.eq ?_
  refine Ret.go rfl Tryz.func54 rfl (by decide) (by simp [Tryz.ntmps54]) (by kernel_rfl) loc54 Tryz.results54 Tryz.ntmps54 ?_
  simp
@[simp] theorem isServer_eq (n : Int) (H : Heap) : evF Tryz.prog TT 66 #[.int .i64 n] H = some (.bool (decide (0 ≤ n ∧ n ≤ 4)), H) := by
  refine Ret.eq ?_
  refine Ret.go rfl Tryz.func66 rfl (by decide) (by simp [Tryz.ntmps66]) (by kernel_rfl) loc66 Tryz.results66 Tryz.ntmps66 ?_
  simp
@[simp] theorem isTerm_eq (n : Int) (H : Heap) : evF Tryz.prog TT 67 #[.int .i64 n] H = some (.bool (decide (1 ≤ n ∧ n ≤ 100000)), H) := by
  refine Ret.eq ?_
  refine Ret.go rfl Tryz.func67 rfl (by decide) (by simp [Tryz.ntmps67]) (by kernel_rfl) loc67 Tryz.results67 Tryz.ntmps67 ?_
  simp
@[simp] theorem isAddress_eq (n : Int) (H : Heap) : evF Tryz.prog TT 72 #[.int .i64 n] H = some (.bool (decide (1 ≤ IntKind.i64.wrap (n - 10) ∧ IntKind.i64.wrap (n - 10) ≤ 4)), H) := by
  refine Ret.eq ?_
  refine Ret.go rfl Tryz.func72 rfl (by decide) (by simp [Tryz.ntmps72]) (by kernel_rfl) loc72 Tryz.results72 Tryz.ntmps72 ?_
  simp
@[simp] theorem specServer_eq (n : Int) (H : Heap) : evF Tryz.prog TT 42 #[.int .i64 n] H = some (.bool (decide (0 ≤ n ∧ n ≤ 4)), H) := by
  refine Ret.eq ?_
  refine Ret.go rfl Tryz.func42 rfl (by decide) (by simp [Tryz.ntmps42]) (by kernel_rfl) loc42 Tryz.results42 Tryz.ntmps42 ?_
  simp
@[simp] theorem specClient_eq (n : Int) (H : Heap) : evF Tryz.prog TT 43 #[.int .i64 n] H = some (.bool (decide (11 ≤ n ∧ n ≤ 14)), H) := by
  refine Ret.eq ?_
  refine Ret.go rfl Tryz.func43 rfl (by decide) (by simp [Tryz.ntmps43]) (by kernel_rfl) loc43 Tryz.results43 Tryz.ntmps43 ?_
  simp
@[simp] theorem isPlace_eq (n t : Int) (H : Heap) : evF Tryz.prog TT 68 #[.int .i64 n, .int .i64 t] H = some (.bool (decide ((n = 0 ∧ t = 0) ∨ (1 ≤ n ∧ n ≤ 100000 ∧ 1 ≤ t ∧ t ≤ 100000))), H) := by
  refine Ret.eq ?_
  refine Ret.go rfl Tryz.func68 rfl (by decide) (by simp [Tryz.ntmps68]) (by kernel_rfl) loc68 Tryz.results68 Tryz.ntmps68 ?_
  simp
  by_cases h1 : n = 0
  · subst h1
    by_cases h2 : t = 0
    · subst h2; simp
    · simp [h2]
  · by_cases h3 : 1 ≤ n ∧ n ≤ 100000
    · simp [h1, h3]
    · have h3' : (decide (1 ≤ n) && decide (n ≤ 100000)) = false := by simp; omega
      simp [h1, h3']
      omega
@[simp] theorem specBased_eq (n t : Int) (H : Heap) : evF Tryz.prog TT 44 #[.int .i64 n, .int .i64 t] H = some (.bool (decide ((n = 0 ∧ t = 0) ∨ (1 ≤ n ∧ n ≤ 100000 ∧ 1 ≤ t ∧ t ≤ 100000))), H) := by
  refine Ret.eq ?_
  refine Ret.go rfl Tryz.func44 rfl (by decide) (by simp [Tryz.ntmps44]) (by kernel_rfl) loc44 Tryz.results44 Tryz.ntmps44 ?_
  simp
  by_cases h1 : n = 0
  · subst h1
    simp
  · by_cases h3 : 1 ≤ n ∧ n ≤ 100000
    · simp [h1, h3]
    · have h3' : (decide (1 ≤ n) && decide (n ≤ 100000)) = false := by simp; omega
      simp [h1, h3']
      omega
@[simp] theorem spanOk_eq (k f t : Int) (key data : List UInt8) (H : Heap) : evF Tryz.prog TT 53 #[.agg #[.int .i64 k, S key, .int .i64 f, .int .i64 t, S data]] H = some (.bool (decide (0 ≤ f ∧ f < t ∧ t ≤ 1099511627776)), H) := by
  refine Ret.eq ?_
  refine Ret.go rfl Tryz.func53 rfl (by decide) (by simp [Tryz.ntmps53]) (by kernel_rfl) loc53 Tryz.results53 Tryz.ntmps53 ?_
  simp
  by_cases h1 : 0 ≤ f
  · by_cases h2 : f < t
    · simp [h1, h2]
    · simp [h1, h2]
  · simp [h1]
@[simp] theorem answerOk_eq (c i m : Int) (d : List UInt8) (H : Heap) : evF Tryz.prog TT 28 #[.agg #[.int .i64 c, .int .i64 i, .int .i64 m, S d]] H = some (.bool (ansOk ⟨c, i, m, d⟩), H) := by
  refine Ret.eq ?_
  refine Ret.go rfl Tryz.func28 rfl (by decide) (by simp [Tryz.ntmps28]) (by kernel_rfl) loc28 Tryz.results28 Tryz.ntmps28 ?_
  have hiff : ansOk ⟨c, i, m, d⟩ = true ↔ (0 ≤ c ∧ c ≤ 4) ∧ (0 ≤ i ∧ i ≤ 100000) ∧ (0 ≤ m ∧ m ≤ 1099511627776) ∧ (d.length : Int) ≤ 900 := by
    unfold ansOk maxTime
    simp only [Bool.and_eq_true, decide_eq_true_iff]
    omega
  have hno : ¬ ((0 ≤ c ∧ c ≤ 4) ∧ (0 ≤ i ∧ i ≤ 100000) ∧ (0 ≤ m ∧ m ≤ 1099511627776) ∧ (d.length : Int) ≤ 900) → ansOk ⟨c, i, m, d⟩ = false := fun h => by
    rw [← Bool.not_eq_true, hiff]; exact h
  simp
  refine pendB (fun h1 => ?_) (fun h1 => ?_)
  · simp [h1]
    simp at h1
    refine pendB (fun h2 => ?_) (fun h2 => ?_)
    · simp [h1, h2]
      simp at h2
      refine pendB (fun h3 => ?_) (fun h3 => ?_)
      · simp at h3
        by_cases h4 : (d.length : Int) ≤ 900
        · simp [h1, h2, h3, h4, hiff.2 ⟨h1, h2, h3, h4⟩]
        · simp [h1, h2, h3, h4, hno fun h => h4 h.2.2.2]
      · have := hno fun h => by rw [decide_eq_true h.2.2.1.1, decide_eq_true h.2.2.1.2] at h3; cases h3
        simp [h1, h2, h3, this]
    · have := hno fun h => by rw [decide_eq_true h.2.1.1, decide_eq_true h.2.1.2] at h2; cases h2
      simp [h1, h2, this]
  · have := hno fun h => by rw [decide_eq_true h.1.1, decide_eq_true h.1.2] at h1; cases h1
    simp [h1, this]
@[simp] theorem specAnswerOk_eq (c i m : Int) (d : List UInt8) (H : Heap) : evF Tryz.prog TT 11 #[.agg #[.int .i64 c, .int .i64 i, .int .i64 m, S d]] H = some (.bool (ansOk ⟨c, i, m, d⟩), H) := by
  refine Ret.eq ?_
  refine Ret.go rfl Tryz.func11 rfl (by decide) (by simp [Tryz.ntmps11]) (by kernel_rfl) loc11 Tryz.results11 Tryz.ntmps11 ?_
  have hiff : ansOk ⟨c, i, m, d⟩ = true ↔ (0 ≤ c ∧ c ≤ 4) ∧ (0 ≤ i ∧ i ≤ 100000) ∧ (0 ≤ m ∧ m ≤ 1099511627776) ∧ (d.length : Int) ≤ 900 := by
    unfold ansOk maxTime
    simp only [Bool.and_eq_true, decide_eq_true_iff]
    omega
  have hno : ¬ ((0 ≤ c ∧ c ≤ 4) ∧ (0 ≤ i ∧ i ≤ 100000) ∧ (0 ≤ m ∧ m ≤ 1099511627776) ∧ (d.length : Int) ≤ 900) → ansOk ⟨c, i, m, d⟩ = false := fun h => by
    rw [← Bool.not_eq_true, hiff]; exact h
  simp
  refine pendB (fun h1 => ?_) (fun h1 => ?_)
  · simp [h1]
    simp at h1
    refine pendB (fun h2 => ?_) (fun h2 => ?_)
    · simp [h1, h2]
      simp at h2
      refine pendB (fun h3 => ?_) (fun h3 => ?_)
      · simp at h3
        by_cases h4 : (d.length : Int) ≤ 900
        · simp [h1, h2, h3, h4, hiff.2 ⟨h1, h2, h3, h4⟩]
        · simp [h1, h2, h3, h4, hno fun h => h4 h.2.2.2]
      · have := hno fun h => by rw [decide_eq_true h.2.2.1.1, decide_eq_true h.2.2.1.2] at h3; cases h3
        simp [h1, h2, h3, this]
    · have := hno fun h => by rw [decide_eq_true h.2.1.1, decide_eq_true h.2.1.2] at h2; cases h2
      simp [h1, h2, this]
  · have := hno fun h => by rw [decide_eq_true h.1.1, decide_eq_true h.1.2] at h1; cases h1
    simp [h1, this]

theorem all_drop {s : List UInt8} {p : UInt8 → Bool} {i : Nat} (h : i < s.length) : (s.take (i + 1)).all p = ((s.take i).all p && p s[i]) := by
  rw [List.take_succ_eq_append_getElem h, List.all_append]
  simp
theorem all_no {s : List UInt8} {p : UInt8 → Bool} {i : Nat} (h : i < s.length) (hp : p s[i] = false) : s.all p = false := by
  rw [← Bool.not_eq_true, List.all_eq_true]
  intro hh
  rw [hh _ (List.getElem_mem h)] at hp
  cases hp
@[simp] theorem keyOk_eq (s : List UInt8) (H : Heap) (hs : Sm s) : evF Tryz.prog TT 56 #[S s] H = some (.bool (keyOk s), H) := by
  refine Ret.eq ?_
  refine Ret.go rfl Tryz.func56 rfl (by decide) (by simp [Tryz.ntmps56]) (by kernel_rfl) loc56 Tryz.results56 Tryz.ntmps56 ?_
  have hs2 := hs.lt
  simp
  refine mC_loop (fun j st => ∃ (e : Nat → Value) (loc : Nat → List Value) (g i : Nat), st = ⟨e, loc, g, H, 23⟩ ∧ e 0 = S s ∧ e 5 = .int .i64 s.length ∧ e 6 = .int .i64 i ∧ (s.take i).all letter = true ∧ i + j = s.length) ?_ (j := s.length)
    ⟨_, _, _, 0, rfl, by simp, by simp, by simp, by simp, by simp⟩
  rintro j st ⟨e, loc, g, i, rfl, h0, h5, h6, hall, hj⟩
  simp [h0, h5, h6]
  refine pendP (fun c1 => ?_) (fun c1 => ?_)
  · have hi1 := wrap_nat (k := i) (by omega)
    simp [h0, h5, h6, c1]
    refine pendP (fun c2 => ?_) (fun c2 => ?_)
    · have := all_no (p := letter) c1 (by simp [letter]; omega)
      simp [h0, h5, h6, c1, c2, keyOk, this]
    · simp [h0, h5, h6, c1, c2]
      refine pendP (fun c3 => ?_) (fun c3 => ?_)
      · have := all_no (p := letter) c1 (by simp [letter]; omega)
        simp [h0, h5, h6, c1, c2, c3, keyOk, this]
      · simp [h0, h5, h6, c1, c2, c3, hi1]
        exact again_intro (j - 1) (by omega) ⟨_, _, _, i + 1, rfl, by simp [h0], by simp [h5], by simp, by rw [all_drop c1, hall]; simp [letter]; omega, by omega⟩
  · have hi : i = s.length := by omega
    rw [hi, List.take_length] at hall
    simp [h0, h5, h6, c1, keyOk, hall]
    rw [Bool.eq_iff_iff]
    simp
    omega
@[simp] theorem specKey_eq (s : List UInt8) (H : Heap) (hs : Sm s) : evF Tryz.prog TT 101 #[S s] H = some (.bool (keyOk s), H) := by
  refine Ret.eq ?_
  refine Ret.go rfl Tryz.func101 rfl (by decide) (by simp [Tryz.ntmps101]) (by kernel_rfl) loc101 Tryz.results101 Tryz.ntmps101 ?_
  have hs2 := hs.lt
  simp
  refine pendB (fun c0 => ?_) (fun c0 => ?_)
  · simp [c0]
    simp at c0
    simp [keyOk]
    intros
    omega
  · simp [c0]
    simp at c0
    refine mC_loop (fun j st => ∃ (e : Nat → Value) (loc : Nat → List Value) (g i : Nat), st = ⟨e, loc, g, H, 24⟩ ∧ e 0 = S s ∧ e 3 = .int .i64 i ∧ (s.take i).all letter = true ∧ i + j = s.length) ?_ (j := s.length)
      ⟨_, _, _, 0, rfl, by simp, by simp, by simp, by simp⟩
    rintro j st ⟨e, loc, g, i, rfl, h0, h6, hall, hj⟩
    simp [h0, h6]
    refine pendP (fun c1 => ?_) (fun c1 => ?_)
    · have hi1 := wrap_nat (k := i) (by omega)
      simp [h0, h6, c1]
      refine pendP (fun c2 => ?_) (fun c2 => ?_)
      · have := all_no (p := letter) c1 (by simp [letter]; omega)
        simp [h0, h6, c1, c2, keyOk, this]
      · simp [h0, h6, c1, c2]
        refine pendP (fun c3 => ?_) (fun c3 => ?_)
        · have := all_no (p := letter) c1 (by simp [letter]; omega)
          simp [h0, h6, c1, c2, c3, keyOk, this]
        · simp [h0, h6, c1, c2, c3, hi1]
          exact again_intro (j - 1) (by omega) ⟨_, _, _, i + 1, rfl, by simp [h0], by simp, by rw [all_drop c1, hall]; simp [letter]; omega, by omega⟩
    · have hi : i = s.length := by omega
      rw [hi, List.take_length] at hall
      simp [h0, h6, c1, keyOk, hall]
      omega
end Go.Abs

/-
  CONTRACTS: calls, right or not.
-/
namespace Go.Abs
open Go Go.Proofs
set_option linter.unusedSimpArgs false
attribute [local simp] fieldAddr build fillL

theorem bool_eq {a b : Bool} (h : a = true ↔ b = true) : a = b := by
  cases a <;> cases b <;> simp_all

set_option maxHeartbeats 1000000 in
@[simp] theorem opOk_eq (k f t : Int) (key data : List UInt8) (H : Heap) (hk : Sm key) (hd : Sm data) : evF Tryz.prog TT 22 #[.agg #[.int .i64 k, S key, .int .i64 f, .int .i64 t, S data]] H = some (.bool (opOk ⟨k, key, f, t, data⟩), H) := by
  refine Ret.eq ?_
  refine Ret.go rfl Tryz.func22 rfl (by decide) (by simp [Tryz.ntmps22]) (by kernel_rfl) loc22 Tryz.results22 Tryz.ntmps22 ?_
  by_cases k1 : k = 1
  · subst k1
    simp
    refine pendB (fun c => ?_) (fun c => ?_)
    · have c' := c
      simp at c'
      simp [c]
      refine bool_eq ?_
      simp [opOk, maxTime, c']
      try (constructor <;> intro h <;> simp_all)
    · have hno : opOk ⟨1, key, f, t, data⟩ = false := by
        rw [← Bool.not_eq_true]
        intro hh
        simp [opOk, maxTime] at hh
        simp at c
        first | omega | (have h := of_decide_eq_true hh; omega) | (have h := of_decide_eq_true hh.2; omega)
      simp [c, hno]
  ·
    by_cases k2 : k = 2
    · subst k2
      simp
      refine pendB (fun c => ?_) (fun c => ?_)
      · have c' := c
        simp at c'
        simp [c]
        refine bool_eq ?_
        simp [opOk, maxTime, c']
        try (constructor <;> intro h <;> simp_all)
      · have hno : opOk ⟨2, key, f, t, data⟩ = false := by
          rw [← Bool.not_eq_true]
          intro hh
          simp [opOk, maxTime] at hh
          simp at c
          first | omega | (have h := of_decide_eq_true hh; omega) | (have h := of_decide_eq_true hh.2; omega)
        simp [c, hno]
    ·
      by_cases k6 : k = 6
      · subst k6
        simp
        refine pendB (fun c => ?_) (fun c => ?_)
        · have c' := c
          simp at c'
          simp [c]
          refine bool_eq ?_
          simp [opOk, maxTime, c']
          try (constructor <;> intro h <;> simp_all)
        · have hno : opOk ⟨6, key, f, t, data⟩ = false := by
            rw [← Bool.not_eq_true]
            intro hh
            simp [opOk, maxTime] at hh
            simp at c
            first | omega | (have h := of_decide_eq_true hh; omega) | (have h := of_decide_eq_true hh.2; omega)
          simp [c, hno]
      ·
        by_cases k3 : k = 3
        · subst k3
          simp
          refine pendB (fun c => ?_) (fun c => ?_)
          · have c' := c
            simp at c'
            simp [c]
            refine bool_eq ?_
            simp [opOk, maxTime, c']
            try (constructor <;> intro h <;> simp_all)
          · have hno : opOk ⟨3, key, f, t, data⟩ = false := by
              rw [← Bool.not_eq_true]
              intro hh
              simp [opOk, maxTime] at hh
              simp at c
              first | omega | (have h := of_decide_eq_true hh; omega) | (have h := of_decide_eq_true hh.2; omega)
            simp [c, hno]
        ·
          by_cases k4 : k = 4
          · subst k4
            simp
            refine mG_call (readBlock_ret hd H) ?_
            rintro _ K ⟨a, rfl, u, _⟩
            simp
            refine pendB (fun c1 => ?_) (fun c1 => ?_)
            · simp [c1, hk]
              refine pendB (fun c2 => ?_) (fun c2 => ?_)
              · simp [c2]
                refine ⟨?_, gc_flat rfl u⟩
                refine bool_eq ?_
                simp [opOk, c1, c2]
              · simp [c2, opOk]
                exact gc_flat rfl u
            · simp [c1, opOk]
              exact gc_flat rfl u
          ·
            by_cases k5 : k = 5
            · subst k5
              simp [hk]
              refine pendB (fun c1 => ?_) (fun c1 => ?_)
              · simp [c1]
                refine pendB (fun c => ?_) (fun c => ?_)
                · have c' := c
                  simp at c'
                  simp [c]
                  refine bool_eq ?_
                  simp [opOk, maxTime, c', c1]
                · have hno : opOk ⟨5, key, f, t, data⟩ = false := by
                    rw [← Bool.not_eq_true]
                    intro hh
                    simp [opOk, maxTime] at hh
                    simp at c
                    first | omega | (have h := of_decide_eq_true hh; omega) | (have h := of_decide_eq_true hh.2; omega)
                  simp [c, hno]
              · simp [c1, opOk]
            ·
              by_cases k7 : k = 7
              · subst k7
                simp
                refine bool_eq ?_
                simp [opOk]
                try (constructor <;> intro h <;> simp_all)
              ·
                simp [k1, k2, k6, k3, k4, k5, k7, opOk]

end Go.Abs

/-
  CONTRACTS: calls, right or not.
-/
namespace Go.Abs
open Go Go.Proofs
set_option linter.unusedSimpArgs false
attribute [local simp] fieldAddr build fillL

set_option maxHeartbeats 1000000 in
@[simp] theorem specOpOk_eq (k f t : Int) (key data : List UInt8) (H : Heap) (hk : Sm key) (hd : Sm data) : evF Tryz.prog TT 88 #[.agg #[.int .i64 k, S key, .int .i64 f, .int .i64 t, S data]] H = some (.bool (opOk ⟨k, key, f, t, data⟩), H) := by
  refine Ret.eq ?_
  refine Ret.go rfl Tryz.func88 rfl (by decide) (by simp [Tryz.ntmps88]) (by kernel_rfl) loc88 Tryz.results88 Tryz.ntmps88 ?_
  by_cases k1 : k = 1
  · subst k1
    by_cases c : 0 ≤ f ∧ f < t ∧ t ≤ 1099511627776
    · simp [c]
      refine bool_eq ?_
      simp [opOk, maxTime, c]
      try (constructor <;> intro h <;> simp_all <;> omega)
    · have hno : opOk ⟨1, key, f, t, data⟩ = false := by
        rw [← Bool.not_eq_true]
        intro hh
        simp [opOk, maxTime] at hh
        have h2 := of_decide_eq_true hh
        exact c ⟨h2.1, h2.2.1, h2.2.2.1⟩
      by_cases d1 : 0 ≤ f
      · by_cases d2 : f < t
        · have d3 : ¬ t ≤ 1099511627776 := fun h => c ⟨d1, d2, h⟩
          simp [d1, d2, d3, hno]
        · simp [d1, d2, hno]
      · simp [d1, hno]
  ·
    by_cases k2 : k = 2
    · subst k2
      by_cases d1 : 0 ≤ f
      · by_cases d2 : f < t
        · by_cases d3 : t ≤ 1099511627776
          ·
            simp [d1, d2, d3]
            refine pendB (fun c => ?_) (fun c => ?_)
            · have c' := c
              simp at c'
              simp [c]
              refine bool_eq ?_
              simp [opOk, maxTime, c']
              try (constructor <;> intro h <;> simp_all <;> omega)
            · have hno : opOk ⟨2, key, f, t, data⟩ = false := by
                rw [← Bool.not_eq_true]
                intro hh
                simp [opOk, maxTime] at hh
                simp at c
                first | omega | (have h := of_decide_eq_true hh; omega) | (have h := of_decide_eq_true hh.2; omega)
              simp [c, hno]
          ·
            simp [d1, d2, d3]
            refine pendB (fun c => ?_) (fun c => ?_)
            · have c' := c
              simp at c'
              simp [c]
              refine bool_eq ?_
              simp [opOk, maxTime, c']
              try (constructor <;> intro h <;> simp_all <;> omega)
            · have hno : opOk ⟨2, key, f, t, data⟩ = false := by
                rw [← Bool.not_eq_true]
                intro hh
                simp [opOk, maxTime] at hh
                simp at c
                first | omega | (have h := of_decide_eq_true hh; omega) | (have h := of_decide_eq_true hh.2; omega)
              simp [c, hno]
        ·
          simp [d1, d2]
          refine pendB (fun c => ?_) (fun c => ?_)
          · have c' := c
            simp at c'
            simp [c]
            refine bool_eq ?_
            simp [opOk, maxTime, c']
            try (constructor <;> intro h <;> simp_all <;> omega)
          · have hno : opOk ⟨2, key, f, t, data⟩ = false := by
              rw [← Bool.not_eq_true]
              intro hh
              simp [opOk, maxTime] at hh
              simp at c
              first | omega | (have h := of_decide_eq_true hh; omega) | (have h := of_decide_eq_true hh.2; omega)
            simp [c, hno]
      ·
        have hno : opOk ⟨2, key, f, t, data⟩ = false := by
          rw [← Bool.not_eq_true]
          intro hh
          simp [opOk, maxTime] at hh
          first | omega | (have h := of_decide_eq_true hh; omega)
        simp [d1, hno]
    ·
      by_cases k6 : k = 6
      · subst k6
        by_cases d1 : 0 ≤ f
        · by_cases d2 : f < t
          · by_cases d3 : t ≤ 1099511627776
            ·
              simp [d1, d2, d3]
              refine pendB (fun c => ?_) (fun c => ?_)
              · have c' := c
                simp at c'
                simp [c]
                refine bool_eq ?_
                simp [opOk, maxTime, c']
                try (constructor <;> intro h <;> simp_all <;> omega)
              · have hno : opOk ⟨6, key, f, t, data⟩ = false := by
                  rw [← Bool.not_eq_true]
                  intro hh
                  simp [opOk, maxTime] at hh
                  simp at c
                  first | omega | (have h := of_decide_eq_true hh; omega) | (have h := of_decide_eq_true hh.2; omega)
                simp [c, hno]
            ·
              simp [d1, d2, d3]
              refine pendB (fun c => ?_) (fun c => ?_)
              · have c' := c
                simp at c'
                simp [c]
                refine bool_eq ?_
                simp [opOk, maxTime, c']
                try (constructor <;> intro h <;> simp_all <;> omega)
              · have hno : opOk ⟨6, key, f, t, data⟩ = false := by
                  rw [← Bool.not_eq_true]
                  intro hh
                  simp [opOk, maxTime] at hh
                  simp at c
                  first | omega | (have h := of_decide_eq_true hh; omega) | (have h := of_decide_eq_true hh.2; omega)
                simp [c, hno]
          ·
            simp [d1, d2]
            refine pendB (fun c => ?_) (fun c => ?_)
            · have c' := c
              simp at c'
              simp [c]
              refine bool_eq ?_
              simp [opOk, maxTime, c']
              try (constructor <;> intro h <;> simp_all <;> omega)
            · have hno : opOk ⟨6, key, f, t, data⟩ = false := by
                rw [← Bool.not_eq_true]
                intro hh
                simp [opOk, maxTime] at hh
                simp at c
                first | omega | (have h := of_decide_eq_true hh; omega) | (have h := of_decide_eq_true hh.2; omega)
              simp [c, hno]
        ·
          have hno : opOk ⟨6, key, f, t, data⟩ = false := by
            rw [← Bool.not_eq_true]
            intro hh
            simp [opOk, maxTime] at hh
            first | omega | (have h := of_decide_eq_true hh; omega)
          simp [d1, hno]
      ·
        by_cases k3 : k = 3
        · subst k3
          by_cases d1 : 0 ≤ f
          · by_cases d2 : f < t
            · by_cases d3 : t ≤ 1099511627776
              ·
                simp [d1, d2, d3]
                refine pendB (fun c => ?_) (fun c => ?_)
                · have c' := c
                  simp at c'
                  simp [c]
                  refine bool_eq ?_
                  simp [opOk, maxTime, c']
                  try (constructor <;> intro h <;> simp_all <;> omega)
                · have hno : opOk ⟨3, key, f, t, data⟩ = false := by
                    rw [← Bool.not_eq_true]
                    intro hh
                    simp [opOk, maxTime] at hh
                    simp at c
                    first | omega | (have h := of_decide_eq_true hh; omega) | (have h := of_decide_eq_true hh.2; omega)
                  simp [c, hno]
              ·
                simp [d1, d2, d3]
                refine pendB (fun c => ?_) (fun c => ?_)
                · have c' := c
                  simp at c'
                  simp [c]
                  refine bool_eq ?_
                  simp [opOk, maxTime, c']
                  try (constructor <;> intro h <;> simp_all <;> omega)
                · have hno : opOk ⟨3, key, f, t, data⟩ = false := by
                    rw [← Bool.not_eq_true]
                    intro hh
                    simp [opOk, maxTime] at hh
                    simp at c
                    first | omega | (have h := of_decide_eq_true hh; omega) | (have h := of_decide_eq_true hh.2; omega)
                  simp [c, hno]
            ·
              simp [d1, d2]
              refine pendB (fun c => ?_) (fun c => ?_)
              · have c' := c
                simp at c'
                simp [c]
                refine bool_eq ?_
                simp [opOk, maxTime, c']
                try (constructor <;> intro h <;> simp_all <;> omega)
              · have hno : opOk ⟨3, key, f, t, data⟩ = false := by
                  rw [← Bool.not_eq_true]
                  intro hh
                  simp [opOk, maxTime] at hh
                  simp at c
                  first | omega | (have h := of_decide_eq_true hh; omega) | (have h := of_decide_eq_true hh.2; omega)
                simp [c, hno]
          ·
            have hno : opOk ⟨3, key, f, t, data⟩ = false := by
              rw [← Bool.not_eq_true]
              intro hh
              simp [opOk, maxTime] at hh
              first | omega | (have h := of_decide_eq_true hh; omega)
            simp [d1, hno]
        ·
          by_cases k4 : k = 4
          · subst k4
            by_cases d1 : 0 ≤ f
            · by_cases d2 : f < t
              · by_cases d3 : t ≤ 1099511627776
                ·
                  simp [d1, d2, d3, hd]
                  refine mG_call (specReadBlock_ret hd _) ?_
                  rintro _ K ⟨a, rfl, u, _⟩
                  simp [hk]
                  refine pendB (fun c1 => ?_) (fun c1 => ?_)
                  · simp [c1]
                    refine pendB (fun c2 => ?_) (fun c2 => ?_)
                    · simp [c2]
                      refine ⟨?_, gc_flat rfl u⟩
                      refine bool_eq ?_
                      simp [opOk, c1, c2]
                      try (constructor <;> intro h <;> simp_all <;> omega)
                    · simp [c2, opOk]
                      exact gc_flat rfl u
                  · simp [c1, opOk]
                    exact gc_flat rfl u
                ·
                  simp [d1, d2, d3, hd]
                  refine mG_call (specReadBlock_ret hd _) ?_
                  rintro _ K ⟨a, rfl, u, _⟩
                  simp [hk]
                  refine pendB (fun c1 => ?_) (fun c1 => ?_)
                  · simp [c1]
                    refine pendB (fun c2 => ?_) (fun c2 => ?_)
                    · simp [c2]
                      refine ⟨?_, gc_flat rfl u⟩
                      refine bool_eq ?_
                      simp [opOk, c1, c2]
                      try (constructor <;> intro h <;> simp_all <;> omega)
                    · simp [c2, opOk]
                      exact gc_flat rfl u
                  · simp [c1, opOk]
                    exact gc_flat rfl u
              ·
                simp [d1, d2, hd]
                refine mG_call (specReadBlock_ret hd _) ?_
                rintro _ K ⟨a, rfl, u, _⟩
                simp [hk]
                refine pendB (fun c1 => ?_) (fun c1 => ?_)
                · simp [c1]
                  refine pendB (fun c2 => ?_) (fun c2 => ?_)
                  · simp [c2]
                    refine ⟨?_, gc_flat rfl u⟩
                    refine bool_eq ?_
                    simp [opOk, c1, c2]
                    try (constructor <;> intro h <;> simp_all <;> omega)
                  · simp [c2, opOk]
                    exact gc_flat rfl u
                · simp [c1, opOk]
                  exact gc_flat rfl u
            ·
              simp [d1, hd]
              refine mG_call (specReadBlock_ret hd _) ?_
              rintro _ K ⟨a, rfl, u, _⟩
              simp [hk]
              refine pendB (fun c1 => ?_) (fun c1 => ?_)
              · simp [c1]
                refine pendB (fun c2 => ?_) (fun c2 => ?_)
                · simp [c2]
                  refine ⟨?_, gc_flat rfl u⟩
                  refine bool_eq ?_
                  simp [opOk, c1, c2]
                  try (constructor <;> intro h <;> simp_all <;> omega)
                · simp [c2, opOk]
                  exact gc_flat rfl u
              · simp [c1, opOk]
                exact gc_flat rfl u
          ·
            by_cases k5 : k = 5
            · subst k5
              by_cases d1 : 0 ≤ f
              · by_cases d2 : f < t
                · by_cases d3 : t ≤ 1099511627776
                  ·
                    simp [d1, d2, d3, hk]
                    refine pendB (fun c1 => ?_) (fun c1 => ?_)
                    · simp [d1, d2, d3, c1]
                      try refine bool_eq ?_
                      simp [opOk, maxTime, d1, d2, d3, c1]
                      try (constructor <;> intro h <;> simp_all <;> omega)
                    · simp [c1, opOk]
                  ·
                    simp [d1, d2, d3, hk]
                    refine pendB (fun c1 => ?_) (fun c1 => ?_)
                    · simp [d1, d2, d3, c1]
                      try refine bool_eq ?_
                      simp [opOk, maxTime, d1, d2, d3, c1]
                      try (constructor <;> intro h <;> simp_all <;> omega)
                    · simp [c1, opOk]
                ·
                  simp [d1, d2, hk]
                  refine pendB (fun c1 => ?_) (fun c1 => ?_)
                  · simp [d1, d2, c1]
                    try refine bool_eq ?_
                    simp [opOk, maxTime, d1, d2, c1]
                    try (constructor <;> intro h <;> simp_all <;> omega)
                  · simp [c1, opOk]
              ·
                simp [d1, hk]
                refine pendB (fun c1 => ?_) (fun c1 => ?_)
                · simp [d1, c1]
                  try refine bool_eq ?_
                  simp [opOk, maxTime, d1, c1]
                  try (constructor <;> intro h <;> simp_all <;> omega)
                · simp [c1, opOk]
            ·
              by_cases k7 : k = 7
              · subst k7
                by_cases d1 : 0 ≤ f
                · by_cases d2 : f < t
                  · by_cases d3 : t ≤ 1099511627776
                    ·
                      simp [d1, d2, d3]
                      refine bool_eq ?_
                      simp [opOk]
                      try (constructor <;> intro h <;> simp_all <;> omega)
                    ·
                      simp [d1, d2, d3]
                      refine bool_eq ?_
                      simp [opOk]
                      try (constructor <;> intro h <;> simp_all <;> omega)
                  ·
                    simp [d1, d2]
                    refine bool_eq ?_
                    simp [opOk]
                    try (constructor <;> intro h <;> simp_all <;> omega)
                ·
                  simp [d1]
                  refine bool_eq ?_
                  simp [opOk]
                  try (constructor <;> intro h <;> simp_all <;> omega)
              ·
                by_cases d1 : 0 ≤ f
                · by_cases d2 : f < t
                  · by_cases d3 : t ≤ 1099511627776
                    ·
                      simp [d1, d2, d3, k1, k2, k6, k3, k4, k5, k7, opOk]
                    ·
                      simp [d1, d2, d3, k1, k2, k6, k3, k4, k5, k7, opOk]
                  ·
                    simp [d1, d2, k1, k2, k6, k3, k4, k5, k7, opOk]
                ·
                  simp [d1, k1, k2, k6, k3, k4, k5, k7, opOk]

end Go.Abs

/-
  PLAIN LAWS: calls and answers as texts.
-/
namespace Go.Abs
open Go
set_option linter.unusedSimpArgs false

def byteI (n : Int) : UInt8 := UInt8.ofNat (n % 256).toNat
def rawOp (o : Op') : List UInt8 := byteI o.kind :: (var o.key.length ++ (o.key ++ (var o.low ++ (var o.high ++ o.data))))
def showOp (o : Op') : List UInt8 := if opOk o = true then rawOp o else []
def rawAns (a : Ans) : List UInt8 := var a.code ++ (var a.index ++ (var a.mark ++ a.data))
def showAns (a : Ans) : List UInt8 := if ansOk a = true then rawAns a else []
def showCmd (x : Cmd') : List UInt8 := if cmdOk x = true then var x.client ++ (var x.serial ++ showOp x.op) else []

/-- A call, off a reader. -/
def rop (s : List UInt8) (ok : Bool) : Op' × List UInt8 × Bool :=
  let a := rkind s ok
  let b := rpiece a.2.1 a.2.2
  let c := rnum b.2.1 b.2.2
  let d := rnum c.2.1 c.2.2
  (⟨a.1, b.1, c.1, d.1, d.2.1⟩, d.2.1, d.2.2)
def rans (s : List UInt8) : Ans × Bool :=
  let a := rnum s true
  let b := rnum a.2.1 a.2.2
  let c := rnum b.2.1 b.2.2
  (⟨a.1, b.1, c.1, c.2.1⟩, c.2.2)
def rcmd (s : List UInt8) : Cmd' × Bool :=
  let a := rnum s true
  let b := rnum a.2.1 a.2.2
  let c := rop b.2.1 b.2.2
  (⟨a.1, b.1, c.1⟩, c.2.2)
def readOp (s : List UInt8) : Op' × Bool := if (rop s true).2.2 = true ∧ showOp (rop s true).1 = s then ((rop s true).1, true) else (.none, false)
def readAns (s : List UInt8) : Ans × Bool := if (rans s).2 = true ∧ showAns (rans s).1 = s then ((rans s).1, true) else (.none, false)
def readCmd (s : List UInt8) : Cmd' × Bool := if (rcmd s).2 = true ∧ showCmd (rcmd s).1 = s then ((rcmd s).1, true) else (.none, false)

@[simp] theorem Sm_rop {s : List UInt8} (h : Sm s) (ok : Bool) : Sm (rop s ok).2.1 := by
  unfold rop
  simp (maxDischargeDepth := 30) [h]
theorem rop_sm {s : List UInt8} (h : Sm s) (ok : Bool) : Sm (rop s ok).1.key ∧ Sm (rop s ok).1.data := by
  unfold rop
  simp (maxDischargeDepth := 30) [h]

/-- What is right has its numbers in their bounds. -/
theorem opOk_rng {o : Op'} (h : opOk o = true) : (1 ≤ o.kind ∧ o.kind ≤ 7) ∧ o.key.length ≤ 8 ∧ (0 ≤ o.low ∧ o.low ≤ maxVar) ∧ (0 ≤ o.high ∧ o.high ≤ maxVar) := by
  have hmx : maxTime = 1099511627776 := rfl
  have hmv : maxVar = 562949953421311 := rfl
  have hkl : ∀ s, keyOk s = true → s.length ≤ 8 := fun s hs => by
    unfold keyOk at hs
    rw [Bool.and_eq_true] at hs
    exact (of_decide_eq_true hs.2).2
  unfold opOk at h
  split at h
  · rename_i k
    obtain ⟨a, b, c, d, e⟩ := of_decide_eq_true h
    rw [k, d]; simp; omega
  · split at h
    · rename_i k
      obtain ⟨a, b, c, d, e⟩ := of_decide_eq_true h
      rw [d, c]; simp; omega
    · split at h
      · rename_i k
        obtain ⟨a, b, c, d, e⟩ := of_decide_eq_true h
        rw [d, c]; simp; omega
      · split at h
        · rename_i k
          rw [Bool.and_eq_true, Bool.and_eq_true] at h
          obtain ⟨a, b⟩ := of_decide_eq_true h.2
          have := hkl _ h.1.2
          rw [a, b]; omega
        · split at h
          · rename_i k
            rw [Bool.and_eq_true] at h
            obtain ⟨a, b, c, d⟩ := of_decide_eq_true h.2
            have := hkl _ h.1
            omega
          · split at h
            · rename_i k
              obtain ⟨a, b, c, d⟩ := of_decide_eq_true h
              rw [a, b, c]; simp; omega
            · cases h
theorem ansOk_rng {a : Ans} (h : ansOk a = true) : (0 ≤ a.code ∧ a.code ≤ maxVar) ∧ (0 ≤ a.index ∧ a.index ≤ maxVar) ∧ (0 ≤ a.mark ∧ a.mark ≤ maxVar) ∧ a.data.length ≤ 900 := by
  have hmx : maxTime = 1099511627776 := rfl
  have hmv : maxVar = 562949953421311 := rfl
  unfold ansOk at h
  simp only [Bool.and_eq_true, decide_eq_true_iff] at h
  omega

theorem rbytes_app (a r : List UInt8) : rbytes (a ++ r) true a.length = (a, r, true) := by
  unfold rbytes
  rw [if_pos ⟨rfl, by simp⟩]
  simp
theorem rpiece_app {a : List UInt8} (h : (a.length : Int) ≤ maxVar) (r : List UInt8) : rpiece (var a.length ++ (a ++ r)) true = (a, r, true) := by
  unfold rpiece
  rw [rnum_var ⟨by omega, h⟩]
  exact rbytes_app a r
theorem rkind_cons (b : UInt8) (r : List UInt8) : rkind (b :: r) true = (b.toNat, r, true) := by
  have e : rbytes (b :: r) true 1 = ([b], r, true) := rbytes_app [b] r
  unfold rkind
  rw [e]
  rfl
theorem byteI_small {n : Int} (h : 0 ≤ n ∧ n < 256) : ((byteI n).toNat : Int) = n := by
  unfold byteI
  rw [u8_ofNat (by omega)]
  omega

theorem rop_raw {o : Op'} (h : opOk o = true) : rop (rawOp o) true = (o, o.data, true) := by
  obtain ⟨h1, h2, h3, h4⟩ := opOk_rng h
  have hmv : maxVar = 562949953421311 := rfl
  unfold rop rawOp
  simp only [rkind_cons, rpiece_app (show (o.key.length : Int) ≤ maxVar by omega), rnum_var h3, rnum_var h4, byteI_small (show 0 ≤ o.kind ∧ o.kind < 256 by omega)]
  have e3 : ((o.low.toNat : Nat) : Int) = o.low := by omega
  have e4 : ((o.high.toNat : Nat) : Int) = o.high := by omega
  rw [e3, e4]
theorem showOp_ok {o : Op'} (h : opOk o = true) : showOp o = rawOp o ∧ showOp o ≠ [] := by
  unfold showOp
  rw [if_pos h]
  exact ⟨rfl, by simp [rawOp]⟩
theorem showOp_ne {o : Op'} (h : showOp o ≠ []) : opOk o = true := by
  unfold showOp at h
  split at h
  · assumption
  · exact absurd rfl h
theorem readOp_show {o : Op'} (h : opOk o = true) : readOp (showOp o) = (o, true) := by
  unfold readOp
  rw [(showOp_ok h).1, rop_raw h]
  simp only
  rw [if_pos ⟨trivial, (showOp_ok h).1⟩]
theorem rnum_true {s : List UInt8} {ok : Bool} (h : (rnum s ok).2.2 = true) : ok = true ∧ 0 < (readVar s).2 := by
  unfold rnum at h
  split at h
  · assumption
  · cases h
theorem rbytes_true {s : List UInt8} {ok : Bool} {n : Nat} (h : (rbytes s ok n).2.2 = true) : ok = true ∧ n ≤ s.length := by
  unfold rbytes at h
  split at h
  · assumption
  · cases h
theorem readOp_true {s : List UInt8} {o : Op'} (h : readOp s = (o, true)) : showOp o = s ∧ s ≠ [] := by
  unfold readOp at h
  split at h
  · rename_i hc
    simp only [Prod.mk.injEq, and_true] at h
    subst h
    refine ⟨hc.2, fun hs => ?_⟩
    have h1 := hc.1
    unfold rop at h1
    simp only at h1
    have h2 := (rbytes_true (rnum_true (rnum_true h1).1).1).1
    have h3 : (rbytes s true 1).2.2 = true := (rnum_true h2).1
    have h4 := rbytes_true h3
    rw [hs] at h4
    simp at h4
  · cases h
theorem readOp_iff {s : List UInt8} {o : Op'} : readOp s = (o, true) ↔ showOp o = s ∧ s ≠ [] := by
  constructor
  · exact readOp_true
  · rintro ⟨rfl, hs⟩
    exact readOp_show (showOp_ne hs)
theorem readOp_false {s : List UInt8} (h : (readOp s).2 = false) : readOp s = (.none, false) := by
  unfold readOp at h ⊢
  split at h
  · cases h
  · rename_i hc; rw [if_neg hc]

theorem rans_raw {a : Ans} (h : ansOk a = true) : rans (rawAns a) = (a, true) := by
  obtain ⟨h1, h2, h3, h4⟩ := ansOk_rng h
  unfold rans rawAns
  simp only [rnum_var h1, rnum_var h2, rnum_var h3]
  have e1 : ((a.code.toNat : Nat) : Int) = a.code := by omega
  have e2 : ((a.index.toNat : Nat) : Int) = a.index := by omega
  have e3 : ((a.mark.toNat : Nat) : Int) = a.mark := by omega
  rw [e1, e2, e3]
theorem showAns_ok {a : Ans} (h : ansOk a = true) : showAns a = rawAns a ∧ showAns a ≠ [] := by
  obtain ⟨h1, _⟩ := ansOk_rng h
  unfold showAns
  rw [if_pos h]
  refine ⟨rfl, ?_⟩
  unfold rawAns
  intro hh
  simp only [List.append_eq_nil_iff] at hh
  exact absurd h1 ((var_nil _).1 hh.1)
theorem showAns_ne {a : Ans} (h : showAns a ≠ []) : ansOk a = true := by
  unfold showAns at h
  split at h
  · assumption
  · exact absurd rfl h
theorem readAns_show {a : Ans} (h : ansOk a = true) : readAns (showAns a) = (a, true) := by
  unfold readAns
  rw [(showAns_ok h).1, rans_raw h]
  simp only
  rw [if_pos ⟨trivial, (showAns_ok h).1⟩]
theorem readAns_iff {s : List UInt8} {a : Ans} : readAns s = (a, true) ↔ showAns a = s ∧ s ≠ [] := by
  constructor
  · intro h
    unfold readAns at h
    split at h
    · rename_i hc
      simp only [Prod.mk.injEq, and_true] at h
      subst h
      refine ⟨hc.2, fun hs => ?_⟩
      have h1 := hc.1
      unfold rans at h1
      simp only at h1
      have h2 := rnum_true (rnum_true (rnum_true h1).1).1
      rw [hs] at h2
      exact absurd h2.2 (by decide)
    · cases h
  · rintro ⟨rfl, hs⟩
    exact readAns_show (showAns_ne hs)
theorem readAns_false {s : List UInt8} (h : (readAns s).2 = false) : readAns s = (.none, false) := by
  unfold readAns at h ⊢
  split at h
  · cases h
  · rename_i hc; rw [if_neg hc]

theorem cmdOk_iff (x : Cmd') : cmdOk x = true ↔ (1 ≤ x.client ∧ x.client ≤ 4) ∧ (1 ≤ x.serial ∧ x.serial ≤ 1000000) ∧ opOk x.op = true := by
  unfold cmdOk
  simp only [Bool.and_eq_true, decide_eq_true_iff, and_assoc]
theorem readCmd_show {x : Cmd'} (h : cmdOk x = true) : readCmd (showCmd x) = (x, true) := by
  obtain ⟨h1, h2, h3⟩ := (cmdOk_iff x).1 h
  have hmv : maxVar = 562949953421311 := rfl
  have e : showCmd x = var x.client ++ (var x.serial ++ rawOp x.op) := by
    unfold showCmd
    rw [if_pos h, (showOp_ok h3).1]
  have r : rcmd (showCmd x) = (x, true) := by
    unfold rcmd
    rw [e]
    simp only [rnum_var (show 0 ≤ x.client ∧ x.client ≤ maxVar by omega), rnum_var (show 0 ≤ x.serial ∧ x.serial ≤ maxVar by omega), rop_raw h3]
    have e1 : ((x.client.toNat : Nat) : Int) = x.client := by omega
    have e2 : ((x.serial.toNat : Nat) : Int) = x.serial := by omega
    rw [e1, e2]
  unfold readCmd
  rw [r, if_pos ⟨rfl, rfl⟩]
theorem readCmd_nil : (readCmd []).2 = false := by
  unfold readCmd
  rw [if_neg]
  intro h
  have h1 := h.1
  unfold rcmd rop at h1
  simp only at h1
  have h2 := (rnum_true (rnum_true h1).1).1
  have h3 := (rbytes_true h2).1
  have h4 := (rnum_true h3).1
  have h5 := (rbytes_true h4).1
  have h6 := rnum_true (rnum_true h5).1
  exact absurd h6.2 (by decide)
theorem showCmd_nil {x : Cmd'} (h : cmdOk x = false) : showCmd x = [] := by
  unfold showCmd
  rw [if_neg (by simp [h])]
theorem showCmd_ne {x : Cmd'} (h : cmdOk x = true) : showCmd x ≠ [] := by
  intro hh
  have := readCmd_show h
  rw [hh] at this
  have h2 := readCmd_nil
  rw [this] at h2
  cases h2
end Go.Abs

/-
  CONTRACTS: calls and answers as texts.
-/
namespace Go.Abs
open Go Go.Proofs
set_option linter.unusedSimpArgs false
attribute [local simp] fieldAddr build fillL
attribute [simp] answerOk_eq specAnswerOk_eq

theorem sm2 {s : List UInt8} (h : Sm s) : s.length ≤ 2305843009213693951 := by have := h.lt; omega
@[simp] theorem showOp_eq (k f t : Int) (key data : List UInt8) (H : Heap) (hk : Sm key) (hd : Sm data) : evF Tryz.prog TT 24 #[.agg #[.int .i64 k, S key, .int .i64 f, .int .i64 t, S data]] H = some (S (showOp ⟨k, key, f, t, data⟩), H) := by
  refine Ret.eq ?_
  refine Ret.go rfl Tryz.func24 rfl (by decide) (by simp [Tryz.ntmps24]) (by kernel_rfl) loc24 Tryz.results24 Tryz.ntmps24 ?_
  simp [hk, hd]
  refine pendB (fun c => ?_) (fun c => ?_)
  · simp at c
    simp [c, showOp]
  · simp at c
    have hr := opOk_rng c
    have h1 := var_len key.length
    have h2 := var_len f
    have h3 := var_len t
    have h4 := sm2 hd
    simp at hr
    simp [c]
    repeat refine ⟨by omega, ?_⟩
    exact ⟨by rw [showOp, if_pos c]; rfl, gc_flat rfl ((Upd_refl H).push _ _)⟩
@[simp] theorem specShowOp_eq (k f t : Int) (key data : List UInt8) (H : Heap) (hk : Sm key) (hd : Sm data) : evF Tryz.prog TT 74 #[.agg #[.int .i64 k, S key, .int .i64 f, .int .i64 t, S data]] H = some (S (showOp ⟨k, key, f, t, data⟩), H) := by
  refine Ret.eq ?_
  refine Ret.go rfl Tryz.func74 rfl (by decide) (by simp [Tryz.ntmps74]) (by kernel_rfl) loc74 Tryz.results74 Tryz.ntmps74 ?_
  simp [hk, hd]
  refine pendB (fun c => ?_) (fun c => ?_)
  · simp at c
    simp [c, showOp]
  · simp at c
    have hr := opOk_rng c
    have h1 := var_len key.length
    have h2 := var_len f
    have h3 := var_len t
    have h4 := sm2 hd
    simp at hr
    simp [c]
    repeat refine ⟨by omega, ?_⟩
    exact ⟨by rw [showOp, if_pos c]; rfl, gc_flat rfl ((Upd_refl H).push _ _)⟩
@[simp] theorem showAns_eq (c i m : Int) (d : List UInt8) (H : Heap) : evF Tryz.prog TT 10 #[.agg #[.int .i64 c, .int .i64 i, .int .i64 m, S d]] H = some (S (showAns ⟨c, i, m, d⟩), H) := by
  refine Ret.eq ?_
  refine Ret.go rfl Tryz.func10 rfl (by decide) (by simp [Tryz.ntmps10]) (by kernel_rfl) loc10 Tryz.results10 Tryz.ntmps10 ?_
  simp
  refine pendB (fun h => ?_) (fun h => ?_)
  · simp at h
    simp [h, showAns]
  · simp at h
    have hr := ansOk_rng h
    have h1 := var_len c
    have h2 := var_len i
    have h3 := var_len m
    simp at hr
    simp [h]
    repeat refine ⟨by omega, ?_⟩
    rw [showAns, if_pos h]
    rfl
@[simp] theorem specShowAns_eq (c i m : Int) (d : List UInt8) (H : Heap) : evF Tryz.prog TT 75 #[.agg #[.int .i64 c, .int .i64 i, .int .i64 m, S d]] H = some (S (showAns ⟨c, i, m, d⟩), H) := by
  refine Ret.eq ?_
  refine Ret.go rfl Tryz.func75 rfl (by decide) (by simp [Tryz.ntmps75]) (by kernel_rfl) loc75 Tryz.results75 Tryz.ntmps75 ?_
  simp
  refine pendB (fun h => ?_) (fun h => ?_)
  · simp at h
    simp [h, showAns]
  · simp at h
    have hr := ansOk_rng h
    have h1 := var_len c
    have h2 := var_len i
    have h3 := var_len m
    simp at hr
    simp [h]
    repeat refine ⟨by omega, ?_⟩
    rw [showAns, if_pos h]
    rfl
theorem showOp_len (o : Op') : (showOp o).length ≤ 30 + o.data.length := by
  unfold showOp
  split
  · rename_i h
    have hr := opOk_rng h
    have h1 := var_len o.key.length
    have h2 := var_len o.low
    have h3 := var_len o.high
    unfold rawOp
    simp
    omega
  · simp
@[simp] theorem showCmd_eq (c s : Int) (k f t : Int) (key data : List UInt8) (H : Heap) (hk : Sm key) (hd : Sm data) : evF Tryz.prog TT 6 #[.agg #[.int .i64 c, .int .i64 s, .int .i64 k, S key, .int .i64 f, .int .i64 t, S data]] H = some (S (showCmd ⟨c, s, ⟨k, key, f, t, data⟩⟩), H) := by
  refine Ret.eq ?_
  refine Ret.go rfl Tryz.func6 rfl (by decide) (by simp [Tryz.ntmps6]) (by kernel_rfl) loc6 Tryz.results6 Tryz.ntmps6 ?_
  have hno : ¬ ((1 ≤ c ∧ c ≤ 4) ∧ (1 ≤ s ∧ s ≤ 1000000) ∧ opOk ⟨k, key, f, t, data⟩ = true) → showCmd ⟨c, s, ⟨k, key, f, t, data⟩⟩ = [] := fun h => showCmd_nil (by
    rw [← Bool.not_eq_true, cmdOk_iff]; exact h)
  simp [hk, hd]
  refine pendB (fun h1 => ?_) (fun h1 => ?_)
  · simp [h1]
    simp at h1
    rw [hno (by omega)]
  · have h1' := h1
    simp at h1'
    simp [h1]
    refine pendB (fun h2 => ?_) (fun h2 => ?_)
    · simp [h2]
      simp at h2
      rw [hno (by omega)]
    · have h2' := h2
      simp at h2'
      simp [h2, hk, hd]
      refine pendB (fun h3 => ?_) (fun h3 => ?_)
      · simp at h3
        simp [h3, hno]
      · simp at h3
        have hl := showOp_len ⟨k, key, f, t, data⟩
        have v1 := var_len c
        have v2 := var_len s
        have h4 := sm2 hd
        simp at hl
        simp [h3, hk, hd]
        repeat refine ⟨by omega, ?_⟩
        rw [showCmd, if_pos ((cmdOk_iff _).2 ⟨h1', h2', h3⟩)]

/-- A call as a value. -/
def opV (o : Op') : Value := .agg #[.int .i64 o.kind, S o.key, .int .i64 o.low, .int .i64 o.high, S o.data]
def ansV (a : Ans) : Value := .agg #[.int .i64 a.code, .int .i64 a.index, .int .i64 a.mark, S a.data]
def cmdV (x : Cmd') : Value := .agg #[.int .i64 x.client, .int .i64 x.serial, .int .i64 x.op.kind, S x.op.key, .int .i64 x.op.low, .int .i64 x.op.high, S x.op.data]
theorem op_eq {K : Heap} {id : Nat} (hb : RB K id) {s : List UInt8} (hs : Sm s) (ok : Bool) : evF Tryz.prog TT 26 #[.pointer (some ⟨id, 0, none⟩)] (K.set id [S s, .bool ok]) =
    some (.agg #[.int .i64 (rop s ok).1.kind, S (rop s ok).1.key, .int .i64 (rop s ok).1.low, .int .i64 (rop s ok).1.high, S (rop s ok).1.data], K.set id [S (rop s ok).2.1, .bool (rop s ok).2.2]) := by
  refine Ret.eq ?_
  refine Ret.go rfl Tryz.func26 rfl (by decide) (by simp [Tryz.ntmps26]) (by kernel_rfl) loc26 Tryz.results26 Tryz.ntmps26 ?_
  have hb' := hb
  obtain ⟨c, hbx⟩ := hb'
  have hlt := hbx.lt
  simp (maxDischargeDepth := 30) [hb, hs, hlt]
  and_intros <;> rfl

theorem push_set (H : Heap) (c : List Value) : H.push c 0 = (H.push c 0).set H.size c := (Box.new H c).as_set
@[simp] theorem readOp_eq {s : List UInt8} (hs : Sm s) (H : Heap) : evF Tryz.prog TT 71 #[S s] H = some (.tuple #[opV (readOp s).1, .bool (readOp s).2], H) := by
  refine Ret.eq ?_
  refine Ret.go rfl Tryz.func71 rfl (by decide) (by simp [Tryz.ntmps71]) (by kernel_rfl) loc71 Tryz.results71 Tryz.ntmps71 ?_
  obtain ⟨k1, k2⟩ := rop_sm hs true
  have hb : RB (H.push [S s, .bool true] 0) H.size := RB_push H _
  have hu : ∀ d, Upd no H ((H.push [S s, .bool true] 0).set H.size d) := fun d => ((Upd_refl H).push _ 0).set (Box.new H _) (fun h => by omega) d
  have hop := op_eq hb hs true
  rw [← push_set] at hop
  have hlt : H.size < (H.push [S s, .bool true] 0).size := by simp
  simp [hop]
  generalize hK : H.push [S s, .bool true] 0 = K at hb hu hlt ⊢
  refine pendB (fun c1 => ?_) (fun c1 => ?_)
  · simp at c1
    have e : readOp s = (.none, false) := by rw [readOp, if_neg (by simp [c1])]
    simp [c1, e, opV, Op'.none]
    exact gc_flat rfl (hu _)
  · simp at c1
    simp (maxDischargeDepth := 30) [c1, k1, k2]
    refine pendB (fun c2 => ?_) (fun c2 => ?_)
    · simp at c2
      have e : readOp s = (.none, false) := by rw [readOp, if_neg fun h => c2 h.2]
      simp [c2, e, opV, Op'.none]
      exact gc_flat rfl (hu _)
    · simp at c2
      have e : readOp s = ((rop s true).1, true) := by rw [readOp, if_pos ⟨c1, c2⟩]
      simp [c2, e, opV]
      exact gc_flat rfl (hu _)
end Go.Abs

/-
  CONTRACTS: calls and answers read.
-/
namespace Go.Abs
open Go Go.Proofs
set_option linter.unusedSimpArgs false
attribute [local simp] fieldAddr build fillL
attribute [simp] opV ansV cmdV

@[simp] theorem readAns_eq {s : List UInt8} (hs : Sm s) (H : Heap) : evF Tryz.prog TT 9 #[S s] H = some (.tuple #[ansV (readAns s).1, .bool (readAns s).2], H) := by
  refine Ret.eq ?_
  refine Ret.go rfl Tryz.func9 rfl (by decide) (by simp [Tryz.ntmps9]) (by kernel_rfl) loc9 Tryz.results9 Tryz.ntmps9 ?_
  have hu : ∀ d, Upd no H ((H.push [S s, .bool true] 0).set H.size d) := fun d => ((Upd_refl H).push _ 0).set (Box.new H _) (fun h => by omega) d
  have hb : RB (H.push [S s, .bool true] 0) H.size := RB_push H _
  have hn := num_eq hb hs true
  rw [← push_set] at hn
  have hlt : H.size < (H.push [S s, .bool true] 0).size := by simp
  have hr : rans s = (⟨(rnum s true).1, (rnum (rnum s true).2.1 (rnum s true).2.2).1, (rnum (rnum (rnum s true).2.1 (rnum s true).2.2).2.1 (rnum (rnum s true).2.1 (rnum s true).2.2).2.2).1, (rnum (rnum (rnum s true).2.1 (rnum s true).2.2).2.1 (rnum (rnum s true).2.1 (rnum s true).2.2).2.2).2.1⟩, (rnum (rnum (rnum s true).2.1 (rnum s true).2.2).2.1 (rnum (rnum s true).2.1 (rnum s true).2.2).2.2).2.2) := rfl
  simp [hn]
  generalize hK : H.push [S s, .bool true] 0 = K at hb hu hlt ⊢
  simp (maxDischargeDepth := 30) [hb, hs, hlt]
  refine pendB (fun c1 => ?_) (fun c1 => ?_)
  · simp at c1
    have e : readAns s = (.none, false) := by rw [readAns, hr, if_neg (by simp [c1])]
    simp [c1, e, Ans.none]
    exact gc_flat rfl (hu _)
  · simp at c1
    simp (maxDischargeDepth := 30) [c1]
    refine pendB (fun c2 => ?_) (fun c2 => ?_)
    · simp at c2
      have e : readAns s = (.none, false) := by rw [readAns, hr, if_neg fun h => c2 h.2]
      simp [c2, e, Ans.none]
      exact gc_flat rfl (hu _)
    · simp at c2
      have e : readAns s = ((rans s).1, true) := by rw [readAns, if_pos ⟨by rw [hr]; exact c1, by rw [hr]; exact c2⟩]
      simp [c2, e, hr]
      exact gc_flat rfl (hu _)
@[simp] theorem readCmd_eq {s : List UInt8} (hs : Sm s) (H : Heap) : evF Tryz.prog TT 7 #[S s] H = some (.tuple #[cmdV (readCmd s).1, .bool (readCmd s).2], H) := by
  refine Ret.eq ?_
  refine Ret.go rfl Tryz.func7 rfl (by decide) (by simp [Tryz.ntmps7]) (by kernel_rfl) loc7 Tryz.results7 Tryz.ntmps7 ?_
  have hu : ∀ d, Upd no H ((H.push [S s, .bool true] 0).set H.size d) := fun d => ((Upd_refl H).push _ 0).set (Box.new H _) (fun h => by omega) d
  have hb : RB (H.push [S s, .bool true] 0) H.size := RB_push H _
  have hn := num_eq hb hs true
  rw [← push_set] at hn
  have hlt : H.size < (H.push [S s, .bool true] 0).size := by simp
  have hr : rcmd s = (⟨(rnum s true).1, (rnum (rnum s true).2.1 (rnum s true).2.2).1, (rop (rnum (rnum s true).2.1 (rnum s true).2.2).2.1 (rnum (rnum s true).2.1 (rnum s true).2.2).2.2).1⟩, (rop (rnum (rnum s true).2.1 (rnum s true).2.2).2.1 (rnum (rnum s true).2.1 (rnum s true).2.2).2.2).2.2) := rfl
  have hs2 : Sm (rnum (rnum s true).2.1 (rnum s true).2.2).2.1 := Sm_rnum (Sm_rnum hs _) _
  obtain ⟨k1, k2⟩ := rop_sm hs2 (rnum (rnum s true).2.1 (rnum s true).2.2).2.2
  simp [hn]
  generalize hK : H.push [S s, .bool true] 0 = K at hb hu hlt ⊢
  have hop := op_eq hb hs2 (rnum (rnum s true).2.1 (rnum s true).2.2).2.2
  simp (maxDischargeDepth := 30) [hb, hs, hlt, hop]
  generalize hR : rop (rnum (rnum s true).2.1 (rnum s true).2.2).2.1 (rnum (rnum s true).2.1 (rnum s true).2.2).2.2 = R at hr k1 k2 ⊢
  refine pendB (fun c1 => ?_) (fun c1 => ?_)
  · simp at c1
    have e : readCmd s = (.none, false) := by rw [readCmd, hr, if_neg (by simp [c1])]
    simp [c1, e, Cmd'.none, Op'.none]
    exact gc_flat rfl (hu _)
  · simp at c1
    simp (maxDischargeDepth := 30) [c1, k1, k2]
    refine pendB (fun c2 => ?_) (fun c2 => ?_)
    · simp at c2
      have e : readCmd s = (.none, false) := by rw [readCmd, hr, if_neg fun h => c2 h.2]
      simp [c2, e, Cmd'.none, Op'.none]
      exact gc_flat rfl (hu _)
    · simp at c2
      have e : readCmd s = ((rcmd s).1, true) := by rw [readCmd, if_pos ⟨by rw [hr]; exact c1, by rw [hr]; exact c2⟩]
      simp [c2, e, hr]
      exact gc_flat rfl (hu _)

@[simp] theorem Sm_sub {s : List UInt8} (h : Sm s) (a b : Nat) : Sm (sub s a b) := Sm_le h (sub_length_le s a b)
theorem varsAt_sub {s : List UInt8} {a n : Nat} {l : List Int} {p : Nat} (h : varsAt s a n = some (l, p)) (hn : 0 < n) : a ≤ s.length ∧ p ≤ s.length := by
  have h1 : a ≤ s.length := by
    refine Decidable.byContradiction fun hc => ?_
    have : varsAt s a 1 = none := by simp only [varsAt]; rw [if_neg (by omega)]
    have := varsAt_none s a 1 n (by omega) this
    rw [this] at h
    cases h
  exact ⟨h1, (varsAt_len s a n l p h).2.2 h1⟩
/-- Numbers, where a text goes on with them. -/
theorem varsAt_here : ∀ (ns : List Int) (s pre r : List UInt8), s = pre ++ ((ns.map var).flatten ++ r) → (∀ x ∈ ns, 0 ≤ x ∧ x ≤ maxVar) → varsAt s pre.length ns.length = some (ns, pre.length + ((ns.map var).flatten).length) := by
  intro ns
  induction ns using List.reverseRecOn' with
  | nil => intro s pre r _ _; simp [varsAt]
  | snoc ns x ih =>
    intro s pre r hs hr
    have hx := hr x (by simp)
    have e : s = pre ++ ((ns.map var).flatten ++ (var x ++ r)) := by rw [hs]; simp
    have ih := ih s pre (var x ++ r) e fun y hy => hr y (by simp [hy])
    rw [List.length_append, List.length_singleton, varsAt, ih]
    simp only
    have hd : s.drop (pre.length + ((ns.map var).flatten).length) = var x ++ r := by
      rw [e, ← List.append_assoc]
      exact List.drop_left' (by simp)
    have hl : 0 < (var x).length := List.length_pos_iff.2 fun hh => absurd hx ((var_nil _).1 hh)
    rw [hd, readVar_var hx, if_pos ⟨by rw [e]; simp, hl⟩]
    have ex : ((x.toNat : Nat) : Int) = x := by omega
    simp [ex]
    omega

theorem specReadOp_eq {s : List UInt8} (hs : Sm s) (H : Heap) : evF Tryz.prog TT 46 #[S s] H = some (.tuple #[opV (readOp s).1, .bool (readOp s).2], H) := by
  refine Ret.eq ?_
  refine Ret.go rfl Tryz.func46 rfl (by decide) (by simp [Tryz.ntmps46]) (by kernel_rfl) loc46 Tryz.results46 Tryz.ntmps46 ?_
  have hs2 := hs.lt
  have fail : (∀ o, opOk o = true → rawOp o = s → False) → readOp s = (.none, false) := fun h => by
    cases hq : (readOp s).2 with
    | false => exact readOp_false hq
    | true =>
      obtain ⟨h1, h2⟩ := readOp_true (s := s) (o := (readOp s).1) (by rw [← hq])
      rw [← h1] at h2
      exact (h _ (showOp_ne h2) (by rw [← (showOp_ok (showOp_ne h2)).1, h1])).elim
  -- how a call that is right is read
  have good : ∀ o, opOk o = true → rawOp o = s → varsAt s 1 1 = some ([(o.key.length : Int)], 1 + (var o.key.length).length) ∧ varsAt s (1 + (var o.key.length).length + o.key.length) 2 = some ([o.low, o.high], 1 + (var o.key.length).length + o.key.length + ((var o.low).length + (var o.high).length)) := fun o h1 h2 => by
    obtain ⟨r1, r2, r3, r4⟩ := opOk_rng h1
    have q1 := varsAt_here [(o.key.length : Int)] s [byteI o.kind] (o.key ++ (var o.low ++ (var o.high ++ o.data))) (by rw [← h2, rawOp]; simp) (by intro x hx; rw [List.mem_singleton.1 hx]; unfold maxVar; omega)
    have q2 := varsAt_here [o.low, o.high] s (byteI o.kind :: (var o.key.length ++ o.key)) o.data (by rw [← h2, rawOp]; simp) (by
      intro x hx
      rcases List.mem_cons.1 hx with rfl | hx
      · exact r3
      · rw [List.mem_singleton.1 hx]; exact r4)
    simp at q1 q2
    refine ⟨by rw [q1, Nat.add_comm], ?_⟩
    have e : (var o.key.length).length + o.key.length + 1 = 1 + (var o.key.length).length + o.key.length := by omega
    rw [← e, q2]
  simp
  refine mG_call (l13Vars_ret hs 1 1 (by decide) (by decide) H) ?_
  rintro _ K ⟨a1, n, k, rfl, u1, s1, hv1, hv2⟩
  simp
  refine pendP (fun c1 => ?_) (fun c1 => ?_)
  · simp [c1]
    refine ⟨?_, gc_flat rfl u1⟩
    rw [fail fun o h1 h2 => ?_]
    · simp [Op'.none]
    · have := (hv1 _ _ (good o h1 h2).1).2
      omega
  · have hvs : ∃ p, varsAt s 1 1 = some (n, p) ∧ k = (p : Int) := by
      cases hq : varsAt s 1 1 with
      | none => have := hv2 hq; omega
      | some x =>
        obtain ⟨v', p⟩ := x
        obtain ⟨rfl, rfl⟩ := hv1 v' p hq
        exact ⟨p, rfl, rfl⟩
    obtain ⟨p, hvs, rfl⟩ := hvs
    obtain ⟨hnl, _, _⟩ := varsAt_len s 1 1 n p hvs
    obtain ⟨p1, p2⟩ := varsAt_sub hvs (by decide)
    have hrng := varsAt_rng s 1 1 n p hvs
    obtain ⟨m, rfl⟩ : ∃ m, n = [m] := by
      match n, hnl with
      | [m], _ => exact ⟨m, rfl⟩
    have hm := hrng m (by simp)
    obtain ⟨m, rfl⟩ : ∃ q : Nat, m = q := ⟨m.toNat, by omega⟩
    have hx1 := indexAddr_Sl (P := Tryz.prog) s1 ti72
    have hl1 := ld_int s1 (Pe.rfl' K) 0 (by simp)
    have hg : gi [(m : Int)] 0 = m := rfl
    have w1 : IntKind.i64.wrap ((s.length : Int) - (p : Int)) = ((s.length - p : Nat) : Int) := by rw [wrap_i64 (by omega) (by omega)]; omega
    have hmv : maxVar = 562949953421311 := rfl
    have w2 : IntKind.i64.wrap ((p : Int) + (m : Int)) = ((p + m : Nat) : Int) := by rw [wrap_i64 (by omega) (by omega)]; omega
    have same : ∀ o, opOk o = true → rawOp o = s → o.key.length = m ∧ 1 + (var o.key.length).length = p := fun o h1 h2 => by
      have := (good o h1 h2).1
      rw [hvs] at this
      simp at this
      omega
    simp at hx1 hl1
    rw [hg] at hl1
    simp [c1, hx1, hl1]
    refine pendP (fun c2 => ?_) (fun c2 => ?_)
    · simp [c2]
      refine ⟨?_, gc_flat rfl u1⟩
      rw [fail fun o h1 h2 => ?_]
      · simp [Op'.none]
      · have := (opOk_rng h1).2.1
        have := same o h1 h2
        omega
    · simp [c2, hx1, hl1, w1]
      refine pendP (fun c3 => ?_) (fun c3 => ?_)
      · simp [c3]
        refine ⟨?_, gc_flat rfl u1⟩
        rw [fail fun o h1 h2 => ?_]
        · simp [Op'.none]
        · obtain ⟨e1, e2⟩ := same o h1 h2
          have := (varsAt_sub (good o h1 h2).2 (by decide)).1
          omega
      · simp [c3, hx1, hl1, w2, -Int.natCast_add]
        refine mG_call (l13Vars_ret hs (p + m) 2 (by omega) (by decide) K) ?_
        rintro _ K2 ⟨a2, l, k2, rfl, u2, s2, hv3, hv4⟩
        have u12 := u1.then u2
        simp
        refine pendP (fun c4 => ?_) (fun c4 => ?_)
        · simp [c4]
          refine ⟨?_, gc_flat rfl u12⟩
          rw [fail fun o h1 h2 => ?_]
          · simp [Op'.none]
          · obtain ⟨e1, e2⟩ := same o h1 h2
            have := (good o h1 h2).2
            rw [e1, ← e1, e2, e1] at this
            have := (hv3 _ _ this).2
            omega
        · have hvs2 : ∃ q, varsAt s (p + m) 2 = some (l, q) ∧ k2 = (q : Int) := by
            cases hq : varsAt s (p + m) 2 with
            | none => have := hv4 hq; omega
            | some x =>
              obtain ⟨v', q⟩ := x
              obtain ⟨rfl, rfl⟩ := hv3 v' q hq
              exact ⟨q, rfl, rfl⟩
          obtain ⟨q, hvs2, rfl⟩ := hvs2
          obtain ⟨hll, hq1, _⟩ := varsAt_len s (p + m) 2 l q hvs2
          obtain ⟨q1, q2⟩ := varsAt_sub hvs2 (by decide)
          have hrng2 := varsAt_rng s (p + m) 2 l q hvs2
          obtain ⟨x, y, rfl⟩ : ∃ x y, l = [x, y] := by
            match l, hll with
            | [x, y], _ => exact ⟨x, y, rfl⟩
          have hx2 := indexAddr_Sl (P := Tryz.prog) s2 ti72
          have g0 := ld_int s2 (Pe.rfl' K2) 0 (by simp)
          have g1 := ld_int s2 (Pe.rfl' K2) 1 (by simp)
          have l1 := ld_int s1 u2.pe 0 (by simp)
          have e0 : gi [x, y] 0 = x := rfl
          have e1 : gi [x, y] 1 = y := rfl
          rw [e0] at g0
          rw [e1] at g1
          rw [hg] at l1
          simp at hx2
          have hpm : (p : Int) ≤ ((p + m : Nat) : Int) := by omega
          have hpp : (0 : Int) < s.length := by omega
          have hp0 : 0 < s.length := by omega
          have hw : ∀ b : UInt8, IntKind.i64.wrap (b.toNat : Int) = b.toNat := fun b => by
            have := UInt8.toNat_lt b
            exact wrap_i64 (by omega) (by omega)
          simp (maxDischargeDepth := 10) [c4, hx1, hx2, l1, g0, g1, w2, hw, hp0, hpm, q1, q2, -Int.natCast_add]
          refine ⟨by kernel_rfl, by kernel_rfl, ?_⟩
          have uniq : ∀ o, opOk o = true → rawOp o = s → o = ⟨((s[0].toNat : Nat) : Int), sub s p (p + m), x, y, s.drop q⟩ := fun o h1 h2 => by
            obtain ⟨f1, f2⟩ := same o h1 h2
            obtain ⟨f3, f4⟩ := good o h1 h2
            obtain ⟨r1, _⟩ := opOk_rng h1
            rw [f2, f1, hvs2] at f4
            simp at f4
            obtain ⟨⟨f5, f6⟩, f7⟩ := f4
            refine Op'.ext' ?_ ?_ f5.symm f6.symm ?_
            · have : s[0] = byteI o.kind := by simp [← h2, rawOp]
              rw [this, byteI_small (by omega)]
            · have e : s = (byteI o.kind :: var o.key.length) ++ (o.key ++ (var o.low ++ (var o.high ++ o.data))) := by rw [← h2, rawOp]; simp
              unfold sub
              rw [List.drop_take]
              have hd : s.drop p = o.key ++ (var o.low ++ (var o.high ++ o.data)) := by
                rw [e]; exact List.drop_left' (by simp; omega)
              have hpm2 : p + m - p = m := by omega
              rw [hd, hpm2, ← f1]
              exact (List.take_left' rfl).symm
            · have e : s = (byteI o.kind :: (var o.key.length ++ (o.key ++ (var o.low ++ var o.high)))) ++ o.data := by rw [← h2, rawOp]; simp
              have hd : s.drop q = o.data := by
                conv => lhs; rw [e]
                exact List.drop_left' (by simp; omega)
              rw [hd]
          simp [hs]
          refine pendB (fun c5 => ?_) (fun c5 => ?_)
          · simp at c5
            simp [c5]
            refine ⟨?_, gc_flat rfl u12⟩
            rw [fail fun o h1 h2 => ?_]
            · simp [Op'.none]
            · have e := uniq o h1 h2
              rw [← e, (showOp_ok h1).1] at c5
              exact c5 h2
          · simp at c5
            simp [c5]
            refine ⟨?_, gc_flat rfl u12⟩
            rw [readOp_iff.2 ⟨c5, fun h => by rw [h] at hp0; simp at hp0⟩]
            simp

theorem specReadAns_eq {s : List UInt8} (hs : Sm s) (H : Heap) : evF Tryz.prog TT 47 #[S s] H = some (.tuple #[ansV (readAns s).1, .bool (readAns s).2], H) := by
  refine Ret.eq ?_
  refine Ret.go rfl Tryz.func47 rfl (by decide) (by simp [Tryz.ntmps47]) (by kernel_rfl) loc47 Tryz.results47 Tryz.ntmps47 ?_
  have hs2 := hs.lt
  have fail : (∀ a, ansOk a = true → rawAns a = s → False) → readAns s = (.none, false) := fun h => by
    cases hq : (readAns s).2 with
    | false => exact readAns_false hq
    | true =>
      obtain ⟨h1, h2⟩ := readAns_iff.1 (show readAns s = ((readAns s).1, true) by rw [← hq])
      rw [← h1] at h2
      exact (h _ (showAns_ne h2) (by rw [← (showAns_ok (showAns_ne h2)).1, h1])).elim
  have good : ∀ a, ansOk a = true → rawAns a = s → varsAt s 0 3 = some ([a.code, a.index, a.mark], (var a.code).length + ((var a.index).length + (var a.mark).length)) := fun a h1 h2 => by
    obtain ⟨r1, r2, r3, r4⟩ := ansOk_rng h1
    have q1 := varsAt_here [a.code, a.index, a.mark] s [] a.data (by rw [← h2, rawAns]; simp) (by
      intro x hx
      simp only [List.mem_cons, List.not_mem_nil, or_false] at hx
      rcases hx with rfl | rfl | rfl
      · exact r1
      · exact r2
      · exact r3)
    simpa using q1
  simp
  refine mG_call (l13Vars_ret hs 0 3 (by decide) (by decide) H) ?_
  rintro _ K ⟨a1, n, k, rfl, u1, s1, hv1, hv2⟩
  simp
  refine pendP (fun c1 => ?_) (fun c1 => ?_)
  · simp [c1]
    refine ⟨?_, gc_flat rfl u1⟩
    rw [fail fun o h1 h2 => ?_]
    · simp [Ans.none]
    · have := (hv1 _ _ (good o h1 h2)).2
      omega
  · have hvs : ∃ p, varsAt s 0 3 = some (n, p) ∧ k = (p : Int) := by
      cases hq : varsAt s 0 3 with
      | none => have := hv2 hq; omega
      | some x =>
        obtain ⟨v', p⟩ := x
        obtain ⟨rfl, rfl⟩ := hv1 v' p hq
        exact ⟨p, rfl, rfl⟩
    obtain ⟨p, hvs, rfl⟩ := hvs
    obtain ⟨hnl, _, _⟩ := varsAt_len s 0 3 n p hvs
    obtain ⟨_, p2⟩ := varsAt_sub hvs (by decide)
    have hpos := varsAt_pos s 0 3 n p hvs
    obtain ⟨x, y, z, rfl⟩ : ∃ x y z, n = [x, y, z] := by
      match n, hnl with
      | [x, y, z], _ => exact ⟨x, y, z, rfl⟩
    have hx1 := indexAddr_Sl (P := Tryz.prog) s1 ti72
    have g0 := ld_int s1 (Pe.rfl' K) 0 (by simp)
    have g1 := ld_int s1 (Pe.rfl' K) 1 (by simp)
    have g2 := ld_int s1 (Pe.rfl' K) 2 (by simp)
    have e0 : gi [x, y, z] 0 = x := rfl
    have e1 : gi [x, y, z] 1 = y := rfl
    have e2 : gi [x, y, z] 2 = z := rfl
    rw [e0] at g0
    rw [e1] at g1
    rw [e2] at g2
    simp at hx1
    have uniq : ∀ a, ansOk a = true → rawAns a = s → a = ⟨x, y, z, s.drop p⟩ := fun a h1 h2 => by
      have f := good a h1 h2
      rw [hvs] at f
      simp at f
      obtain ⟨⟨f1, f2, f3⟩, f4⟩ := f
      refine Ans.ext' f1.symm f2.symm f3.symm ?_
      have e : s = (var a.code ++ (var a.index ++ var a.mark)) ++ a.data := by rw [← h2, rawAns]; simp
      have hd : s.drop p = a.data := by
        conv => lhs; rw [e]
        exact List.drop_left' (by simp; omega)
      rw [hd]
    simp (maxDischargeDepth := 10) [c1, hx1, g0, g1, g2, p2]
    refine ⟨by kernel_rfl, by kernel_rfl, ?_⟩
    refine pendB (fun c5 => ?_) (fun c5 => ?_)
    · simp at c5
      simp [c5]
      refine ⟨?_, gc_flat rfl u1⟩
      rw [fail fun a h1 h2 => ?_]
      · simp [Ans.none]
      · have e := uniq a h1 h2
        rw [← e, (showAns_ok h1).1] at c5
        exact c5 h2
    · simp at c5
      simp [c5]
      refine ⟨?_, gc_flat rfl u1⟩
      rw [readAns_iff.2 ⟨c5, fun h => by rw [h] at p2; simp at p2; omega⟩]
      simp
end Go.Abs

/-
  PLAIN LAWS: messages.
-/
namespace Go.Abs
open Go
set_option linter.unusedSimpArgs false

abbrev Entr := Int × List UInt8
structure Msg' where
  kind : Int
  src : Int
  dst : Int
  term : Int
  index : Int
  iterm : Int
  commit : Int
  yes : Bool
  ents : List Entr
  data : List UInt8
def Msg'.none : Msg' := ⟨0, 0, 0, 0, 0, 0, 0, false, [], []⟩

def termsOk : List Entr → Int → Int → Bool
  | [], _, _ => true
  | e :: r, low, high => decide (1 ≤ e.1) && decide (low ≤ e.1 ∧ e.1 ≤ high) && decide (e.2.length ≤ 900) && termsOk r e.1 high

def place (i t : Int) : Prop := (i = 0 ∧ t = 0) ∨ (1 ≤ i ∧ i ≤ 100000 ∧ 1 ≤ t ∧ t ≤ 100000)
instance (i t : Int) : Decidable (place i t) := by unfold place; infer_instance
def between (m : Msg') : Prop := 0 ≤ m.src ∧ m.src ≤ 4 ∧ 0 ≤ m.dst ∧ m.dst ≤ 4 ∧ m.src ≠ m.dst ∧ 1 ≤ m.term ∧ m.term ≤ 100000
instance (m : Msg') : Decidable (between m) := by unfold between; infer_instance
def msgOk (m : Msg') : Bool :=
  if m.kind = 1 then decide (between m ∧ place m.index m.iterm ∧ m.iterm ≤ m.term ∧ m.commit = 0 ∧ m.yes = false ∧ m.ents = [] ∧ m.data = [])
  else if m.kind = 2 then decide (between m ∧ m.index = 0 ∧ m.iterm = 0 ∧ m.commit = 0 ∧ m.ents = [] ∧ m.data = [])
  else if m.kind = 3 then decide (between m ∧ place m.index m.iterm ∧ m.iterm ≤ m.term ∧ 0 ≤ m.commit ∧ m.commit ≤ 100000 ∧ m.ents.length ≤ 4 ∧ termsOk m.ents m.iterm m.term = true ∧ m.index + m.ents.length ≤ 100000 ∧ m.yes = false ∧ m.data = [])
  else if m.kind = 4 then decide (between m ∧ 0 ≤ m.index ∧ m.index ≤ 100000 ∧ m.iterm = 0 ∧ m.commit = 0 ∧ m.ents = [] ∧ m.data = [])
  else if m.kind = 5 then decide (between m ∧ 1 ≤ m.index ∧ m.index ≤ 100000 ∧ 1 ≤ m.iterm ∧ m.iterm ≤ m.term ∧ m.data.length ≤ 30000 ∧ m.commit = 0 ∧ m.yes = false ∧ m.ents = [])
  else if m.kind = 6 then decide ((readOp m.data).2 = true ∧ 11 ≤ m.src ∧ m.src ≤ 14 ∧ 0 ≤ m.dst ∧ m.dst ≤ 4 ∧ 1 ≤ m.index ∧ m.index ≤ 1000000 ∧ m.term = 0 ∧ m.iterm = 0 ∧ m.commit = 0 ∧ m.yes = false ∧ m.ents = [])
  else if m.kind = 7 then decide ((readAns m.data).2 = true ∧ 0 ≤ m.src ∧ m.src ≤ 4 ∧ 11 ≤ m.dst ∧ m.dst ≤ 14 ∧ 1 ≤ m.index ∧ m.index ≤ 1000000 ∧ m.term = 0 ∧ m.iterm = 0 ∧ m.commit = 0 ∧ m.yes = false ∧ m.ents = [])
  else false

def yesI (b : Bool) : Int := if b = true then 1 else 0
def rawEnts (l : List Entr) : List UInt8 := (l.map fun e => var e.1 ++ (var e.2.length ++ e.2)).flatten
def heads (m : Msg') : List Int := [m.kind, m.src, m.dst, m.term, m.index, m.iterm, m.commit, yesI m.yes, m.ents.length]
def rawMsg (m : Msg') : List UInt8 := ((heads m).map var).flatten ++ (rawEnts m.ents ++ m.data)
def showMsg (m : Msg') : List UInt8 := if msgOk m = true then fixed (crc (rawMsg m)) 4 ++ rawMsg m else []

/-- Entries, off a reader. -/
def rents : Nat → List UInt8 → Bool → List Entr × List UInt8 × Bool
  | 0, s, ok => ([], s, ok)
  | n + 1, s, ok =>
    let a := rnum s ok
    let b := rpiece a.2.1 a.2.2
    let r := rents n b.2.1 b.2.2
    ((((a.1 : Nat) : Int), b.1) :: r.1, r.2)
def nth (l : List Nat) (i : Nat) : Nat := l[i]?.getD 0
/-- What a message begins with, off a reader: the numbers, what is left. -/
def rnums : Nat → List UInt8 → Bool → List Nat × List UInt8 × Bool
  | 0, s, ok => ([], s, ok)
  | n + 1, s, ok =>
    let a := rnum s ok
    let r := rnums n a.2.1 a.2.2
    (a.1 :: r.1, r.2)
def rmsg (s : List UInt8) : Msg' × Bool :=
  let a := rnums 8 (s.drop 4) true
  let c := rcount a.2.1 a.2.2 4
  let e := rents c.1 c.2.1 c.2.2
  (⟨nth a.1 0, nth a.1 1, nth a.1 2, nth a.1 3, nth a.1 4, nth a.1 5, nth a.1 6, decide (nth a.1 7 = 1), e.1, e.2.1⟩, e.2.2)
def readMsg (s : List UInt8) : Msg' × Bool := if 4 ≤ s.length ∧ (rmsg s).2 = true ∧ showMsg (rmsg s).1 = s then ((rmsg s).1, true) else (.none, false)

theorem termsOk_rng : ∀ (l : List Entr) (low high : Int), termsOk l low high = true → ∀ e ∈ l, 1 ≤ e.1 ∧ e.1 ≤ high ∧ e.2.length ≤ 900
  | [], _, _, _, e, he => by simp at he
  | x :: r, low, high, h, e, he => by
    unfold termsOk at h
    simp only [Bool.and_eq_true, decide_eq_true_iff] at h
    rcases List.mem_cons.1 he with rfl | he
    · omega
    · exact termsOk_rng r x.1 high h.2 e he
/-- What is right has its numbers in their bounds. -/
theorem msgOk_rng {m : Msg'} (h : msgOk m = true) : (∀ x ∈ heads m, 0 ≤ x ∧ x ≤ maxVar) ∧ m.ents.length ≤ 4 ∧ ∀ e ∈ m.ents, (0 ≤ e.1 ∧ e.1 ≤ maxVar) ∧ e.2.length ≤ 900 := by
  have hmv : maxVar = 562949953421311 := rfl
  have hy : 0 ≤ yesI m.yes ∧ yesI m.yes ≤ 1 := by
    unfold yesI
    split <;> omega
  have key : ∀ (k : 0 ≤ m.kind ∧ m.kind ≤ 7), (0 ≤ m.src ∧ m.src ≤ 14) → (0 ≤ m.dst ∧ m.dst ≤ 14) → (0 ≤ m.term ∧ m.term ≤ 100000) → (0 ≤ m.index ∧ m.index ≤ 1000000) → (0 ≤ m.iterm ∧ m.iterm ≤ 100000) → (0 ≤ m.commit ∧ m.commit ≤ 100000) → m.ents.length ≤ 4 →
      (∀ e ∈ m.ents, 1 ≤ e.1 ∧ e.1 ≤ 100000 ∧ e.2.length ≤ 900) → (∀ x ∈ heads m, 0 ≤ x ∧ x ≤ maxVar) ∧ m.ents.length ≤ 4 ∧ ∀ e ∈ m.ents, (0 ≤ e.1 ∧ e.1 ≤ maxVar) ∧ e.2.length ≤ 900 := by
    intro k1 k2 k3 k4 k5 k6 k7 k8 k9
    refine ⟨fun x hx => ?_, k8, fun e he => ?_⟩
    · unfold heads at hx
      simp only [List.mem_cons, List.not_mem_nil, or_false] at hx
      omega
    · have := k9 e he
      omega
  unfold msgOk at h
  split at h
  · obtain ⟨a, b, c, d, e, f, g⟩ := of_decide_eq_true h
    unfold between at a
    unfold place at b
    exact key (by omega) (by omega) (by omega) (by omega) (by omega) (by omega) (by omega) (by rw [f]; simp) (by rw [f]; simp)
  · split at h
    · obtain ⟨a, b, c, d, e, f⟩ := of_decide_eq_true h
      unfold between at a
      exact key (by omega) (by omega) (by omega) (by omega) (by omega) (by omega) (by omega) (by rw [e]; simp) (by rw [e]; simp)
    · split at h
      · obtain ⟨a, b, c, d, e, f, g, i, j, k⟩ := of_decide_eq_true h
        unfold between at a
        unfold place at b
        refine key (by omega) (by omega) (by omega) (by omega) (by omega) (by omega) (by omega) f fun x hx => ?_
        have := termsOk_rng _ _ _ g x hx
        omega
      · split at h
        · obtain ⟨a, b, c, d, e, f, g⟩ := of_decide_eq_true h
          unfold between at a
          exact key (by omega) (by omega) (by omega) (by omega) (by omega) (by omega) (by omega) (by rw [f]; simp) (by rw [f]; simp)
        · split at h
          · obtain ⟨a, b, c, d, e, f, g, i, j⟩ := of_decide_eq_true h
            unfold between at a
            exact key (by omega) (by omega) (by omega) (by omega) (by omega) (by omega) (by omega) (by rw [j]; simp) (by rw [j]; simp)
          · split at h
            · obtain ⟨a, b, c, d, e, f, g, i, j, k, l, n⟩ := of_decide_eq_true h
              exact key (by omega) (by omega) (by omega) (by omega) (by omega) (by omega) (by omega) (by rw [n]; simp) (by rw [n]; simp)
            · split at h
              · obtain ⟨a, b, c, d, e, f, g, i, j, k, l, n⟩ := of_decide_eq_true h
                exact key (by omega) (by omega) (by omega) (by omega) (by omega) (by omega) (by omega) (by rw [n]; simp) (by rw [n]; simp)
              · cases h

theorem rnums_show : ∀ (ns : List Int) (r : List UInt8), (∀ x ∈ ns, 0 ≤ x ∧ x ≤ maxVar) → rnums ns.length ((ns.map var).flatten ++ r) true = (ns.map Int.toNat, r, true)
  | [], r, _ => rfl
  | x :: ns, r, h => by
    have hx := h x (by simp)
    have ih := rnums_show ns r fun y hy => h y (by simp [hy])
    rw [List.length_cons, rnums]
    simp only [List.map_cons, List.flatten_cons, List.append_assoc, rnum_var hx, ih]
theorem rents_show : ∀ (l : List Entr) (r : List UInt8), (∀ e ∈ l, (0 ≤ e.1 ∧ e.1 ≤ maxVar) ∧ e.2.length ≤ 900) → rents l.length (rawEnts l ++ r) true = (l, r, true)
  | [], r, _ => rfl
  | x :: l, r, h => by
    obtain ⟨h1, h2⟩ := h x (by simp)
    have ih := rents_show l r fun y hy => h y (by simp [hy])
    have hp : (x.2.length : Int) ≤ maxVar := by unfold maxVar; omega
    have e : rawEnts (x :: l) ++ r = var x.1 ++ (var x.2.length ++ (x.2 ++ (rawEnts l ++ r))) := by simp [rawEnts]
    rw [List.length_cons, rents, e]
    simp only [rnum_var h1, rpiece_app hp, ih]
    have e1 : ((x.1.toNat : Nat) : Int) = x.1 := by omega
    rw [e1]
theorem fixed4_len {n : Nat} (h : n < 256 ^ 4) : (fixed n 4).length = 4 := by rw [be_fixed4 h, be_length]
theorem crc_lt4 (s : List UInt8) : crc s < 256 ^ 4 := by
  have : crc s ≤ 4294967295 := by unfold crc; omega
  omega
theorem rmsg_show {m : Msg'} (h : msgOk m = true) : rmsg (fixed (crc (rawMsg m)) 4 ++ rawMsg m) = (m, true) := by
  obtain ⟨h1, h2, h3⟩ := msgOk_rng h
  have hd : (fixed (crc (rawMsg m)) 4 ++ rawMsg m).drop 4 = rawMsg m := List.drop_left' (fixed4_len (crc_lt4 _))
  have e : rawMsg m = (([m.kind, m.src, m.dst, m.term, m.index, m.iterm, m.commit, yesI m.yes].map var).flatten) ++ (var m.ents.length ++ (rawEnts m.ents ++ m.data)) := by
    simp [rawMsg, heads]
  have q1 := rnums_show [m.kind, m.src, m.dst, m.term, m.index, m.iterm, m.commit, yesI m.yes] (var m.ents.length ++ (rawEnts m.ents ++ m.data)) (fun x hx => h1 x (by
    unfold heads
    simp only [List.mem_cons, List.not_mem_nil, or_false] at hx ⊢
    omega))
  have hv : (0 : Int) ≤ m.ents.length ∧ (m.ents.length : Int) ≤ maxVar := by unfold maxVar; omega
  have q2 : rcount (var m.ents.length ++ (rawEnts m.ents ++ m.data)) true 4 = (m.ents.length, rawEnts m.ents ++ m.data, true) := by
    unfold rcount
    rw [rnum_var hv, if_pos ⟨rfl, by simp; omega⟩]
    simp
  have q3 := rents_show m.ents m.data h3
  rw [← e] at q1
  unfold rmsg
  rw [hd]
  simp only [List.length_cons, List.length_nil, Nat.zero_add, Nat.reduceAdd] at q1
  rw [q1]
  simp only [q2, q3]
  have hh := h1
  unfold heads at hh
  have e1 := hh m.kind (by simp)
  have e2 := hh m.src (by simp)
  have e3 := hh m.dst (by simp)
  have e4 := hh m.term (by simp)
  have e5 := hh m.index (by simp)
  have e6 := hh m.iterm (by simp)
  have e7 := hh m.commit (by simp)
  have e8 : decide ((yesI m.yes).toNat = 1) = m.yes := by
    unfold yesI
    cases m.yes <;> rfl
  cases m
  simp [nth] at *
  refine ⟨by omega, by omega, by omega, by omega, by omega, by omega, by omega, e8⟩
theorem showMsg_ok {m : Msg'} (h : msgOk m = true) : showMsg m = fixed (crc (rawMsg m)) 4 ++ rawMsg m ∧ 4 ≤ (showMsg m).length := by
  have e : showMsg m = fixed (crc (rawMsg m)) 4 ++ rawMsg m := if_pos h
  refine ⟨e, ?_⟩
  rw [e, List.length_append, fixed4_len (crc_lt4 _)]
  omega
theorem readMsg_show {m : Msg'} (h : msgOk m = true) : readMsg (showMsg m) = (m, true) := by
  obtain ⟨h1, h2⟩ := showMsg_ok h
  have h3 := rmsg_show h
  rw [← h1] at h3
  unfold readMsg
  rw [h3, if_pos ⟨h2, rfl, rfl⟩]
theorem showMsg_ne {m : Msg'} (h : showMsg m ≠ []) : msgOk m = true := by
  unfold showMsg at h
  split at h
  · assumption
  · exact absurd rfl h
theorem readMsg_true {s : List UInt8} {m : Msg'} (h : readMsg s = (m, true)) : showMsg m = s ∧ msgOk m = true ∧ m = (rmsg s).1 := by
  unfold readMsg at h
  split at h
  · rename_i hc
    simp only [Prod.mk.injEq, and_true] at h
    subst h
    refine ⟨hc.2.2, showMsg_ne fun hh => ?_, rfl⟩
    have := hc.1
    rw [← hc.2.2, hh] at this
    simp at this
  · cases h
theorem readMsg_nil : (readMsg []).2 = false := by
  unfold readMsg
  rw [if_neg (by simp)]
theorem readMsg_false {s : List UInt8} (h : (readMsg s).2 = false) : readMsg s = (.none, false) := by
  unfold readMsg at h ⊢
  split at h
  · cases h
  · rename_i hc; rw [if_neg hc]
end Go.Abs

/-
  CONTRACTS: entries, and messages right or not.
-/
namespace Go.Abs
open Go Go.Proofs
set_option linter.unusedSimpArgs false
attribute [local simp] fieldAddr build fillL

def encEntry (x : Entr) : List Value := [.int .i64 x.1, S x.2]
@[simp] theorem encEntry_len (x : Entr) : (encEntry x).length = 2 := rfl

theorem termsOk_eq {H : Heap} {a : Option Addr} {l : List (Entr)} (hl : Sl 2 encEntry H a l) (low high : Int) :
    evF Tryz.prog TT 86 #[.slice a l.length 0, .int .i64 low, .int .i64 high] H = some (.bool (termsOk l low high), H) := by
  refine Ret.eq ?_
  refine Ret.go rfl Tryz.func86 rfl (by decide) (by simp [Tryz.ntmps86]) (by kernel_rfl) loc86 Tryz.results86 Tryz.ntmps86 ?_
  simp
  refine mC_loop (fun j s => ∃ (e : Nat → Value) (loc : Nat → List Value) (g i : Nat) (lo : Int), s = ⟨e, loc, g, H, 35⟩ ∧ j + i = l.length ∧ e 9 = .slice a l.length 0 ∧ e 10 = .int .i64 l.length ∧ e 11 = .int .i64 i ∧
    e 1 = .int .i64 lo ∧ e 2 = .int .i64 high ∧ termsOk l low high = termsOk (l.drop i) lo high) ?_ (j := l.length) ⟨_, _, _, 0, low, rfl, rfl, by simp, by simp, by simp, by simp, by simp, by simp⟩
  rintro j s ⟨e, loc, g, i, lo, rfl, hj, h9, h10, h11, h1, h2, ht⟩
  simp [h9, h10, h11, h1, h2]
  refine pendP (fun h => ?_) (fun h => ?_)
  · have hx := indexAddr_Sl (P := Tryz.prog) hl ti40
    have hd := fun K p => hl.ld (K := K) p (by decide) i
    simp [h9, h10, h11, h1, h2, hx, h, hd, encEntry, from_eq]
    have hs : l.drop i = l[i] :: l.drop (i + 1) := List.drop_eq_getElem_cons h
    rw [hs] at ht
    have hw := wrap_nat (k := i) (by have := hl.1; omega)
    refine pendP (fun c1 => ?_) (fun c1 => ?_)
    · simp [h9, h10, h11, h1, h2, hw, ht, from_eq, termsOk, c1]; intros; omega
    · simp [h9, h10, h11, h1, h2, hw, ht, from_eq, termsOk, c1]
      refine pendB (fun c2 => ?_) (fun c2 => ?_)
      · simp [h9, h10, h11, h1, h2, hw, ht, from_eq, termsOk, c1, c2]; simp at c2; intros; omega
      · simp [h9, h10, h11, h1, h2, hw, ht, from_eq, termsOk, c1, c2]
        refine pendP (fun c3 => ?_) (fun c3 => ?_)
        · simp [h9, h10, h11, h1, h2, hw, ht, from_eq, termsOk, c1, c2, c3]; intros; omega
        · simp [h9, h10, h11, h1, h2, hw, ht, from_eq, termsOk, c1, c2, c3]
          exact again_intro (j - 1) (by omega) ⟨_, _, _, i + 1, l[i].1, rfl, by omega, by simp [h9, h10, h11, h1, h2, hw, ht, from_eq, termsOk], by simp [h9, h10, h11, h1, h2, hw, ht, from_eq, termsOk], by simp, by simp, by simp [h9, h10, h11, h1, h2, hw, ht, from_eq, termsOk], by simp at c2; simp [h9, h10, h11, h1, h2, hw, ht, from_eq, termsOk]; intros; omega⟩
  · have : l.drop i = [] := List.drop_eq_nil_of_le (by omega)
    rw [this] at ht
    simp [ht, termsOk]

theorem termsOk_max (l : List Entr) (low high : Int) : termsOk l (if low < 1 then 1 else low) high = termsOk l low high := by
  cases l with
  | nil => rfl
  | cons x r =>
    by_cases h : low < 1
    · rw [if_pos h, termsOk, termsOk]
      congr 2
      rw [Bool.eq_iff_iff]
      simp
      omega
    · rw [if_neg h]
theorem run_eq {H : Heap} {a : Option Addr} {l : List Entr} (hl : Sl 2 encEntry H a l) (low high : Int) :
    evF Tryz.prog TT 45 #[.slice a l.length 0, .int .i64 low, .int .i64 high] H = some (.bool (termsOk l low high), H) := by
  refine Ret.eq ?_
  refine Ret.go rfl Tryz.func45 rfl (by decide) (by simp [Tryz.ntmps45]) (by kernel_rfl) loc45 Tryz.results45 Tryz.ntmps45 ?_
  have hlen := hl.1
  simp
  refine pendP (fun c => ?_) (fun c => ?_)
  all_goals
    simp [c]
    refine mC_loop (fun j s => ∃ (e : Nat → Value) (loc : Nat → List Value) (g i : Nat) (lo : Int), s = ⟨e, loc, g, H, 39⟩ ∧ j + i = l.length ∧ e 0 = .slice a l.length 0 ∧ e 7 = .int .i64 i ∧
      e 1 = .int .i64 lo ∧ e 2 = .int .i64 high ∧ 1 ≤ lo ∧ termsOk l low high = termsOk (l.drop i) lo high) ?_ (j := l.length) ⟨_, _, _, 0, if low < 1 then 1 else low, rfl, rfl, by simp, by simp, by simp [c], by simp, by split <;> omega, by simp [termsOk_max]⟩
    rintro j s ⟨e, loc, g, i, lo, rfl, hj, h0, h7, h1, h2, hlo, ht⟩
    simp [h0, h7, h1, h2]
    refine pendP (fun h => ?_) (fun h => ?_)
    · have hx := indexAddr_Sl (P := Tryz.prog) hl ti40
      have hd := fun K p => hl.ld (K := K) p (by decide) i
      have hs : l.drop i = l[i] :: l.drop (i + 1) := List.drop_eq_getElem_cons h
      rw [hs] at ht
      have hw : IntKind.i64.wrap ((i : Int) + 1) = (i : Int) + 1 := by rw [wrap_i64 (by omega) (by omega)]
      have ha := fun o o' => hl.at_ i o o' h
      simp [h0, h7, h1, h2, h, hx, hd, hw, encEntry, l1In_eq, ha]
      refine pendB (fun c1 => ?_) (fun c1 => ?_)
      · simp [h0, h7, h1, h2, h, hx, hd, hw, encEntry, l1In_eq, ha, c1]
        rw [ht, termsOk]
        simp at c1
        simp; intros; omega
      · simp [h0, h7, h1, h2, h, hx, hd, hw, encEntry, l1In_eq, ha, c1]
        simp at c1
        refine pendP (fun c2 => ?_) (fun c2 => ?_)
        · simp [h0, h7, h1, h2, h, hx, hd, hw, encEntry, l1In_eq, ha, c1, c2]
          rw [ht, termsOk]
          simp; intros; omega
        · simp [h0, h7, h1, h2, h, hx, hd, hw, encEntry, l1In_eq, ha, c1, c2]
          refine again_intro (j - 1) (by omega) ⟨_, _, _, i + 1, l[i].1, rfl, by omega, by simp [h0, h7, h1, h2, h, hx, hd, hw, encEntry, l1In_eq, ha], by simp, by simp [h0, h7, h1, h2, h, hx, hd, hw, encEntry, l1In_eq, ha], by simp [h0, h7, h1, h2, h, hx, hd, hw, encEntry, l1In_eq, ha], by omega, ?_⟩
          rw [ht, termsOk, Bool.eq_iff_iff]
          simp; intros; omega
    · have : l.drop i = [] := List.drop_eq_nil_of_le (by omega)
      rw [this] at ht
      simp [ht, termsOk]
end Go.Abs

/-
  CONTRACTS: messages right or not.
-/
namespace Go.Abs
open Go Go.Proofs
set_option linter.unusedSimpArgs false
attribute [local simp] fieldAddr build fillL

@[simp] theorem yes_eq (b : Bool) (H : Heap) : evF Tryz.prog TT 61 #[.bool b] H = some (.int .i64 (yesI b), H) := by
  refine Ret.eq ?_
  refine Ret.go rfl Tryz.func61 rfl (by decide) (by simp [Tryz.ntmps61]) (by kernel_rfl) loc61 Tryz.results61 Tryz.ntmps61 ?_
  simp
  cases b <;> simp [yesI]
@[simp] theorem pieced_eq {s : List UInt8} (hs : Sm s) (H : Heap) : evF Tryz.prog TT 39 #[S s] H = some (S (var s.length ++ s), H) := by
  refine Ret.eq ?_
  refine Ret.go rfl Tryz.func39 rfl (by decide) (by simp [Tryz.ntmps39]) (by kernel_rfl) loc39 Tryz.results39 Tryz.ntmps39 ?_
  simp
  have := var_len s.length
  have : s.length < 2 ^ 61 := hs
  omega

theorem sameEnts_eq {H : Heap} {a b : Option Addr} {l m : List Entr} (hl : Sl 2 encEntry H a l) (hm : Sl 2 encEntry H b m) :
    evF Tryz.prog TT 76 #[.slice a l.length 0, .slice b m.length 0] H = some (.bool (decide (l = m)), H) := by
  refine Ret.eq ?_
  refine Ret.go rfl Tryz.func76 rfl (by decide) (by simp [Tryz.ntmps76]) (by kernel_rfl) loc76 Tryz.results76 Tryz.ntmps76 ?_
  have hlen := hl.1
  have hlem := hm.1
  simp
  refine pendB (fun c => ?_) (fun c => ?_)
  · have : l ≠ m := fun h => by subst h; simp at c
    simp [c, this]
  · simp at c
    simp [c]
    refine mC_loop (fun j s => ∃ (e : Nat → Value) (loc : Nat → List Value) (g i : Nat), s = ⟨e, loc, g, H, 26⟩ ∧ j + i = l.length ∧ e 0 = .slice a l.length 0 ∧ e 1 = .slice b m.length 0 ∧ e 5 = .int .i64 i ∧
      l.take i = m.take i) ?_ (j := l.length) ⟨_, _, _, 0, rfl, rfl, by simp, by simp [c], by simp, by simp⟩
    rintro j s ⟨e, loc, g, i, rfl, hj, h0, h1, h5, ht⟩
    simp [h0, h1, h5]
    refine pendP (fun h => ?_) (fun h => ?_)
    · have hx := indexAddr_Sl (P := Tryz.prog) hl ti40
      have hy := indexAddr_Sl (P := Tryz.prog) hm ti40
      have h' : i < m.length := by omega
      have hd := fun K p => hl.ld (K := K) p (by decide) i
      have hd' := fun K p => hm.ld (K := K) p (by decide) i
      have hw : IntKind.i64.wrap ((i : Int) + 1) = (i : Int) + 1 := by rw [wrap_i64 (by omega) (by omega)]
      have hl1 := List.take_succ_eq_append_getElem h
      have hm1 := List.take_succ_eq_append_getElem h'
      simp [h0, h1, h5, h, h', hx, hy, hd, hd', hw, encEntry]
      refine pendB (fun d => ?_) (fun d => ?_)
      · have : l ≠ m := fun hh => by subst hh; simp at d
        simp [h0, h1, h5, h, h', hx, hy, hd, hd', hw, encEntry, d, this]
      · simp [h0, h1, h5, h, h', hx, hy, hd, hd', hw, encEntry, d]
        simp at d
        refine again_intro (j - 1) (by omega) ⟨_, _, _, i + 1, rfl, by omega, by simp [h0, h1, h5, h, h', hx, hy, hd, hd', hw, encEntry], by simp [h0, h1, h5, h, h', hx, hy, hd, hd', hw, encEntry], by simp [h0, h1, h5, h, h', hx, hy, hd, hd', hw, encEntry], ?_⟩
        rw [hl1, hm1, ht]
        exact congrArg (m.take i ++ [·]) (Prod.ext d.1 d.2)
    · have e1 : l.take i = l := List.take_of_length_le (by omega)
      have e2 : m.take i = m := List.take_of_length_le (by omega)
      rw [e1, e2] at ht
      simp [ht]
theorem sameEntries_eq {H : Heap} {a b : Option Addr} {l m : List Entr} (hl : Sl 2 encEntry H a l) (hm : Sl 2 encEntry H b m) :
    evF Tryz.prog TT 17 #[.slice a l.length 0, .slice b m.length 0] H = some (.bool (decide (l = m)), H) := by
  refine Ret.eq ?_
  refine Ret.go rfl Tryz.func17 rfl (by decide) (by simp [Tryz.ntmps17]) (by kernel_rfl) loc17 Tryz.results17 Tryz.ntmps17 ?_
  have hlen := hl.1
  have hlem := hm.1
  simp
  refine pendB (fun c => ?_) (fun c => ?_)
  · have : l ≠ m := fun h => by subst h; simp at c
    simp [c, this]
  · simp at c
    simp [c]
    refine mC_loop (fun j s => ∃ (e : Nat → Value) (loc : Nat → List Value) (g i : Nat), s = ⟨e, loc, g, H, 26⟩ ∧ j + i = l.length ∧ e 0 = .slice a l.length 0 ∧ e 1 = .slice b m.length 0 ∧ e 5 = .int .i64 i ∧
      l.take i = m.take i) ?_ (j := l.length) ⟨_, _, _, 0, rfl, rfl, by simp, by simp [c], by simp, by simp⟩
    rintro j s ⟨e, loc, g, i, rfl, hj, h0, h1, h5, ht⟩
    simp [h0, h1, h5]
    refine pendP (fun h => ?_) (fun h => ?_)
    · have hx := indexAddr_Sl (P := Tryz.prog) hl ti40
      have hy := indexAddr_Sl (P := Tryz.prog) hm ti40
      have h' : i < m.length := by omega
      have hd := fun K p => hl.ld (K := K) p (by decide) i
      have hd' := fun K p => hm.ld (K := K) p (by decide) i
      have hw : IntKind.i64.wrap ((i : Int) + 1) = (i : Int) + 1 := by rw [wrap_i64 (by omega) (by omega)]
      have hl1 := List.take_succ_eq_append_getElem h
      have hm1 := List.take_succ_eq_append_getElem h'
      simp [h0, h1, h5, h, h', hx, hy, hd, hd', hw, encEntry]
      refine pendB (fun d => ?_) (fun d => ?_)
      · have : l ≠ m := fun hh => by subst hh; simp at d
        simp [h0, h1, h5, h, h', hx, hy, hd, hd', hw, encEntry, d, this]
      · simp [h0, h1, h5, h, h', hx, hy, hd, hd', hw, encEntry, d]
        simp at d
        refine again_intro (j - 1) (by omega) ⟨_, _, _, i + 1, rfl, by omega, by simp [h0, h1, h5, h, h', hx, hy, hd, hd', hw, encEntry], by simp [h0, h1, h5, h, h', hx, hy, hd, hd', hw, encEntry], by simp [h0, h1, h5, h, h', hx, hy, hd, hd', hw, encEntry], ?_⟩
        rw [hl1, hm1, ht]
        exact congrArg (m.take i ++ [·]) (Prod.ext d.1 d.2)
    · have e1 : l.take i = l := List.take_of_length_le (by omega)
      have e2 : m.take i = m := List.take_of_length_le (by omega)
      rw [e1, e2] at ht
      simp [ht]

@[simp] theorem bare_eq (k1 s1 d1 t1 i1 j1 c1 : Int) (y1 : Bool) (a1 : Option Addr) (n1 : Nat) (x1 : List UInt8) (k2 s2 d2 t2 i2 j2 c2 : Int) (y2 : Bool) (a2 : Option Addr) (n2 : Nat) (x2 : List UInt8) (H : Heap) :
    evF Tryz.prog TT 69 #[.agg #[.int .i64 k1, .int .i64 s1, .int .i64 d1, .int .i64 t1, .int .i64 i1, .int .i64 j1, .int .i64 c1, .bool y1, .slice a1 n1 0, S x1], .agg #[.int .i64 k2, .int .i64 s2, .int .i64 d2, .int .i64 t2, .int .i64 i2, .int .i64 j2, .int .i64 c2, .bool y2, .slice a2 n2 0, S x2]] H =
      some (.bool (decide (t1 = t2 ∧ i1 = i2 ∧ j1 = j2 ∧ c1 = c2 ∧ y1 = y2 ∧ n1 = n2 ∧ x1 = x2)), H) := by
  refine Ret.eq ?_
  refine Ret.go rfl Tryz.func69 rfl (by decide) (by simp [Tryz.ntmps69]) (by kernel_rfl) loc69 Tryz.results69 Tryz.ntmps69 ?_
  simp
  repeat' (refine pendP (fun h => ?_) (fun h => ?_) <;> simp [h])
  all_goals simp_all [Int.ofNat_inj]
@[simp] theorem l15Same_head (k1 s1 d1 t1 i1 j1 c1 : Int) (y1 : Bool) (x1 : List UInt8) (k2 s2 d2 t2 i2 j2 c2 : Int) (y2 : Bool) (x2 : List UInt8) {H : Heap}
    {a b : Option Addr} {l m : List Entr} (hl : Sl 2 encEntry H a l) (hm : Sl 2 encEntry H b m) :
    evF Tryz.prog TT 48 #[.agg #[.int .i64 k1, .int .i64 s1, .int .i64 d1, .int .i64 t1, .int .i64 i1, .int .i64 j1, .int .i64 c1, .bool y1, .slice a l.length 0, S x1], .agg #[.int .i64 k2, .int .i64 s2, .int .i64 d2, .int .i64 t2, .int .i64 i2, .int .i64 j2, .int .i64 c2, .bool y2, .slice b m.length 0, S x2]] H =
      some (.bool (decide (k1 = k2 ∧ s1 = s2 ∧ d1 = d2 ∧ t1 = t2 ∧ i1 = i2 ∧ j1 = j2 ∧ c1 = c2 ∧ y1 = y2 ∧ x1 = x2 ∧ l = m)), H) := by
  refine Ret.eq ?_
  refine Ret.go rfl Tryz.func48 rfl (by decide) (by simp [Tryz.ntmps48]) (by kernel_rfl) loc48 Tryz.results48 Tryz.ntmps48 ?_
  have hq := sameEnts_eq hl hm
  simp
  repeat' (refine pendB (fun h => ?_) (fun h => ?_) <;> simp at h <;> simp [h, hq])
  all_goals refine bool_eq ?_
  all_goals simp_all
theorem isPlace_eq' (n t : Int) (H : Heap) : evF Tryz.prog TT 68 #[.int .i64 n, .int .i64 t] H = some (.bool (decide (place n t)), H) := isPlace_eq n t H
theorem specBased_eq' (n t : Int) (H : Heap) : evF Tryz.prog TT 44 #[.int .i64 n, .int .i64 t] H = some (.bool (decide (place n t)), H) := specBased_eq n t H
theorem appOk_eq (k s d t i j c : Int) (y : Bool) (x : List UInt8) {H : Heap} {a : Option Addr} {l : List Entr} (hl : Sl 2 encEntry H a l) :
    evF Tryz.prog TT 70 #[.agg #[.int .i64 k, .int .i64 s, .int .i64 d, .int .i64 t, .int .i64 i, .int .i64 j, .int .i64 c, .bool y, .slice a l.length 0, S x]] H =
      some (.bool (decide (place i j ∧ j ≤ t ∧ 0 ≤ c ∧ c ≤ 100000 ∧ l.length ≤ 4 ∧ termsOk l j t = true ∧ i + l.length ≤ 100000)), H) := by
  refine Ret.eq ?_
  refine Ret.go rfl Tryz.func70 rfl (by decide) (by simp [Tryz.ntmps70]) (by kernel_rfl) loc70 Tryz.results70 Tryz.ntmps70 ?_
  have hq := termsOk_eq hl j t
  have hw : place i j → l.length ≤ 4 → IntKind.i64.wrap (i + l.length) = i + l.length := fun h h' => by unfold place at h; rw [wrap_i64 (by omega) (by omega)]
  simp [-isPlace_eq, isPlace_eq']
  repeat' (first | (refine pendP (fun h => ?_) (fun h => ?_) <;> simp [h, hq]) | (refine pendB (fun h => ?_) (fun h => ?_) <;> simp [h, hq]))
  · rename_i p1 p2 p3 p4
    simp at p3
    have p4' : l.length ≤ 4 := by omega
    rw [hw p1 p4']
    simp [p1, p2, p3, p4', h]
  · intros; omega
  · simp at h; intros; omega
end Go.Abs

