/-
  CONTRACTS of the functions that the law reaches, group Kb.
-/
import Derived.Test.YtifiajbjfoigcaaGreatKa
/-
  CONTRACTS: times and values, shown.
-/
namespace Go.Abs
open Go Go.Proofs
set_option linter.unusedSimpArgs false
attribute [local simp] fieldAddr

theorem wrapN (k : Nat) (h : k < 2 ^ 62) : IntKind.i64.wrap (k : Int) = k := wrap_i64 (by omega) (by omega)
theorem getD_gi {l : List Int} {i : Nat} (h : i < l.length) : l[i] = gi l i := (gi_get h).symm
theorem tokN_false {l : List Int} {i : Nat} (h : tok1 l i = false) (hi : i < l.length) : showTimes l = [] := by
  unfold showTimes
  rw [if_neg]
  intro hc
  rw [tokN_at l hc.1 hi] at h
  cases h
theorem vokN_false {l : List Int} {i : Nat} (h : vok1 l i = false) (hi : i < l.length) : showValues l = [] := by
  unfold showValues
  rw [if_neg]
  intro hc
  rw [vokN_at l hc.1 hi] at h
  cases h

set_option maxHeartbeats 400000 in
theorem showTimes_eq {H : Heap} {a : Option Addr} {l : List Int} (hl : Sl 1 encI H a l) : evF Tryz.prog TT 97 #[.slice a l.length 0] H = some (S (showTimes l), H) := by
  refine Ret.eq ?_
  refine Ret.go rfl Tryz.func97 rfl (by decide) (by simp [Tryz.ntmps97]) (by kernel_rfl) loc97 Tryz.results97 Tryz.ntmps97 ?_
  simp
  have hx := indexAddr_Sl (P := Tryz.prog) hl ti72
  have hlen := hl.1
  refine mC_loop (fun j st => ∃ (e : Nat → Value) (loc : Nat → List Value) (g i : Nat), st = ⟨e, loc, g, H, 74⟩ ∧ e 0 = .slice a l.length 0 ∧ e 6 = .slice a l.length 0 ∧ e 7 = .int .i64 l.length ∧ e 8 = .int .i64 i ∧ e 3 = S (traw l i) ∧ tokN l i = true ∧ i + j = l.length) ?_ (j := l.length)
    ⟨_, _, _, 0, rfl, by simp, by simp, by simp, by simp, by simp [traw], rfl, by simp⟩
  rintro j st ⟨e, loc, g, i, rfl, h0, h6, h7, h8, h3, ht, hj⟩
  simp [h0, h6, h7, h8, h3, hx]
  refine pendP (fun c1 => ?_) (fun c1 => ?_)
  · have hd : ∀ k, k < l.length → ∀ (e : Nat → Value) (loc : Nat → List Value) (g n : Nat), (St.mk e loc g H n).cellsAt (el a 1 k 0) 1 = some [.int .i64 (gi l k)] := fun k hk e loc g n => by
      rw [hl.ld (Pe_refl H ▸ trivial) (by decide) k 0 1 hk (by decide)]
      simp [encI, gi_get hk]
    have hdi := hd i c1
    have hi1 := wrap_nat (k := i) (by omega)
    have hrl := traw_len l i
    have hpl := tpiece_len l i
    by_cases hr : 0 ≤ gi l i ∧ gi l i ≤ maxTime
    · have hr2 : 0 ≤ gi l i ∧ gi l i ≤ 1099511627776 := hr
      by_cases hi0 : i = 0
      · subst hi0
        have hvl := var_len (gi l 0)
        have hok : tok1 l 0 = true := (tok1_iff l 0).2 ⟨hr, fun h => by omega⟩
        simp [h0, h6, h7, h8, h3, hx, c1, hdi, hr2, hi1, traw]
        repeat refine ⟨by omega, ?_⟩
        exact again_intro (j - 1) (by omega) ⟨_, _, _, 1, rfl, by simp [h0], by simp [h6], by simp [h7], by simp, by simp [traw, tpiece], by rw [tokN, hok]; rfl, by omega⟩
      · have hi0' : 0 < i := by omega
        have w1 : IntKind.i64.wrap ((i : Int) - 1) = ((i - 1 : Nat) : Int) := by rw [wrap_i64 (by omega) (by omega)]; omega
        have hd1 := hd (i - 1) (by omega)
        have c0 : (0 : Int) ≤ ((i - 1 : Nat) : Int) := by omega
        have c2 : ((i - 1 : Nat) : Int) < l.length := by omega
        by_cases hlt : gi l (i - 1) < gi l i
        · have hok : tok1 l i = true := (tok1_iff l i).2 ⟨hr, fun _ => hlt⟩
          have hlt' : ¬ gi l i ≤ gi l (i - 1) := by omega
          have hp1 := (tok1_iff l (i - 1)).1 (tokN_at l ht (by omega))
          have hmx : maxTime = 1099511627776 := rfl
          by_cases hi1' : i = 1
          · subst hi1'
            have hd0 := hd 0 (by omega)
            have hvl := var_len (gi l 1 - gi l 0)
            have ep : tpiece l 1 = var (gi l 1 - gi l 0) := by rw [tpiece, if_neg (by decide), if_pos rfl]
            have hp1 : 0 ≤ gi l 0 ∧ gi l 0 ≤ maxTime := hp1.1
            have hlt' : ¬ gi l 1 ≤ gi l 0 := hlt'
            have w2 : IntKind.i64.wrap (gi l 1 - gi l 0) = gi l 1 - gi l 0 := wrap_i64 (by omega) (by omega)
            simp [h0, h6, h7, h8, h3, hx, c1, hdi, hd0, hr2, hlt', w2, show 0 < l.length by omega]
            repeat refine ⟨by omega, ?_⟩
            exact again_intro (j - 1) (by omega) ⟨_, _, _, 2, rfl, by simp [h0], by simp [h6], by simp [h7], by simp, by simp [traw, ep], by rw [tokN, hok, ht]; rfl, by omega⟩
          · have hp2 := (tok1_iff l (i - 2)).1 (tokN_at l ht (by omega))
            have hd2 := hd (i - 2) (by omega)
            have w3 : IntKind.i64.wrap ((i : Int) - 2) = ((i - 2 : Nat) : Int) := by rw [wrap_i64 (by omega) (by omega)]; omega
            have hvl := zig_len (gi l i - gi l (i - 1) - (gi l (i - 1) - gi l (i - 2)))
            have ep : tpiece l i = zig (gi l i - gi l (i - 1) - (gi l (i - 1) - gi l (i - 2))) := by rw [tpiece, if_neg hi0, if_neg hi1']
            have w4 : IntKind.i64.wrap (gi l i - gi l (i - 1)) = gi l i - gi l (i - 1) := wrap_i64 (by omega) (by omega)
            have w5 : IntKind.i64.wrap (gi l (i - 1) - gi l (i - 2)) = gi l (i - 1) - gi l (i - 2) := wrap_i64 (by omega) (by omega)
            have w6 : IntKind.i64.wrap (gi l i - gi l (i - 1) - (gi l (i - 1) - gi l (i - 2))) = gi l i - gi l (i - 1) - (gi l (i - 1) - gi l (i - 2)) := wrap_i64 (by omega) (by omega)
            have hi1c : ¬ (i : Int) = 1 := by omega
            simp [h0, h6, h7, h8, h3, hx, c1, hdi, hd1, hd2, hr2, hi0', hi0, hi1', hi1c, hlt', w1, w3, w4, w5, w6, hi1, show i - 1 < l.length by omega, show i - 2 < l.length by omega]
            repeat refine ⟨by omega, ?_⟩
            exact again_intro (j - 1) (by omega) ⟨_, _, _, i + 1, rfl, by simp [h0], by simp [h6], by simp [h7], by simp, by simp [traw, ep], by rw [tokN, hok, ht]; rfl, by omega⟩
        · have hok : tok1 l i = false := by rw [← Bool.not_eq_true, tok1_iff]; exact fun hh => hlt (hh.2 hi0')
          have hlt' : gi l i ≤ gi l (i - 1) := by omega
          have hn := tokN_false hok c1
          simp [h0, h6, h7, h8, h3, hx, c1, hdi, hd1, hr2, hi0', hlt', w1, hn, show i - 1 < l.length by omega]
    · have hok : tok1 l i = false := by rw [← Bool.not_eq_true, tok1_iff]; exact fun hh => hr hh.1
      have hn := tokN_false hok c1
      have hr2 : (decide (0 ≤ gi l i) && decide (gi l i ≤ 1099511627776)) = false := by
        unfold maxTime at hr
        rw [← Bool.not_eq_true, Bool.and_eq_true, decide_eq_true_iff, decide_eq_true_iff]
        exact hr
      simp [h0, h6, h7, h8, h3, hx, c1, hdi, hr2, hn]
  · have hi : i = l.length := by omega
    subst hi
    simp [h0, h6, h7, h8, h3, hx, c1]
    refine pendB (fun c2 => ?_) (fun c2 => ?_)
    · simp [h0, h6, h7, h8, h3, hx, c2]
      simp at c2
      rw [showTimes, if_neg (by omega)]
    · simp [h0, h6, h7, h8, h3, hx, c2]
      simp at c2
      rw [showTimes, if_pos ⟨ht, by omega, by omega⟩]

theorem showTimes_of {l : List Int} (h : tokN l l.length = true ∧ 1 ≤ l.length ∧ l.length ≤ 60) : showTimes l = traw l l.length := if_pos h
theorem rise_eq {H : Heap} {a : Option Addr} {l : List Int} (hl : Sl 1 encI H a l) : evF Tryz.prog TT 102 #[.slice a l.length 0] H = some (.bool (decide (1 ≤ l.length ∧ l.length ≤ 60) && tokN l l.length), H) := by
  refine Ret.eq ?_
  refine Ret.go rfl Tryz.func102 rfl (by decide) (by simp [Tryz.ntmps102]) (by kernel_rfl) loc102 Tryz.results102 Tryz.ntmps102 ?_
  have hx := indexAddr_Sl (P := Tryz.prog) hl ti72
  have hlen := hl.1
  simp
  refine pendB (fun c0 => ?_) (fun c0 => ?_)
  · simp [c0]
    simp at c0
    intro h1 h2
    omega
  · simp [c0]
    simp at c0
    have hd0 : (decide (1 ≤ l.length) && decide (l.length ≤ 60)) = true := by simp; omega
    refine mC_loop (fun j st => ∃ (e : Nat → Value) (loc : Nat → List Value) (g i : Nat), st = ⟨e, loc, g, H, 36⟩ ∧ e 0 = .slice a l.length 0 ∧ e 3 = .int .i64 i ∧ tokN l i = true ∧ i + j = l.length) ?_ (j := l.length)
      ⟨_, _, _, 0, rfl, by simp, by simp, rfl, by simp⟩
    rintro j st ⟨e, loc, g, i, rfl, h0, h3, ht, hj⟩
    simp [h0, h3, hx]
    refine pendP (fun c1 => ?_) (fun c1 => ?_)
    · have hd : ∀ k, k < l.length → ∀ (e : Nat → Value) (loc : Nat → List Value) (g n : Nat), (St.mk e loc g H n).cellsAt (el a 1 k 0) 1 = some [.int .i64 (gi l k)] := fun k hk e loc g n => by
        rw [hl.ld (Pe_refl H ▸ trivial) (by decide) k 0 1 hk (by decide)]
        simp [encI, gi_get hk]
      have hdi := hd i c1
      have hi1 := wrap_nat (k := i) (by omega)
      have hno : tok1 l i = false → tokN l l.length = false := fun h => by
        rw [← Bool.not_eq_true]
        intro hc
        rw [tokN_at l hc c1] at h
        cases h
      by_cases hr : 0 ≤ gi l i ∧ gi l i ≤ maxTime
      · have hr2 : 0 ≤ gi l i ∧ gi l i ≤ 1099511627776 := hr
        by_cases hi0 : i = 0
        · subst hi0
          have hok : tok1 l 0 = true := (tok1_iff l 0).2 ⟨hr, fun h => by omega⟩
          simp [h0, h3, hx, c1, hdi, hr2, hi1]
          exact again_intro (j - 1) (by omega) ⟨_, _, _, 1, rfl, by simp [h0], by simp, by rw [tokN, hok]; rfl, by omega⟩
        · have hi0' : 0 < i := by omega
          have w1 : IntKind.i64.wrap ((i : Int) - 1) = ((i - 1 : Nat) : Int) := by rw [wrap_i64 (by omega) (by omega)]; omega
          have hd1 := hd (i - 1) (by omega)
          by_cases hlt : gi l (i - 1) < gi l i
          · have hok : tok1 l i = true := (tok1_iff l i).2 ⟨hr, fun _ => hlt⟩
            have hlt' : ¬ gi l i ≤ gi l (i - 1) := by omega
            simp [h0, h3, hx, c1, hdi, hr2, hi0', w1, hd1, hlt', hi1, show i - 1 < l.length by omega]
            exact again_intro (j - 1) (by omega) ⟨_, _, _, i + 1, rfl, by simp [h0], by simp, by rw [tokN, hok, ht]; rfl, by omega⟩
          · have hok : tok1 l i = false := by rw [← Bool.not_eq_true, tok1_iff]; exact fun hh => hlt (hh.2 hi0')
            have hlt' : gi l i ≤ gi l (i - 1) := by omega
            simp [h0, h3, hx, c1, hdi, hr2, hi0', w1, hd1, hlt', show i - 1 < l.length by omega, hno hok]
      · have hok : tok1 l i = false := by rw [← Bool.not_eq_true, tok1_iff]; exact fun hh => hr hh.1
        have hr2 : (decide (0 ≤ gi l i) && decide (gi l i ≤ 1099511627776)) = false := by
          unfold maxTime at hr
          rw [← Bool.not_eq_true, Bool.and_eq_true, decide_eq_true_iff, decide_eq_true_iff]
          exact hr
        simp [h0, h3, hx, c1, hdi, hr2, hno hok]
    · obtain rfl : i = l.length := by omega
      simp [h0, h3, hx, c1, ht]
      omega
theorem specShowTimes_eq {H : Heap} {a : Option Addr} {l : List Int} (hl : Sl 1 encI H a l) : evF Tryz.prog TT 91 #[.slice a l.length 0] H = some (S (showTimes l), H) := by
  refine Ret.eq ?_
  refine Ret.go rfl Tryz.func91 rfl (by decide) (by simp [Tryz.ntmps91]) (by kernel_rfl) loc91 Tryz.results91 Tryz.ntmps91 ?_
  have hx := indexAddr_Sl (P := Tryz.prog) hl ti72
  have hlen := hl.1
  have hri := rise_eq hl
  simp [hri]
  refine pendB (fun c0 => ?_) (fun c0 => ?_)
  · simp [c0]
    rw [showTimes, if_neg]
    rintro ⟨h1, h2, h3⟩
    simp [h1, h2, h3] at c0
  · simp at c0
    obtain ⟨⟨c1, c2⟩, hok⟩ := c0
    have hst := showTimes_of ⟨hok, c1, c2⟩
    have hd : ∀ k, k < l.length → ∀ (e : Nat → Value) (loc : Nat → List Value) (g n : Nat), (St.mk e loc g H n).cellsAt (el a 1 k 0) 1 = some [.int .i64 (gi l k)] := fun k hk e loc g n => by
      rw [hl.ld (Pe_refl H ▸ trivial) (by decide) k 0 1 hk (by decide)]
      simp [encI, gi_get hk]
    have hd0 := hd 0 (by omega)
    simp [c1, c2, hok, hx, hd0, show 0 < l.length by omega]
    refine mC_loop (fun j st => ∃ (e : Nat → Value) (loc : Nat → List Value) (g i : Nat), st = ⟨e, loc, g, H, 53⟩ ∧ e 0 = .slice a l.length 0 ∧ e 4 = .int .i64 i ∧ e 3 = S (traw l i) ∧ i + j = l.length ∧ 1 ≤ i) ?_ (j := l.length - 1)
      ⟨_, _, _, 1, rfl, by simp, by simp, by simp [traw, tpiece], by omega, Nat.le_refl _⟩
    rintro j st ⟨e, loc, g, i, rfl, h0, h4, h3, hj, hi0⟩
    simp [h0, h4, h3, hx]
    refine pendP (fun c3 => ?_) (fun c3 => ?_)
    · have hdi := hd i c3
      have hd1 := hd (i - 1) (by omega)
      have w1 : IntKind.i64.wrap ((i : Int) - 1) = ((i - 1 : Nat) : Int) := by rw [wrap_i64 (by omega) (by omega)]; omega
      have hi1 := wrap_nat (k := i) (by omega)
      have hrl := traw_len l i
      have hp0 := (tok1_iff l i).1 (tokN_at l hok c3)
      have hp1 := (tok1_iff l (i - 1)).1 (tokN_at l hok (by omega))
      have hmx : maxTime = 1099511627776 := rfl
      have w2 : IntKind.i64.wrap (gi l i - gi l (i - 1)) = gi l i - gi l (i - 1) := wrap_i64 (by omega) (by omega)
      by_cases hi1' : i = 1
      · subst hi1'
        have hp1 : 0 ≤ gi l 0 ∧ gi l 0 ≤ maxTime := hp1.1
        have hvl := var_len (gi l 1 - gi l 0)
        have ep : tpiece l 1 = var (gi l 1 - gi l 0) := by rw [tpiece, if_neg (by decide), if_pos rfl]
        have w2 : IntKind.i64.wrap (gi l 1 - gi l 0) = gi l 1 - gi l 0 := wrap_i64 (by omega) (by omega)
        simp [h0, h4, h3, hx, c3, hdi, hd0, w2, show 0 < l.length by omega]
        repeat refine ⟨by omega, ?_⟩
        exact again_intro (j - 1) (by omega) ⟨_, _, _, 2, rfl, by simp [h0], by simp, by simp [traw, ep], by omega, by omega⟩
      · have hp2 := (tok1_iff l (i - 2)).1 (tokN_at l hok (by omega))
        have hd2 := hd (i - 2) (by omega)
        have w3 : IntKind.i64.wrap ((i : Int) - 2) = ((i - 2 : Nat) : Int) := by rw [wrap_i64 (by omega) (by omega)]; omega
        have hvl := zig_len (gi l i - gi l (i - 1) - (gi l (i - 1) - gi l (i - 2)))
        have hvl' : (var (zigZag (gi l i - gi l (i - 1) - (gi l (i - 1) - gi l (i - 2))))).length ≤ 7 := hvl
        have ep : tpiece l i = zig (gi l i - gi l (i - 1) - (gi l (i - 1) - gi l (i - 2))) := by rw [tpiece, if_neg (by omega), if_neg hi1']
        have w5 : IntKind.i64.wrap (gi l (i - 1) - gi l (i - 2)) = gi l (i - 1) - gi l (i - 2) := wrap_i64 (by omega) (by omega)
        have w6 : IntKind.i64.wrap (gi l i - gi l (i - 1) - (gi l (i - 1) - gi l (i - 2))) = gi l i - gi l (i - 1) - (gi l (i - 1) - gi l (i - 2)) := wrap_i64 (by omega) (by omega)
        have hi1c : ¬ (i : Int) = 1 := by omega
        simp [h0, h4, h3, hx, c3, hdi, hd1, hd2, w1, w2, w3, w5, w6, hi1c, hi1, show i - 1 < l.length by omega, show i - 2 < l.length by omega]
        repeat refine ⟨by omega, ?_⟩
        exact again_intro (j - 1) (by omega) ⟨_, _, _, i + 1, rfl, by simp [h0], by simp, by simp [traw, ep, zig], by omega, by omega⟩
    · obtain rfl : i = l.length := by omega
      simp [h0, h4, h3, hx, c3, hst]
end Go.Abs

/-
  CONTRACTS: values shown; times and values read.
-/
namespace Go.Abs
open Go Go.Proofs
set_option linter.unusedSimpArgs false
attribute [local simp] fieldAddr

theorem ld_int {H K : Heap} {a : Option Addr} {l : List Int} (hl : Sl 1 encI H a l) (hp : Pe H K) (k : Nat) (hk : k < l.length) (e : Nat → Value) (loc : Nat → List Value) (g n : Nat) :
    (St.mk e loc g K n).cellsAt (el a 1 k 0) 1 = some [.int .i64 (gi l k)] := by
  rw [hl.ld hp (by decide) k 0 1 hk (by decide)]
  simp [encI, gi_get hk]
theorem Pe.rfl' (H : Heap) : Pe H H := ⟨Nat.le_refl _, fun _ _ _ => rfl⟩

theorem vprev {l : List Int} {i : Nat} (hv : vokN l i = true) : -maxTime ≤ (if i = 0 then 0 else gi l (i - 1)) ∧ (if i = 0 then 0 else gi l (i - 1)) ≤ maxTime := by
  by_cases h : i = 0
  · rw [if_pos h]; unfold maxTime; omega
  · rw [if_neg h]; exact (vok1_iff l (i - 1)).1 (vokN_at l hv (by omega))

theorem showValues_eq {H : Heap} {a : Option Addr} {l : List Int} (hl : Sl 1 encI H a l) : evF Tryz.prog TT 98 #[.slice a l.length 0] H = some (S (showValues l), H) := by
  refine Ret.eq ?_
  refine Ret.go rfl Tryz.func98 rfl (by decide) (by simp [Tryz.ntmps98]) (by kernel_rfl) loc98 Tryz.results98 Tryz.ntmps98 ?_
  simp
  have hx := indexAddr_Sl (P := Tryz.prog) hl ti72
  have hlen := hl.1
  have hmx : maxTime = 1099511627776 := rfl
  refine mC_loop (fun j st => ∃ (e : Nat → Value) (loc : Nat → List Value) (g i : Nat) (p : Int), st = ⟨e, loc, g, H, 29⟩ ∧ e 0 = .slice a l.length 0 ∧ e 7 = .slice a l.length 0 ∧ e 8 = .int .i64 l.length ∧ e 9 = .int .i64 i ∧ e 3 = S (vraw l i) ∧ p = (if i = 0 then 0 else gi l (i - 1)) ∧ e 4 = .int .i64 p ∧ vokN l i = true ∧ i + j = l.length) ?_ (j := l.length)
    ⟨_, _, _, 0, 0, rfl, by simp, by simp, by simp, by simp, by simp [vraw], by simp, by simp, rfl, by simp⟩
  rintro j st ⟨e, loc, g, i, p, rfl, h0, h7, h8, h9, h3, hp, h4, hv, hj⟩
  have hpv := vprev hv
  rw [← hp] at hpv
  simp [h0, h7, h8, h9, h3, h4, hx]
  refine pendP (fun c1 => ?_) (fun c1 => ?_)
  · have hdi := ld_int hl (Pe.rfl' H) i c1
    have hi1 := wrap_nat (k := i) (by omega)
    have hrl := vraw_len l i
    by_cases hr : -maxTime ≤ gi l i ∧ gi l i ≤ maxTime
    · have hr2 : -1099511627776 ≤ gi l i ∧ gi l i ≤ 1099511627776 := hr
      have hok : vok1 l i = true := (vok1_iff l i).2 hr
      have w1 : IntKind.i64.wrap (gi l i - p) = gi l i - p := wrap_i64 (by omega) (by omega)
      have hzl := zig_len (gi l i - p)
      simp [h0, h7, h8, h9, h3, h4, hx, c1, hdi, hr2, w1, hi1]
      repeat refine ⟨by omega, ?_⟩
      exact again_intro (j - 1) (by omega) ⟨_, _, _, i + 1, gi l i, rfl, by simp [h0], by simp [h7], by simp [h8], by simp, by simp [vraw, vpiece, hp], by simp, by simp, by rw [vokN, hok, hv]; rfl, by omega⟩
    · have hok : vok1 l i = false := by rw [← Bool.not_eq_true, vok1_iff]; exact hr
      have hr2 : (decide (-1099511627776 ≤ gi l i) && decide (gi l i ≤ 1099511627776)) = false := by
        rw [hmx] at hr
        rw [← Bool.not_eq_true, Bool.and_eq_true, decide_eq_true_iff, decide_eq_true_iff]
        exact hr
      have hn := vokN_false hok c1
      simp [h0, h7, h8, h9, h3, h4, hx, c1, hdi, hr2, hn]
  · obtain rfl : i = l.length := by omega
    simp [h0, h7, h8, h9, h3, h4, hx, c1]
    refine pendB (fun c2 => ?_) (fun c2 => ?_)
    · simp [h0, h7, h8, h9, h3, h4, hx, c2]
      simp at c2
      rw [showValues, if_neg (by omega)]
    · simp [h0, h7, h8, h9, h3, h4, hx, c2]
      simp at c2
      rw [showValues, if_pos ⟨hv, by omega, by omega⟩]

theorem values_eq {H : Heap} {a : Option Addr} {l : List Int} (hl : Sl 1 encI H a l) : evF Tryz.prog TT 104 #[.slice a l.length 0] H = some (.bool (decide (1 ≤ l.length ∧ l.length ≤ 60) && vokN l l.length), H) := by
  refine Ret.eq ?_
  refine Ret.go rfl Tryz.func104 rfl (by decide) (by simp [Tryz.ntmps104]) (by kernel_rfl) loc104 Tryz.results104 Tryz.ntmps104 ?_
  have hx := indexAddr_Sl (P := Tryz.prog) hl ti72
  have hlen := hl.1
  have hmx : maxTime = 1099511627776 := rfl
  simp
  refine pendB (fun c0 => ?_) (fun c0 => ?_)
  · simp [c0]
    simp at c0
    intro h1 h2
    omega
  · simp [c0]
    simp at c0
    refine mC_loop (fun j st => ∃ (e : Nat → Value) (loc : Nat → List Value) (g i : Nat), st = ⟨e, loc, g, H, 20⟩ ∧ e 0 = .slice a l.length 0 ∧ e 3 = .int .i64 i ∧ vokN l i = true ∧ i + j = l.length) ?_ (j := l.length)
      ⟨_, _, _, 0, rfl, by simp, by simp, rfl, by simp⟩
    rintro j st ⟨e, loc, g, i, rfl, h0, h3, ht, hj⟩
    simp [h0, h3, hx]
    refine pendP (fun c1 => ?_) (fun c1 => ?_)
    · have hdi := ld_int hl (Pe.rfl' H) i c1
      have hi1 := wrap_nat (k := i) (by omega)
      have hno : vok1 l i = false → vokN l l.length = false := fun h => by
        rw [← Bool.not_eq_true]
        intro hc
        rw [vokN_at l hc c1] at h
        cases h
      by_cases hr : -maxTime ≤ gi l i ∧ gi l i ≤ maxTime
      · have hr2 : -1099511627776 ≤ gi l i ∧ gi l i ≤ 1099511627776 := hr
        have hok : vok1 l i = true := (vok1_iff l i).2 hr
        simp [h0, h3, hx, c1, hdi, hr2, hi1]
        exact again_intro (j - 1) (by omega) ⟨_, _, _, i + 1, rfl, by simp [h0], by simp, by rw [vokN, hok, ht]; rfl, by omega⟩
      · have hok : vok1 l i = false := by rw [← Bool.not_eq_true, vok1_iff]; exact hr
        have hr2 : (decide (-1099511627776 ≤ gi l i) && decide (gi l i ≤ 1099511627776)) = false := by
          rw [hmx] at hr
          rw [← Bool.not_eq_true, Bool.and_eq_true, decide_eq_true_iff, decide_eq_true_iff]
          exact hr
        simp [h0, h3, hx, c1, hdi, hr2, hno hok]
    · obtain rfl : i = l.length := by omega
      simp [h0, h3, hx, c1, ht]
      omega
theorem specShowValues_eq {H : Heap} {a : Option Addr} {l : List Int} (hl : Sl 1 encI H a l) : evF Tryz.prog TT 92 #[.slice a l.length 0] H = some (S (showValues l), H) := by
  refine Ret.eq ?_
  refine Ret.go rfl Tryz.func92 rfl (by decide) (by simp [Tryz.ntmps92]) (by kernel_rfl) loc92 Tryz.results92 Tryz.ntmps92 ?_
  have hx := indexAddr_Sl (P := Tryz.prog) hl ti72
  have hlen := hl.1
  have hmx : maxTime = 1099511627776 := rfl
  have hri := values_eq hl
  simp [hri]
  refine pendB (fun c0 => ?_) (fun c0 => ?_)
  · simp [c0]
    rw [showValues, if_neg]
    rintro ⟨h1, h2, h3⟩
    simp [h1, h2, h3] at c0
  · simp at c0
    obtain ⟨⟨c1, c2⟩, hok⟩ := c0
    have hst : showValues l = vraw l l.length := by rw [showValues, if_pos ⟨hok, c1, c2⟩]
    simp [c1, c2, hok]
    refine mC_loop (fun j st => ∃ (e : Nat → Value) (loc : Nat → List Value) (g i : Nat) (p : Int), st = ⟨e, loc, g, H, 30⟩ ∧ e 0 = .slice a l.length 0 ∧ e 5 = .int .i64 i ∧ e 3 = S (vraw l i) ∧ p = (if i = 0 then 0 else gi l (i - 1)) ∧ e 4 = .int .i64 p ∧ i + j = l.length) ?_ (j := l.length)
      ⟨_, _, _, 0, 0, rfl, by simp, by simp, by simp [vraw], by simp, by simp, by simp⟩
    rintro j st ⟨e, loc, g, i, p, rfl, h0, h5, h3, hp, h4, hj⟩
    have hpv := vprev (vokN_mono l _ i (by omega) hok)
    rw [← hp] at hpv
    simp [h0, h5, h3, h4, hx]
    refine pendP (fun c3 => ?_) (fun c3 => ?_)
    · have hdi := ld_int hl (Pe.rfl' H) i c3
      have hi1 := wrap_nat (k := i) (by omega)
      have hrl := vraw_len l i
      have hr := (vok1_iff l i).1 (vokN_at l hok c3)
      have w1 : IntKind.i64.wrap (gi l i - p) = gi l i - p := wrap_i64 (by omega) (by omega)
      have hzl : (var (zigZag (gi l i - p))).length ≤ 7 := zig_len (gi l i - p)
      simp [h0, h5, h3, h4, hx, c3, hdi, w1, hi1]
      repeat refine ⟨by omega, ?_⟩
      exact again_intro (j - 1) (by omega) ⟨_, _, _, i + 1, gi l i, rfl, by simp [h0], by simp, by simp [vraw, vpiece, zig, hp], by simp, by simp, by omega⟩
    · obtain rfl : i = l.length := by omega
      simp [h0, h5, h3, h4, hx, c3, hst]

/-- An append of one number. -/
theorem ow_int {lo : Nat} {H K : Heap} {a : Option Addr} {l : List Int} {B : Nat → Prop} (hu : Upd B H K) (hlo : H.size ≤ lo) (hk : lo ≤ K.size) (ho : Ow lo 1 encI K a l) (y : Int) :
    Upd B H (apH (K.push [.int .i64 y] 1) a l.length 1 [.int .i64 y]) ∧ Ow lo 1 encI (apH (K.push [.int .i64 y] 1) a l.length 1 [.int .i64 y]) (some ⟨K.size + 1, 0, none⟩) (l ++ [y]) := by
  have ho2 := ho.pe (by decide) ((Upd_refl K).push [.int .i64 y] 1).pe
  exact ⟨(hu.push _ 1).ap ho2 hlo _ _ _, by simpa using ho2.ap (fun _ _ => rfl) (by simp; omega) (len := l.length) rfl [y] (by simp [encI])⟩

/-- What a call yields that lays its result in a slice of its own. -/
def RS {α : Type} (es : Nat) (enc : α → List Value) (H : Heap) (l : List α) (mk : Value → Value) (v : Value) (H' : Heap) : Prop := ∃ a, v = mk (.slice a l.length 0) ∧ Upd no H H' ∧ Sl es enc H' a l
theorem RS.nil {α : Type} {es : Nat} {enc : α → List Value} {H K : Heap} {mk : Value → Value} (u : Upd no H K) : RS es enc H ([] : List α) mk (mk (.slice none 0 0)) K := ⟨none, rfl, u, Sl.nil _ _ _⟩
/-- A variable of its own stays, where a slice is appended to that was made behind it. -/
theorem apH_root {α : Type} {lo es : Nat} {enc : α → List Value} {K : Heap} {a : Option Addr} {l : List α} (ho : Ow lo es enc K a l) (len es' : Nat) (news : List Value) (j : Nat) (hj : j < K.size) : ((apH K a len es' news).blk j).root = (K.blk j).root := by
  rcases ho with ⟨rfl, _⟩ | ⟨b, rfl, _⟩
  · exact congrArg Blk.root (push_old hj _ _)
  · show ((K.grow b 0 (len * es') es' news).blk j).root = _
    rw [blk_grow, if_neg (by omega), if_neg (by omega), Blk.cut_root]
theorem apH_root_new {α : Type} {lo es : Nat} {enc : α → List Value} {K : Heap} {a : Option Addr} {l : List α} (ho : Ow lo es enc K a l) (hlo : lo ≤ K.size) (len es' : Nat) (news : List Value) : lo ≤ ((apH K a len es' news).blk K.size).root := by
  rcases ho with ⟨rfl, _⟩ | ⟨b, rfl, hb, hes, hc, hr⟩
  · show lo ≤ ((K.push news es').blk K.size).root
    rw [push_new]
    exact hlo
  · show lo ≤ ((K.grow b 0 (len * es') es' news).blk K.size).root
    rw [blk_grow, if_neg (by omega), if_pos rfl]
    show lo ≤ if b ≤ K.size then _ else _
    rw [if_pos (by omega)]
    exact hr
theorem Box.ap {α : Type} {lo es : Nat} {enc : α → List Value} {K : Heap} {id : Nat} {c : List Value} (hb : Box K id c) {a : Option Addr} {l : List α} (ho : Ow lo es enc K a l) (hid : id < lo) (hlo : lo ≤ K.size) (len es' : Nat) (news : List Value) : Box (apH K a len es' news) id c := by
  have hr := K.rle id
  have e := apH_blk ho len es' news hb.lt (by omega)
  have hsz : (apH K a len es' news).size = K.size + 1 := apH_size _ _ _ _ _
  refine ⟨by rw [hsz]; have := hb.lt; omega, by rw [e]; exact hb.es0, by rw [e]; exact hb.cells, by rw [hsz]; have := hb.lt; omega, fun j hj hne => ?_⟩
  rw [hsz] at hj
  rw [e]
  by_cases hjk : j < K.size
  · rw [apH_root ho _ _ _ j hjk]
    exact hb.solo.2 j hjk hne
  · obtain rfl : j = K.size := by omega
    have := apH_root_new ho hlo len es' news
    omega
theorem Box.push {H : Heap} {id : Nat} {c : List Value} (h : Box H id c) (d : List Value) (es : Nat) : Box (H.push d es) id c := h.no ((Upd_refl H).push d es)
/-- A heap by one of its variables. -/
theorem Box.as_set {K : Heap} {id : Nat} {c : List Value} (h : Box K id c) : K = K.set id c := by
  refine Heap.ext' rfl fun i => ?_
  show K.blk i = if i = id ∧ id < K.size then { K.blk id with cells := c } else K.blk i
  split
  · rename_i hi
    rw [hi.1, ← h.cells]
  · rfl
theorem RS.of {α : Type} {es : Nat} {enc : α → List Value} {H K : Heap} {mk : Value → Value} {a : Option Addr} {l : List α} (u : Upd no H K) (h : Sl es enc K a l) (hm : ∀ b n, flatB (mk (.slice (some b) n 0)) = false) {m : Nat} (hn : l.length = m) :
    RS es enc H l mk (mk (.slice a m 0)) (gc H (mk (.slice a m 0)) K) := by
  subst hn
  refine ⟨a, rfl, gc_upd u, ?_⟩
  cases a with
  | none =>
    rcases h.2 with ⟨_, rfl⟩ | ⟨b, off, hh, _⟩
    · exact Sl.nil _ _ _
    · cases hh
  | some b => rw [gc_kept (hm b _)]; exact h
def RetSl {α : Type} (es : Nat) (enc : α → List Value) (f : FuncId) (args : Array Value) (H : Heap) (l : List α) (mk : Value → Value) : Prop := Ret Tryz.prog TT f args H (RS es enc H l mk)
attribute [local simp] build fillL
theorem began_B (s t : List UInt8) : began s t = beganB s t := rfl

theorem readTimes_ret {s : List UInt8} (hs : Sm s) (n : Int) (H : Heap) : RetSl 1 encI 82 #[S s, .int .i64 n] H (readTimes s n).1 fun v => .tuple #[v, .int .i64 (readTimes s n).2] := by
  unfold RetSl
  refine Ret.go rfl Tryz.func82 rfl (by decide) (by simp [Tryz.ntmps82]) (by kernel_rfl) loc82 Tryz.results82 Tryz.ntmps82 ?_
  simp
  refine pendB (fun c0 => ?_) (fun c0 => ?_)
  · simp [c0]
    simp at c0
    have e : readTimes s n = ([], 0) := by rw [readTimes, if_neg (by omega)]
    rw [e]
    exact RS.nil (mk := fun v => .tuple #[v, .int .i64 0]) (Upd_refl H)
  · simp [c0]
    simp at c0
    obtain ⟨m, rfl⟩ : ∃ m : Nat, n = m := ⟨n.toNat, by omega⟩
    have hbx : Box ((H.push [S s, .bool true] 0).push [] 1) H.size [S s, .bool true] := (Box.new H _).push [] 1
    have hu0 : Upd no H ((H.push [S s, .bool true] 0).push [] 1) := ((Upd_refl H).push _ 0).push _ 1
    have how : Ow (H.size + 1) 1 encI ((H.push [S s, .bool true] 0).push [] 1) (some ⟨H.size + 1, 0, none⟩) [] := Ow.new (K := H.push [S s, .bool true] 0) (Nat.le_refl _) [] rfl
    generalize (H.push [S s, Value.bool true] 0).push [] 1 = K0 at hbx hu0 how ⊢
    refine mC_loop (fun j st => ∃ (e : Nat → Value) (loc : Nat → List Value) (g i : Nat) (K : Heap) (a : Option Addr) (x : TS), st = ⟨e, loc, g, K, 59⟩ ∧ Upd no H K ∧ x = tread s i ∧ Box K H.size [S x.s, .bool x.ok] ∧ Ow (H.size + 1) 1 encI K a x.out ∧
      e 0 = S s ∧ e 6 = .pointer (some ⟨H.size, 0, none⟩) ∧ e 7 = .slice a x.out.length 0 ∧ e 8 = .int .i64 x.step ∧ e 9 = .int .i64 x.last ∧ e 20 = .int .i64 m ∧ e 21 = .int .i64 i ∧ i + j = m) ?_ (j := m)
      ⟨_, _, _, 0, K0, _, tread s 0, rfl, hu0, rfl, hbx, how, by simp, by simp, by simp [tread], by simp [tread], by simp [tread], by simp, by simp, by simp⟩
    rintro j st ⟨e, loc, g, i, K, a, x, rfl, hu, hx, hb, ho, h0, h6, h7, h8, h9, h20, h21, hj⟩
    have hsz := hu.size
    have hlt := hb.lt
    have hxs : Sm x.s := by rw [hx]; exact tread_sm hs i
    have hxl : x.out.length = i := by rw [hx]; exact tread_len s i
    simp [h0, h6, h7, h8, h9, h20, h21]
    refine pendP (fun c1 => ?_) (fun c1 => ?_)
    · have hi1 := wrap_nat (k := i) (by omega)
      have hnext : tread s (i + 1) = tstep i x := by rw [tread, ← hx]
      have hrb : RB K H.size := ⟨_, hb⟩
      rw [hb.as_set]
      have hps : ∀ d, Pe K (K.set H.size d) := fun d => (hb.change d).pe
      have ap := append_one (P := Tryz.prog) ti72 ho (fun _ _ => rfl) (by omega) (by decide) un72
      have fin : ∀ (d : List Value) (y : Int), Upd no H (apH ((K.set H.size d).push [.int .i64 y] 1) a x.out.length 1 [.int .i64 y]) ∧ Ow (H.size + 1) 1 encI (apH ((K.set H.size d).push [.int .i64 y] 1) a x.out.length 1 [.int .i64 y]) (some ⟨K.size + 1, 0, none⟩) (x.out ++ [y]) ∧
          Box (apH ((K.set H.size d).push [.int .i64 y] 1) a x.out.length 1 [.int .i64 y]) H.size d := fun d y => by
        have u1 : Upd no H (K.set H.size d) := hu.set hb (fun h => by omega) d
        have o1 := ho.pe (by decide) (hps d)
        have := ow_int u1 (Nat.le_succ _) (by simp; omega) o1 y
        exact ⟨this.1, this.2, ((hb.set d).push _ _).ap (o1.pe (by decide) ((Upd_refl _).push (B := no) [.int .i64 y] 1).pe) (Nat.lt_succ_self _) (by simp; omega) _ _ _⟩
      by_cases c2 : i < 2
      · have c2' : (i : Int) < 2 := by omega
        have ex : tstep i x = ⟨(rnum x.s x.ok).2.1, (rnum x.s x.ok).2.2, ((rnum x.s x.ok).1 : Int), IntKind.i64.wrap (x.last + ((rnum x.s x.ok).1 : Int)), x.out ++ [IntKind.i64.wrap (x.last + ((rnum x.s x.ok).1 : Int))]⟩ := by
          unfold tstep; simp only [if_pos c2]
        simp [h0, h6, h7, h8, h9, h20, h21, c1, c2', hrb, hxs, ap, hps, hi1]
        obtain ⟨p1, p2, p3⟩ := fin [S (rnum x.s x.ok).2.1, .bool (rnum x.s x.ok).2.2] (IntKind.i64.wrap (x.last + ((rnum x.s x.ok).1 : Int)))
        exact again_intro (j - 1) (by omega) ⟨_, _, _, i + 1, _, _, _, rfl, p1, by rw [hnext, ex], p3, p2, by simp [h0], by simp [h6], by simp, by simp, by simp, by simp [h20], by simp, by omega⟩
      · have c2' : ¬ (i : Int) < 2 := by omega
        have ex : tstep i x = ⟨(rzag x.s x.ok).2.1, (rzag x.s x.ok).2.2, IntKind.i64.wrap (x.step + (rzag x.s x.ok).1), IntKind.i64.wrap (x.last + IntKind.i64.wrap (x.step + (rzag x.s x.ok).1)), x.out ++ [IntKind.i64.wrap (x.last + IntKind.i64.wrap (x.step + (rzag x.s x.ok).1))]⟩ := by
          unfold tstep; simp only [if_neg c2]
        simp [h0, h6, h7, h8, h9, h20, h21, c1, c2', hrb, hxs, ap, hps, hi1]
        obtain ⟨p1, p2, p3⟩ := fin [S (rzag x.s x.ok).2.1, .bool (rzag x.s x.ok).2.2] (IntKind.i64.wrap (x.last + IntKind.i64.wrap (x.step + (rzag x.s x.ok).1)))
        exact again_intro (j - 1) (by omega) ⟨_, _, _, i + 1, _, _, _, rfl, p1, by rw [hnext, ex], p3, p2, by simp [h0], by simp [h6], by simp, by simp, by simp, by simp [h20], by simp, by omega⟩
    · obtain rfl : i = m := by omega
      have hsl := ho.sl (fun _ _ => rfl) (by omega)
      have hst := showTimes_eq hsl
      have hbc := hb.cells
      have hrd : readTimes s i = if x.ok = true ∧ beganB s (showTimes x.out) = true then (x.out, (showTimes x.out).length) else ([], 0) := by
        rw [readTimes, if_pos (by omega), Int.toNat_natCast, ← hx]
      simp [h0, h6, h7, h8, h9, h20, h21, c1, hst, hlt, hbc, began_B]
      refine pendB (fun c2 => ?_) (fun c2 => ?_)
      · simp at c2
        rw [hrd, if_neg (by simp [c2])]
        simp [h0, h6, h7, h8, h9, h20, h21, c2]
        exact RS.nil (mk := fun v => .tuple #[v, .int .i64 0]) (gc_upd hu)
      · simp at c2
        simp [h0, h6, h7, h8, h9, h20, h21, c2]
        refine pendB (fun c3 => ?_) (fun c3 => ?_)
        · simp at c3
          rw [hrd, if_neg (by simp [c3])]
          simp [h0, h6, h7, h8, h9, h20, h21, c3]
          exact RS.nil (mk := fun v => .tuple #[v, .int .i64 0]) (gc_upd hu)
        · simp at c3
          rw [hrd, if_pos ⟨c2, c3⟩]
          simp [h0, h6, h7, h8, h9, h20, h21, c3]
          exact RS.of (mk := fun v => .tuple #[v, .int .i64 (showTimes x.out).length]) hu hsl (fun _ _ => rfl) rfl

theorem readValues_ret {s : List UInt8} (hs : Sm s) (n : Int) (H : Heap) : RetSl 1 encI 83 #[S s, .int .i64 n] H (readValues s n).1 fun v => .tuple #[v, .int .i64 (readValues s n).2] := by
  unfold RetSl
  refine Ret.go rfl Tryz.func83 rfl (by decide) (by simp [Tryz.ntmps83]) (by kernel_rfl) loc83 Tryz.results83 Tryz.ntmps83 ?_
  simp
  refine pendB (fun c0 => ?_) (fun c0 => ?_)
  · simp [c0]
    simp at c0
    have e : readValues s n = ([], 0) := by rw [readValues, if_neg (by omega)]
    rw [e]
    exact RS.nil (mk := fun v => .tuple #[v, .int .i64 0]) (Upd_refl H)
  · simp [c0]
    simp at c0
    obtain ⟨m, rfl⟩ : ∃ m : Nat, n = m := ⟨n.toNat, by omega⟩
    have hbx : Box ((H.push [S s, .bool true] 0).push [] 1) H.size [S s, .bool true] := (Box.new H _).push [] 1
    have hu0 : Upd no H ((H.push [S s, .bool true] 0).push [] 1) := ((Upd_refl H).push _ 0).push _ 1
    have how : Ow (H.size + 1) 1 encI ((H.push [S s, .bool true] 0).push [] 1) (some ⟨H.size + 1, 0, none⟩) [] := Ow.new (K := H.push [S s, .bool true] 0) (Nat.le_refl _) [] rfl
    generalize (H.push [S s, Value.bool true] 0).push [] 1 = K0 at hbx hu0 how ⊢
    refine mC_loop (fun j st => ∃ (e : Nat → Value) (loc : Nat → List Value) (g i : Nat) (K : Heap) (a : Option Addr) (x : VS), st = ⟨e, loc, g, K, 48⟩ ∧ Upd no H K ∧ x = vread s i ∧ Box K H.size [S x.s, .bool x.ok] ∧ Ow (H.size + 1) 1 encI K a x.out ∧
      e 0 = S s ∧ e 6 = .pointer (some ⟨H.size, 0, none⟩) ∧ e 7 = .slice a x.out.length 0 ∧ e 8 = .int .i64 x.last ∧ e 18 = .int .i64 m ∧ e 19 = .int .i64 i ∧ i + j = m) ?_ (j := m)
      ⟨_, _, _, 0, K0, _, vread s 0, rfl, hu0, rfl, hbx, how, by simp, by simp, by simp [vread], by simp [vread], by simp, by simp, by simp⟩
    rintro j st ⟨e, loc, g, i, K, a, x, rfl, hu, hx, hb, ho, h0, h6, h7, h8, h20, h21, hj⟩
    have hsz := hu.size
    have hlt := hb.lt
    have hxs : Sm x.s := by rw [hx]; exact vread_sm hs i
    have hxl : x.out.length = i := by rw [hx]; exact vread_len s i
    simp [h0, h6, h7, h8, h20, h21]
    refine pendP (fun c1 => ?_) (fun c1 => ?_)
    · have hi1 := wrap_nat (k := i) (by omega)
      have hnext : vread s (i + 1) = vstep x := by rw [vread, ← hx]
      have hrb : RB K H.size := ⟨_, hb⟩
      have hps : ∀ d, Pe K (K.set H.size d) := fun d => (hb.change d).pe
      have ap := append_one (P := Tryz.prog) ti72 ho (fun _ _ => rfl) (by omega) (by decide) un72
      have fin : ∀ (d : List Value) (y : Int), Upd no H (apH ((K.set H.size d).push [.int .i64 y] 1) a x.out.length 1 [.int .i64 y]) ∧ Ow (H.size + 1) 1 encI (apH ((K.set H.size d).push [.int .i64 y] 1) a x.out.length 1 [.int .i64 y]) (some ⟨K.size + 1, 0, none⟩) (x.out ++ [y]) ∧
          Box (apH ((K.set H.size d).push [.int .i64 y] 1) a x.out.length 1 [.int .i64 y]) H.size d := fun d y => by
        have u1 : Upd no H (K.set H.size d) := hu.set hb (fun h => by omega) d
        have o1 := ho.pe (by decide) (hps d)
        have := ow_int u1 (Nat.le_succ _) (by simp; omega) o1 y
        exact ⟨this.1, this.2, ((hb.set d).push _ _).ap (o1.pe (by decide) ((Upd_refl _).push (B := no) [.int .i64 y] 1).pe) (Nat.lt_succ_self _) (by simp; omega) _ _ _⟩
      rw [hb.as_set]
      simp [h0, h6, h7, h8, h20, h21, c1, hrb, hxs, ap, hps, hi1]
      obtain ⟨p1, p2, p3⟩ := fin [S (rzag x.s x.ok).2.1, .bool (rzag x.s x.ok).2.2] (IntKind.i64.wrap (x.last + (rzag x.s x.ok).1))
      exact again_intro (j - 1) (by omega) ⟨_, _, _, i + 1, _, _, _, rfl, p1, by rw [hnext, vstep], p3, p2, by simp [h0], by simp [h6], by simp, by simp, by simp [h20], by simp, by omega⟩
    · obtain rfl : i = m := by omega
      have hsl := ho.sl (fun _ _ => rfl) (by omega)
      have hst := showValues_eq hsl
      have hbc := hb.cells
      have hrd : readValues s i = if x.ok = true ∧ beganB s (showValues x.out) = true then (x.out, (showValues x.out).length) else ([], 0) := by
        rw [readValues, if_pos (by omega), Int.toNat_natCast, ← hx]
      simp [h0, h6, h7, h8, h20, h21, c1, hst, hlt, hbc, began_B]
      refine pendB (fun c2 => ?_) (fun c2 => ?_)
      · simp at c2
        rw [hrd, if_neg (by simp [c2])]
        simp [h0, h6, h7, h8, h20, h21, c2]
        exact RS.nil (mk := fun v => .tuple #[v, .int .i64 0]) (gc_upd hu)
      · simp at c2
        simp [h0, h6, h7, h8, h20, h21, c2]
        refine pendB (fun c3 => ?_) (fun c3 => ?_)
        · simp at c3
          rw [hrd, if_neg (by simp [c3])]
          simp [h0, h6, h7, h8, h20, h21, c3]
          exact RS.nil (mk := fun v => .tuple #[v, .int .i64 0]) (gc_upd hu)
        · simp at c3
          rw [hrd, if_pos ⟨c2, c3⟩]
          simp [h0, h6, h7, h8, h20, h21, c3]
          exact RS.of (mk := fun v => .tuple #[v, .int .i64 (showValues x.out).length]) hu hsl (fun _ _ => rfl) rfl
end Go.Abs

/-
  CONTRACTS: numbers in a row; times and values, read by the reference.
-/
namespace Go.Abs
open Go Go.Proofs
set_option linter.unusedSimpArgs false
attribute [local simp] fieldAddr

/-- What l7Vars and l13Vars yield. -/
def VarsPost (s : List UInt8) (at_ n : Nat) (H : Heap) (v : Value) (H' : Heap) : Prop := ∃ (a : Option Addr) (l : List Int) (k : Int), v = .tuple #[.slice a l.length 0, .int .i64 k] ∧ Upd no H H' ∧ Sl 1 encI H' a l ∧
  (∀ l' p, varsAt s at_ n = some (l', p) → l = l' ∧ k = p) ∧ (varsAt s at_ n = none → k = -1)

theorem VarsPost.of {s : List UInt8} {at_ n : Nat} {H K : Heap} {a : Option Addr} {l : List Int} {k : Int} (u : Upd no H K) (h : Sl 1 encI K a l) {m : Nat} (hn : l.length = m)
    (h1 : ∀ l' p, varsAt s at_ n = some (l', p) → l = l' ∧ k = p) (h2 : varsAt s at_ n = none → k = -1) : VarsPost s at_ n H (.tuple #[.slice a m 0, .int .i64 k]) (gc H (.tuple #[.slice a m 0, .int .i64 k]) K) := by
  obtain ⟨a', hv, hu, hs⟩ := RS.of (mk := fun v => .tuple #[v, .int .i64 k]) u h (fun _ _ => rfl) hn
  simp only [Value.tuple.injEq] at hv
  have ha : a = a' := by simp at hv; exact hv.1
  subst ha hn
  exact ⟨a, l, k, rfl, hu, hs, h1, h2⟩

theorem l7Vars_ret {s : List UInt8} (hs : Sm s) (n : Nat) (hn : n < 1000) (H : Heap) : Ret Tryz.prog TT 114 #[S s, .int .i64 n] H (VarsPost s 0 n H) := by
  refine Ret.go rfl Tryz.func114 rfl (by decide) (by simp [Tryz.ntmps114]) (by kernel_rfl) loc114 Tryz.results114 Tryz.ntmps114 ?_
  simp
  have hs2 := hs.lt
  refine mC_loop (fun j st => ∃ (e : Nat → Value) (loc : Nat → List Value) (g i : Nat) (K : Heap) (a : Option Addr) (l : List Int) (p : Nat), st = ⟨e, loc, g, K, 36⟩ ∧ Upd no H K ∧ varsAt s 0 i = some (l, p) ∧ Ow H.size 1 encI K a l ∧
      e 0 = S s ∧ e 1 = .int .i64 n ∧ e 6 = .slice a l.length 0 ∧ e 7 = .int .i64 p ∧ e 8 = .int .i64 i ∧ i + j = n) ?_ (j := n)
      ⟨_, _, _, 0, _, _, [], 0, rfl, (Upd_refl H).push _ 1, rfl, Ow.new (Nat.le_refl _) [] rfl, by simp, by simp, by simp, by simp, by simp, by simp⟩
  rintro j st ⟨e, loc, g, i, K, a, l, p, rfl, hu, hv, ho, h0, h1, h6, h7, h8, hj⟩
  obtain ⟨hll, _, hp⟩ := varsAt_len s 0 i l p hv
  have hp := hp (Nat.zero_le _)
  simp [h0, h1, h6, h7, h8]
  refine pendP (fun c1 => ?_) (fun c1 => ?_)
  · have hi1 := wrap_nat (k := i) (by omega)
    have ap := append_one (P := Tryz.prog) ti72 ho (fun _ _ => rfl) (by omega) (by decide) un72
    have hp' : (p : Int) ≤ s.length := by omega
    have hb := (readVar_bound (s.drop p)).2.2
    rw [List.length_drop] at hb
    have w1 : IntKind.i64.wrap ((p : Int) + ((readVar (s.drop p)).2 : Int)) = ((p + (readVar (s.drop p)).2 : Nat) : Int) := by rw [wrap_i64 (by omega) (by omega)]; omega
    simp [h0, h1, h6, h7, h8, c1, hp', hs]
    refine pendP (fun c2 => ?_) (fun c2 => ?_)
    · have hnone : varsAt s 0 n = none := varsAt_none s 0 (i + 1) n (by omega) (by simp only [varsAt, hv]; rw [if_neg (by omega)])
      simp [h0, h1, h6, h7, h8, c2]
      exact VarsPost.of hu (ho.sl (fun _ _ => rfl) (by omega)) rfl (fun l' p' h => by rw [hnone] at h; cases h) fun _ => rfl
    · have hnext : varsAt s 0 (i + 1) = some (l ++ [((readVar (s.drop p)).1 : Int)], p + (readVar (s.drop p)).2) := by
        simp only [varsAt, hv]; rw [if_pos (by omega)]
      simp [h0, h1, h6, h7, h8, c2, ap, w1, hi1, -Int.natCast_add]
      obtain ⟨p1, p2⟩ := ow_int hu (Nat.le_refl _) hu.size ho ((readVar (s.drop p)).1 : Int)
      exact again_intro (j - 1) (by omega) ⟨_, _, _, i + 1, _, _, _, _, rfl, p1, hnext, p2, by simp [h0], by simp [h1], by simp, by simp, by simp, by omega⟩
  · obtain rfl : i = n := by omega
    simp [h0, h1, h6, h7, h8, c1]
    refine VarsPost.of hu (ho.sl (fun _ _ => rfl) (by omega)) rfl (fun l' p' h => ?_) fun h => ?_
    · rw [hv] at h
      simp only [Option.some.injEq, Prod.mk.injEq] at h
      exact ⟨h.1, by omega⟩
    · rw [hv] at h; cases h

theorem l13Vars_ret {s : List UInt8} (hs : Sm s) (at_ n : Nat) (hat : at_ < 2 ^ 61) (hn : n < 1000) (H : Heap) : Ret Tryz.prog TT 73 #[S s, .int .i64 at_, .int .i64 n] H (VarsPost s at_ n H) := by
  refine Ret.go rfl Tryz.func73 rfl (by decide) (by simp [Tryz.ntmps73]) (by kernel_rfl) loc73 Tryz.results73 Tryz.ntmps73 ?_
  simp
  have hs2 := hs.lt
  refine mC_loop (fun j st => ∃ (e : Nat → Value) (loc : Nat → List Value) (g i : Nat) (K : Heap) (a : Option Addr) (l : List Int) (p : Nat), st = ⟨e, loc, g, K, 42⟩ ∧ Upd no H K ∧ varsAt s at_ i = some (l, p) ∧ Ow H.size 1 encI K a l ∧
      e 0 = S s ∧ e 2 = .int .i64 n ∧ e 8 = .slice a l.length 0 ∧ e 1 = .int .i64 p ∧ e 9 = .int .i64 i ∧ i + j = n) ?_ (j := n)
      ⟨_, _, _, 0, _, _, [], at_, rfl, (Upd_refl H).push _ 1, rfl, Ow.new (Nat.le_refl _) [] rfl, by simp, by simp, by simp, by simp, by simp, by simp⟩
  rintro j st ⟨e, loc, g, i, K, a, l, p, rfl, hu, hv, ho, h0, h1, h6, h7, h8, hj⟩
  obtain ⟨hll, _, _⟩ := varsAt_len s at_ i l p hv
  simp [h0, h1, h6, h7, h8]
  refine pendP (fun c1 => ?_) (fun c1 => ?_)
  · have hi1 := wrap_nat (k := i) (by omega)
    have ap := append_one (P := Tryz.prog) ti72 ho (fun _ _ => rfl) (by omega) (by decide) un72
    have hb := (readVar_bound (s.drop p)).2.2
    rw [List.length_drop] at hb
    simp [h0, h1, h6, h7, h8, c1]
    refine pendP (fun c3 => ?_) (fun c3 => ?_)
    · have hnone : varsAt s at_ n = none := varsAt_none s at_ (i + 1) n (by omega) (by simp only [varsAt, hv]; rw [if_neg (by omega)])
      simp [h0, h1, h6, h7, h8, c3]
      exact VarsPost.of hu (ho.sl (fun _ _ => rfl) (by omega)) rfl (fun l' p' h => by rw [hnone] at h; cases h) fun _ => rfl
    · have hp' : (p : Int) ≤ s.length := by omega
      have w1 : IntKind.i64.wrap ((p : Int) + ((readVar (s.drop p)).2 : Int)) = ((p + (readVar (s.drop p)).2 : Nat) : Int) := by rw [wrap_i64 (by omega) (by omega)]; omega
      simp [h0, h1, h6, h7, h8, c1, c3, hp', hs]
      refine pendP (fun c2 => ?_) (fun c2 => ?_)
      · have hnone : varsAt s at_ n = none := varsAt_none s at_ (i + 1) n (by omega) (by simp only [varsAt, hv]; rw [if_neg (by omega)])
        simp [h0, h1, h6, h7, h8, c2]
        exact VarsPost.of hu (ho.sl (fun _ _ => rfl) (by omega)) rfl (fun l' p' h => by rw [hnone] at h; cases h) fun _ => rfl
      · have hnext : varsAt s at_ (i + 1) = some (l ++ [((readVar (s.drop p)).1 : Int)], p + (readVar (s.drop p)).2) := by
          simp only [varsAt, hv]; rw [if_pos (by omega)]
        simp [h0, h1, h6, h7, h8, c2, ap, w1, hi1, -Int.natCast_add]
        obtain ⟨p1, p2⟩ := ow_int hu (Nat.le_refl _) hu.size ho ((readVar (s.drop p)).1 : Int)
        exact again_intro (j - 1) (by omega) ⟨_, _, _, i + 1, _, _, _, _, rfl, p1, hnext, p2, by simp [h0], by simp [h1], by simp, by simp, by simp, by omega⟩
  · obtain rfl : i = n := by omega
    simp [h0, h1, h6, h7, h8, c1]
    refine VarsPost.of hu (ho.sl (fun _ _ => rfl) (by omega)) rfl (fun l' p' h => ?_) fun h => ?_
    · rw [hv] at h
      simp only [Option.some.injEq, Prod.mk.injEq] at h
      exact ⟨h.1, by omega⟩
    · rw [hv] at h; cases h

theorem specReadTimes_ret {s : List UInt8} (hs : Sm s) (n : Int) (H : Heap) : RetSl 1 encI 109 #[S s, .int .i64 n] H (readTimes s n).1 fun v => .tuple #[v, .int .i64 (readTimes s n).2] := by
  unfold RetSl
  refine Ret.go rfl Tryz.func109 rfl (by decide) (by simp [Tryz.ntmps109]) (by kernel_rfl) loc109 Tryz.results109 Tryz.ntmps109 ?_
  have hs2 := hs.lt
  have hs0 : Sl 1 encI (H.push [] 1) (some ⟨H.size, 0, none⟩) ([] : List Int) := (Ow.new (lo := 0) (Nat.zero_le _) [] rfl).sl (fun _ _ => rfl) (by decide)
  have hu0 : Upd no H (H.push [] 1) := (Upd_refl H).push _ 1
  have fail : ∀ K, Upd no (H.push [] 1) K → readTimes s n = ([], 0) → RS 1 encI H (readTimes s n).1 (fun v => Value.tuple #[v, .int .i64 (readTimes s n).2]) (.tuple #[.slice (some ⟨H.size, 0, none⟩) 0 0, .int .i64 0]) (gc H (.tuple #[.slice (some ⟨H.size, 0, none⟩) 0 0, .int .i64 0]) K) := fun K u e => by
    rw [e]
    exact RS.of (mk := fun v => .tuple #[v, .int .i64 0]) (hu0.then u) (hs0.pe (by decide) u.pe) (fun _ _ => rfl) rfl
  simp
  refine pendB (fun c0 => ?_) (fun c0 => ?_)
  · simp [c0]
    simp at c0
    exact fail _ (Upd_refl _) (by rw [readTimes, if_neg (by omega)])
  · simp [c0]
    simp at c0
    obtain ⟨m, rfl⟩ : ∃ m : Nat, n = m := ⟨n.toNat, by omega⟩
    refine mG_call (l7Vars_ret hs m (by omega) _) ?_
    rintro _ K ⟨av, v, k, rfl, hu, hsl, hv1, hv2⟩
    simp
    refine pendP (fun c1 => ?_) (fun c1 => ?_)
    · simp [c1]
      refine fail _ hu (readTimes_no fun l r h1 h2 h3 => ?_)
      have hv := varsAt_times h2 h3
      have : l.length = m := by omega
      rw [this] at hv
      have := (hv1 _ _ hv).2
      omega
    · have hvs : ∃ p, varsAt s 0 m = some (v, p) ∧ k = (p : Int) := by
        cases hq : varsAt s 0 m with
        | none => have := hv2 hq; omega
        | some x =>
          obtain ⟨v', p⟩ := x
          obtain ⟨rfl, rfl⟩ := hv1 v' p hq
          exact ⟨p, rfl, rfl⟩
      obtain ⟨p, hvs, rfl⟩ := hvs
      obtain ⟨hvl, _, hps⟩ := varsAt_len s 0 m v p hvs
      have hps := hps (Nat.zero_le _)
      have hvr := varsAt_rng s 0 m v p hvs
      subst hvl
      -- what would be shown so is read so
      have key : ∀ l r, (l.length : Int) = v.length → showTimes l ≠ [] → s = showTimes l ++ r → l.length = v.length ∧ p = (showTimes l).length ∧ ∀ i, i < v.length → gi v i = tv l i := fun l r h1 h2 h3 => by
        have hv := varsAt_times h2 h3
        have e : l.length = v.length := by omega
        rw [e, hvs] at hv
        simp only [Option.some.injEq, Prod.mk.injEq] at hv
        refine ⟨e, hv.2, fun i hi => ?_⟩
        conv => lhs; rw [hv.1]
        exact gi_map_range _ hi
      have hvr' : ∀ i, i < v.length → 0 ≤ gi v i ∧ gi v i ≤ maxVar := fun i hi => by rw [gi_get hi]; exact hvr _ (List.getElem_mem hi)
      have hm0 : 0 < v.length := by omega
      have hld := fun K' (hp : Pe K K') => ld_int hsl hp
      have hld0 := ld_int hsl (Pe.rfl' K) 0 hm0
      have hx := indexAddr_Sl (P := Tryz.prog) hsl ti72
      have hmx : maxTime = 1099511627776 := rfl
      have hmv : maxVar = 562949953421311 := rfl
      simp [c1, hx, hld0, hm0]
      refine mC_loop (fun j st => ∃ (e : Nat → Value) (loc : Nat → List Value) (g i : Nat) (K' : Heap) (a : Option Addr) (out : List Int), st = ⟨e, loc, g, K', 83⟩ ∧ Upd no K K' ∧ Ow K.size 1 encI K' a out ∧ out.length = i ∧ 0 < i ∧
          (∀ k, k < i → 0 ≤ gi out k ∧ gi out k ≤ maxVar) ∧ (∀ l r, (l.length : Int) = v.length → showTimes l ≠ [] → s = showTimes l ++ r → out = l.take i) ∧
          e 0 = S s ∧ e 1 = .int .i64 v.length ∧ e 6 = .slice (some ⟨H.size, 0, none⟩) 0 0 ∧ e 7 = .slice av v.length 0 ∧ e 8 = .int .i64 p ∧ e 9 = .slice a out.length 0 ∧ e 10 = .int .i64 i ∧ i + j = v.length) ?_ (j := v.length - 1)
        ⟨_, _, _, 1, _, _, [gi v 0], rfl, (Upd_refl K).push _ 1, Ow.new (Nat.le_refl _) [gi v 0] (by simp [encI]), rfl, by omega, ?_, ?_, by simp, by simp, by simp, by simp, by simp, by simp, by simp, by omega⟩
      · rintro j st ⟨e, loc, g, i, K', a, out, rfl, hu2, ho, hol, hi0, hob, hk, h0, h1, h6, h7, h8, h9, h10, hj⟩
        subst hol
        have hpe := hu2.pe
        simp [h0, h1, h6, h7, h8, h9, h10]
        refine pendP (fun c2 => ?_) (fun c2 => ?_)
        · have hso := ho.sl (fun _ _ => rfl) (by omega)
          have hxo := indexAddr_Sl (P := Tryz.prog) hso ti72
          have hlv := ld_int hsl hpe out.length c2
          have w1 : IntKind.i64.wrap ((out.length : Int) - 1) = ((out.length - 1 : Nat) : Int) := by rw [wrap_i64 (by omega) (by omega)]; omega
          have hl1 := ld_int hso (Pe.rfl' K') (out.length - 1) (by omega)
          have hi1 := wrap_nat (k := out.length) (by omega)
          have ap := append_one (P := Tryz.prog) ti72 ho (fun _ _ => rfl) (by omega) (by decide) un72
          have hb1 := hob (out.length - 1) (by omega)
          have hbv := hvr' out.length c2
          have hb2 : ∀ N : Int, (0 ≤ N ∧ N ≤ maxTime) → ∀ k, k < out.length + 1 → 0 ≤ gi (out ++ [N]) k ∧ gi (out ++ [N]) k ≤ maxVar := fun N hr k hk => by
            by_cases hk' : k < out.length
            · rw [gi_left hk']; exact hob k hk'
            · obtain rfl : k = out.length := by omega
              rw [gi_snoc]; omega
          by_cases c3 : out.length = 1
          · have c3' : ¬ (1 : Int) < out.length := by omega
            obtain ⟨N, hNe⟩ : ∃ N, N = gi out (out.length - 1) + gi v out.length := ⟨_, rfl⟩
            have w2 : IntKind.i64.wrap (gi out (out.length - 1) + gi v out.length) = N := by rw [hNe]; exact wrap_i64 (by omega) (by omega)
            have hN' : ∀ l r, (l.length : Int) = v.length → showTimes l ≠ [] → s = showTimes l ++ r → N = gi l out.length := fun l r h1 h2 h3 => by
              obtain ⟨e1, _, hkv⟩ := key l r h1 h2 h3
              have ho2 := hk l r h1 h2 h3
              have hg : ∀ k, k < out.length → gi out k = gi l k := fun k hk => by
                conv => lhs; rw [ho2]
                exact gi_take (by omega)
              rw [hNe, hkv _ c2, hg _ (by omega), tv, if_neg (by omega), if_pos c3, c3]
              simp
              omega
            have hN : ∀ l r, (l.length : Int) = v.length → showTimes l ≠ [] → s = showTimes l ++ r → 0 ≤ N ∧ N ≤ maxTime := fun l r h1 h2 h3 => by
              rw [hN' l r h1 h2 h3]
              obtain ⟨e1, _, _⟩ := key l r h1 h2 h3
              exact ((tok1_iff l _).1 (tokN_at l (showTimes_ne h2).1 (by omega))).1
            have hob' := hb2 N
            have hk' : (0 ≤ N ∧ N ≤ maxTime) → ∀ l r, (l.length : Int) = v.length → showTimes l ≠ [] → s = showTimes l ++ r → out ++ [N] = l.take (out.length + 1) := fun _ l r h1 h2 h3 => by
              obtain ⟨e1, _, _⟩ := key l r h1 h2 h3
              rw [take_succ_gi (by omega), ← hk l r h1 h2 h3, hN' l r h1 h2 h3]
            by_cases hr : 0 ≤ N ∧ N ≤ maxTime
            · have hr2 : 0 ≤ N ∧ N ≤ 1099511627776 := hr
              simp (maxDischargeDepth := 4) [h0, h1, h6, h7, h8, h9, h10, c2, c3', hlv, hx, hxo, w1, hl1, w2, hi1, show out.length - 1 < out.length by omega, hr2, ap]
              obtain ⟨p1, p2⟩ := ow_int hu2 (Nat.le_refl _) hu2.size ho N
              exact again_intro (j - 1) (by omega) ⟨_, _, _, out.length + 1, _, _, out ++ [N], rfl, p1, p2, by simp, by omega, hob' hr, hk' hr, by simp [h0], by simp [h1], by simp [h6], by simp [h7], by simp [h8], by simp, by simp, by omega⟩
            · have hr2 : (decide (0 ≤ N) && decide (N ≤ 1099511627776)) = false := by
                rw [hmx] at hr
                rw [← Bool.not_eq_true, Bool.and_eq_true, decide_eq_true_iff, decide_eq_true_iff]
                exact hr
              simp (maxDischargeDepth := 4) [h0, h1, h6, h7, h8, h9, h10, c2, c3', hlv, hx, hxo, w1, hl1, w2, hi1, show out.length - 1 < out.length by omega, hr2]
              exact fail _ (hu.then hu2) (readTimes_no fun l r h1 h2 h3 => hr (hN l r h1 h2 h3))
          · have c3' : (1 : Int) < out.length := by omega
            have w3 : IntKind.i64.wrap ((out.length : Int) - 2) = ((out.length - 2 : Nat) : Int) := by rw [wrap_i64 (by omega) (by omega)]; omega
            have hl2 := ld_int hso (Pe.rfl' K') (out.length - 2) (by omega)
            have hb3 := hob (out.length - 2) (by omega)
            have hz : -maxZig ≤ (unZig (gi v out.length)).1 ∧ (unZig (gi v out.length)).1 ≤ maxZig := by
              unfold unZig maxZig
              repeat' split
              all_goals simp <;> omega
            have hmz : maxZig = 140737488355328 := rfl
            obtain ⟨N, hNe⟩ : ∃ N, N = gi out (out.length - 1) + (gi out (out.length - 1) - gi out (out.length - 2) + (unZig (gi v out.length)).1) := ⟨_, rfl⟩
            have w4 : IntKind.i64.wrap (gi out (out.length - 1) - gi out (out.length - 2)) = gi out (out.length - 1) - gi out (out.length - 2) := wrap_i64 (by omega) (by omega)
            have w5 : IntKind.i64.wrap (gi out (out.length - 1) - gi out (out.length - 2) + (unZig (gi v out.length)).1) = gi out (out.length - 1) - gi out (out.length - 2) + (unZig (gi v out.length)).1 := wrap_i64 (by omega) (by omega)
            have w2 : IntKind.i64.wrap (gi out (out.length - 1) + (gi out (out.length - 1) - gi out (out.length - 2) + (unZig (gi v out.length)).1)) = N := by rw [hNe]; exact wrap_i64 (by omega) (by omega)
            have hN' : ∀ l r, (l.length : Int) = v.length → showTimes l ≠ [] → s = showTimes l ++ r → N = gi l out.length := fun l r h1 h2 h3 => by
              obtain ⟨e1, _, hkv⟩ := key l r h1 h2 h3
              have ho2 := hk l r h1 h2 h3
              have hg : ∀ k, k < out.length → gi out k = gi l k := fun k hk => by
                conv => lhs; rw [ho2]
                exact gi_take (by omega)
              have q0 := (tok1_iff l out.length).1 (tokN_at l (showTimes_ne h2).1 (by omega))
              have q1 := (tok1_iff l (out.length - 1)).1 (tokN_at l (showTimes_ne h2).1 (by omega))
              have q2 := (tok1_iff l (out.length - 2)).1 (tokN_at l (showTimes_ne h2).1 (by omega))
              rw [hNe, hkv _ c2, hg _ (by omega), hg _ (by omega), tv, if_neg (by omega), if_neg c3, unZig_zigZag (by omega)]
              simp
              omega
            have hN : ∀ l r, (l.length : Int) = v.length → showTimes l ≠ [] → s = showTimes l ++ r → 0 ≤ N ∧ N ≤ maxTime := fun l r h1 h2 h3 => by
              rw [hN' l r h1 h2 h3]
              obtain ⟨e1, _, _⟩ := key l r h1 h2 h3
              exact ((tok1_iff l _).1 (tokN_at l (showTimes_ne h2).1 (by omega))).1
            have hob' := hb2 N
            have hk' : (0 ≤ N ∧ N ≤ maxTime) → ∀ l r, (l.length : Int) = v.length → showTimes l ≠ [] → s = showTimes l ++ r → out ++ [N] = l.take (out.length + 1) := fun _ l r h1 h2 h3 => by
              obtain ⟨e1, _, _⟩ := key l r h1 h2 h3
              rw [take_succ_gi (by omega), ← hk l r h1 h2 h3, hN' l r h1 h2 h3]
            by_cases hr : 0 ≤ N ∧ N ≤ maxTime
            · have hr2 : 0 ≤ N ∧ N ≤ 1099511627776 := hr
              simp (maxDischargeDepth := 4) [h0, h1, h6, h7, h8, h9, h10, c2, c3', hlv, hx, hxo, w1, hl1, hl2, w2, w3, w4, w5, hi1, show out.length - 1 < out.length by omega, show out.length - 2 < out.length by omega, hr2, ap]
              obtain ⟨p1, p2⟩ := ow_int hu2 (Nat.le_refl _) hu2.size ho N
              exact again_intro (j - 1) (by omega) ⟨_, _, _, out.length + 1, _, _, out ++ [N], rfl, p1, p2, by simp, by omega, hob' hr, hk' hr, by simp [h0], by simp [h1], by simp [h6], by simp [h7], by simp [h8], by simp, by simp, by omega⟩
            · have hr2 : (decide (0 ≤ N) && decide (N ≤ 1099511627776)) = false := by
                rw [hmx] at hr
                rw [← Bool.not_eq_true, Bool.and_eq_true, decide_eq_true_iff, decide_eq_true_iff]
                exact hr
              simp (maxDischargeDepth := 4) [h0, h1, h6, h7, h8, h9, h10, c2, c3', hlv, hx, hxo, w1, hl1, hl2, w2, w3, w4, w5, hi1, show out.length - 1 < out.length by omega, show out.length - 2 < out.length by omega, hr2]
              exact fail _ (hu.then hu2) (readTimes_no fun l r h1 h2 h3 => hr (hN l r h1 h2 h3))
        · have hso := ho.sl (fun _ _ => rfl) (by omega)
          have hst := specShowTimes_eq hso
          have hpl : (p : Int) ≤ s.length := by omega
          have hjl : out.length = v.length := by omega
          have hpp := varsAt_pos s 0 _ v p hvs
          simp [h0, h1, h6, h7, h8, h9, h10, c2, hst, hpl]
          refine pendB (fun c3 => ?_) (fun c3 => ?_)
          · simp at c3
            simp [h0, h1, h6, h7, h8, h9, h10, c3]
            refine fail _ (hu.then hu2) (readTimes_no fun l r h1 h2 h3 => c3 ?_)
            obtain ⟨e1, e2, _⟩ := key l r h1 h2 h3
            have e3 : out = l := by rw [hk l r h1 h2 h3, hjl, ← e1, List.take_length]
            rw [e3, e2]
            conv => rhs; rw [h3]
            simp
          · simp at c3
            simp [h0, h1, h6, h7, h8, h9, h10, c3]
            have hne : showTimes out ≠ [] := by
              rw [c3]
              intro hh
              have := congrArg List.length hh
              rw [List.length_take, List.length_nil] at this
              omega
            have hlen : (showTimes out).length = p := by rw [c3, List.length_take]; omega
            have hrd := readTimes_of (s := s) (r := s.drop p) hne (by rw [c3, List.take_append_drop])
            rw [hjl] at hrd
            rw [hrd, hlen]
            exact RS.of (mk := fun v => .tuple #[v, .int .i64 p]) ((hu0.then hu).then hu2) hso (fun _ _ => rfl) rfl
      · intro k hk
        obtain rfl : k = 0 := by omega
        exact hvr' 0 hm0
      · intro l r h1 h2 h3
        obtain ⟨e, _, hk⟩ := key l r h1 h2 h3
        rw [take_succ_gi (by omega), hk 0 hm0]
        simp [tv]

theorem specReadValues_ret {s : List UInt8} (hs : Sm s) (n : Int) (H : Heap) : RetSl 1 encI 110 #[S s, .int .i64 n] H (readValues s n).1 fun v => .tuple #[v, .int .i64 (readValues s n).2] := by
  unfold RetSl
  refine Ret.go rfl Tryz.func110 rfl (by decide) (by simp [Tryz.ntmps110]) (by kernel_rfl) loc110 Tryz.results110 Tryz.ntmps110 ?_
  have hs2 := hs.lt
  have hs0 : Sl 1 encI (H.push [] 1) (some ⟨H.size, 0, none⟩) ([] : List Int) := (Ow.new (lo := 0) (Nat.zero_le _) [] rfl).sl (fun _ _ => rfl) (by decide)
  have hu0 : Upd no H (H.push [] 1) := (Upd_refl H).push _ 1
  have fail : ∀ K, Upd no (H.push [] 1) K → readValues s n = ([], 0) → RS 1 encI H (readValues s n).1 (fun v => Value.tuple #[v, .int .i64 (readValues s n).2]) (.tuple #[.slice (some ⟨H.size, 0, none⟩) 0 0, .int .i64 0]) (gc H (.tuple #[.slice (some ⟨H.size, 0, none⟩) 0 0, .int .i64 0]) K) := fun K u e => by
    rw [e]
    exact RS.of (mk := fun v => .tuple #[v, .int .i64 0]) (hu0.then u) (hs0.pe (by decide) u.pe) (fun _ _ => rfl) rfl
  simp
  refine pendB (fun c0 => ?_) (fun c0 => ?_)
  · simp [c0]
    simp at c0
    exact fail _ (Upd_refl _) (by rw [readValues, if_neg (by omega)])
  · simp [c0]
    simp at c0
    obtain ⟨m, rfl⟩ : ∃ m : Nat, n = m := ⟨n.toNat, by omega⟩
    refine mG_call (l7Vars_ret hs m (by omega) _) ?_
    rintro _ K ⟨av, v, k, rfl, hu, hsl, hv1, hv2⟩
    simp
    refine pendP (fun c1 => ?_) (fun c1 => ?_)
    · simp [c1]
      refine fail _ hu (readValues_no fun l r h1 h2 h3 => ?_)
      have hv := varsAt_values h2 h3
      have : l.length = m := by omega
      rw [this] at hv
      have := (hv1 _ _ hv).2
      omega
    · have hvs : ∃ p, varsAt s 0 m = some (v, p) ∧ k = (p : Int) := by
        cases hq : varsAt s 0 m with
        | none => have := hv2 hq; omega
        | some x =>
          obtain ⟨v', p⟩ := x
          obtain ⟨rfl, rfl⟩ := hv1 v' p hq
          exact ⟨p, rfl, rfl⟩
      obtain ⟨p, hvs, rfl⟩ := hvs
      obtain ⟨hvl, _, hps⟩ := varsAt_len s 0 m v p hvs
      have hps := hps (Nat.zero_le _)
      have hvr := varsAt_rng s 0 m v p hvs
      subst hvl
      -- what would be shown so is read so
      have key : ∀ l r, (l.length : Int) = v.length → showValues l ≠ [] → s = showValues l ++ r → l.length = v.length ∧ p = (showValues l).length ∧ ∀ i, i < v.length → gi v i = vv l i := fun l r h1 h2 h3 => by
        have hv := varsAt_values h2 h3
        have e : l.length = v.length := by omega
        rw [e, hvs] at hv
        simp only [Option.some.injEq, Prod.mk.injEq] at hv
        refine ⟨e, hv.2, fun i hi => ?_⟩
        conv => lhs; rw [hv.1]
        exact gi_map_range _ hi
      have hvr' : ∀ i, i < v.length → 0 ≤ gi v i ∧ gi v i ≤ maxVar := fun i hi => by rw [gi_get hi]; exact hvr _ (List.getElem_mem hi)
      have hm0 : 0 < v.length := by omega
      have hld := fun K' (hp : Pe K K') => ld_int hsl hp
      have hld0 := ld_int hsl (Pe.rfl' K) 0 hm0
      have hx := indexAddr_Sl (P := Tryz.prog) hsl ti72
      have hmx : maxTime = 1099511627776 := rfl
      have hmv : maxVar = 562949953421311 := rfl
      simp [c1]
      refine mC_loop (fun j st => ∃ (e : Nat → Value) (loc : Nat → List Value) (g i : Nat) (K' : Heap) (a : Option Addr) (out : List Int) (q : Int), st = ⟨e, loc, g, K', 56⟩ ∧ Upd no K K' ∧ Ow K.size 1 encI K' a out ∧ out.length = i ∧
          -maxTime ≤ q ∧ q ≤ maxTime ∧ (∀ l r, (l.length : Int) = v.length → showValues l ≠ [] → s = showValues l ++ r → out = l.take i ∧ q = if i = 0 then 0 else gi l (i - 1)) ∧
          e 0 = S s ∧ e 1 = .int .i64 v.length ∧ e 6 = .slice (some ⟨H.size, 0, none⟩) 0 0 ∧ e 7 = .slice av v.length 0 ∧ e 8 = .int .i64 p ∧ e 9 = .slice a out.length 0 ∧ e 10 = .int .i64 q ∧ e 11 = .int .i64 i ∧ i + j = v.length) ?_ (j := v.length)
        ⟨_, _, _, 0, _, _, [], 0, rfl, (Upd_refl K).push _ 1, Ow.new (Nat.le_refl _) [] rfl, rfl, by omega, by omega, fun l r h1 h2 h3 => by simp, by simp, by simp, by simp, by simp, by simp, by simp, by simp, by simp, by omega⟩
      rintro j st ⟨e, loc, g, i, K', a, out, q, rfl, hu2, ho, hol, hq1, hq2, hk, h0, h1, h6, h7, h8, h9, h10, h11, hj⟩
      subst hol
      have hpe := hu2.pe
      simp [h0, h1, h6, h7, h8, h9, h10, h11]
      refine pendP (fun c2 => ?_) (fun c2 => ?_)
      · have hlv := ld_int hsl hpe out.length c2
        have hi1 := wrap_nat (k := out.length) (by omega)
        have ap := append_one (P := Tryz.prog) ti72 ho (fun _ _ => rfl) (by omega) (by decide) un72
        have hbv := hvr' out.length c2
        have hz : -maxZig ≤ (unZig (gi v out.length)).1 ∧ (unZig (gi v out.length)).1 ≤ maxZig := by
          unfold unZig maxZig
          repeat' split
          all_goals simp <;> omega
        have hmz : maxZig = 140737488355328 := rfl
        obtain ⟨N, hNe⟩ : ∃ N, N = q + (unZig (gi v out.length)).1 := ⟨_, rfl⟩
        have w2 : IntKind.i64.wrap (q + (unZig (gi v out.length)).1) = N := by rw [hNe]; exact wrap_i64 (by omega) (by omega)
        have hN' : ∀ l r, (l.length : Int) = v.length → showValues l ≠ [] → s = showValues l ++ r → N = gi l out.length := fun l r h1 h2 h3 => by
          obtain ⟨e1, _, hkv⟩ := key l r h1 h2 h3
          obtain ⟨_, e3⟩ := hk l r h1 h2 h3
          have q0 := (vok1_iff l out.length).1 (vokN_at l (showValues_ne h2).1 (by omega))
          rw [hNe, hkv _ c2, vv, ← e3, unZig_zigZag (by omega)]
          simp
          omega
        have hN : ∀ l r, (l.length : Int) = v.length → showValues l ≠ [] → s = showValues l ++ r → -maxTime ≤ N ∧ N ≤ maxTime := fun l r h1 h2 h3 => by
          rw [hN' l r h1 h2 h3]
          obtain ⟨e1, _, _⟩ := key l r h1 h2 h3
          exact (vok1_iff l _).1 (vokN_at l (showValues_ne h2).1 (by omega))
        have hk' : ∀ l r, (l.length : Int) = v.length → showValues l ≠ [] → s = showValues l ++ r → out ++ [N] = l.take (out.length + 1) ∧ N = if out.length + 1 = 0 then 0 else gi l (out.length + 1 - 1) := fun l r h1 h2 h3 => by
          obtain ⟨e1, _, _⟩ := key l r h1 h2 h3
          refine ⟨by rw [take_succ_gi (by omega), ← (hk l r h1 h2 h3).1, hN' l r h1 h2 h3], ?_⟩
          rw [if_neg (by omega), hN' l r h1 h2 h3]
          rfl
        by_cases hr : -maxTime ≤ N ∧ N ≤ maxTime
        · have hr2 : -1099511627776 ≤ N ∧ N ≤ 1099511627776 := hr
          simp (maxDischargeDepth := 4) [h0, h1, h6, h7, h8, h9, h10, h11, c2, hlv, hx, w2, hi1, hr2, ap]
          obtain ⟨p1, p2⟩ := ow_int hu2 (Nat.le_refl _) hu2.size ho N
          exact again_intro (j - 1) (by omega) ⟨_, _, _, out.length + 1, _, _, out ++ [N], N, rfl, p1, p2, by simp, hr.1, hr.2, hk', by simp [h0], by simp [h1], by simp [h6], by simp [h7], by simp [h8], by simp, by simp, by simp, by omega⟩
        · have hr2 : (decide (-1099511627776 ≤ N) && decide (N ≤ 1099511627776)) = false := by
            rw [hmx] at hr
            rw [← Bool.not_eq_true, Bool.and_eq_true, decide_eq_true_iff, decide_eq_true_iff]
            exact hr
          simp (maxDischargeDepth := 4) [h0, h1, h6, h7, h8, h9, h10, h11, c2, hlv, hx, w2, hi1, hr2]
          exact fail _ (hu.then hu2) (readValues_no fun l r h1 h2 h3 => hr (hN l r h1 h2 h3))
      · have hso := ho.sl (fun _ _ => rfl) (by omega)
        have hst := specShowValues_eq hso
        have hpl : (p : Int) ≤ s.length := by omega
        have hjl : out.length = v.length := by omega
        have hpp := varsAt_pos s 0 _ v p hvs
        simp [h0, h1, h6, h7, h8, h9, h10, h11, c2, hst, hpl]
        refine pendB (fun c3 => ?_) (fun c3 => ?_)
        · simp at c3
          simp [h0, h1, h6, h7, h8, h9, h10, h11, c3]
          refine fail _ (hu.then hu2) (readValues_no fun l r h1 h2 h3 => c3 ?_)
          obtain ⟨e1, e2, _⟩ := key l r h1 h2 h3
          have e3 : out = l := by rw [(hk l r h1 h2 h3).1, hjl, ← e1, List.take_length]
          rw [e3, e2]
          conv => rhs; rw [h3]
          simp
        · simp at c3
          simp [h0, h1, h6, h7, h8, h9, h10, h11, c3]
          have hne : showValues out ≠ [] := by
            rw [c3]
            intro hh
            have := congrArg List.length hh
            rw [List.length_take, List.length_nil] at this
            omega
          have hlen : (showValues out).length = p := by rw [c3, List.length_take]; omega
          have hrd := readValues_of (s := s) (r := s.drop p) hne (by rw [c3, List.take_append_drop])
          rw [hjl] at hrd
          rw [hrd, hlen]
          exact RS.of (mk := fun v => .tuple #[v, .int .i64 p]) ((hu0.then hu).then hu2) hso (fun _ _ => rfl) rfl
end Go.Abs

/-
  PLAIN LAWS: blocks of points.
-/
namespace Go.Abs
open Go
set_option linter.unusedSimpArgs false

abbrev Pt := Int × Int
def ts (l : List Pt) : List Int := l.map (·.1)
def vs (l : List Pt) : List Int := l.map (·.2)
@[simp] theorem ts_length (l : List Pt) : (ts l).length = l.length := by simp [ts]
@[simp] theorem vs_length (l : List Pt) : (vs l).length = l.length := by simp [vs]
theorem ts_get {l : List Pt} {i : Nat} (h : i < l.length) : gi (ts l) i = l[i].1 := by simp [gi, ts, h]
theorem vs_get {l : List Pt} {i : Nat} (h : i < l.length) : gi (vs l) i = l[i].2 := by simp [gi, vs, h]
def ptsOk (l : List Pt) : Bool := decide (l.length ≤ 60) && (tokN (ts l) l.length && vokN (vs l) l.length)
def showBlock (l : List Pt) : List UInt8 := if ptsOk l = true ∧ l ≠ [] then frame (var l.length ++ (showTimes (ts l) ++ showValues (vs l))) else []

def readBlock (s : List UInt8) : List Pt × Bool :=
  let b := (unframe s).1
  let n := (readVar b).1
  let k := (readVar b).2
  if (unframe s).2.2 ≠ 0 ∨ k = 0 then ([], false) else
  let t := readTimes (b.drop k) n
  let v := readValues (b.drop (k + t.2)) n
  if t.1.length ≠ n ∨ v.1.length ≠ n then ([], false) else
  if showBlock (t.1.zip v.1) ≠ s then ([], false) else (t.1.zip v.1, true)

theorem ptsOk_iff (l : List Pt) : ptsOk l = true ↔ l.length ≤ 60 ∧ tokN (ts l) l.length = true ∧ vokN (vs l) l.length = true := by
  unfold ptsOk
  rw [Bool.and_eq_true, Bool.and_eq_true, decide_eq_true_iff]
theorem showBlock_len (l : List Pt) : (showBlock l).length ≤ 2014 := by
  unfold showBlock
  split
  · exact frame_len _
  · simp

theorem unframe_frame {b : List UInt8} (h1 : 1 ≤ b.length) (h2 : b.length ≤ 2000) : unframe (frame b) = (b, (b.length : Int) + 8, 0) ∧ (frame b).length = b.length + 8 := by
  have e1 : fixed b.length 4 = be 4 b.length := be_fixed4 (by omega)
  have hc : crc (be 4 b.length ++ b) < 256 ^ 4 := by
    have : crc (be 4 b.length ++ b) ≤ 4294967295 := by unfold crc; omega
    omega
  have e2 : fixed (crc (be 4 b.length ++ b)) 4 = be 4 (crc (be 4 b.length ++ b)) := be_fixed4 hc
  have hf : frame b = be 4 b.length ++ (be 4 (crc (be 4 b.length ++ b)) ++ b) := by
    unfold frame
    rw [if_pos ⟨h1, h2⟩, e1, e2]
  have hl : (frame b).length = b.length + 8 := by
    rw [hf]
    simp [be_length]
    omega
  refine ⟨?_, hl⟩
  have ht : (frame b).take 4 = be 4 b.length := by
    rw [hf, List.take_append_of_le_length (by rw [be_length]; omega), List.take_of_length_le (by rw [be_length]; omega)]
  have hr : readBE ((frame b).take 4) 0 = b.length := by
    rw [ht, readBE_be 4 _ 0 (by omega)]
    omega
  unfold unframe
  rw [if_pos (by rw [hl]; omega), hr]
  simp only
  rw [if_pos ⟨h1, h2⟩, if_neg (by rw [hl]; omega)]
  have ht2 : (frame b).take (b.length + 8) = frame b := List.take_of_length_le (by rw [hl]; omega)
  have hd : (frame b).drop 8 = b := by
    rw [hf, ← List.append_assoc]
    exact List.drop_left' (by simp [be_length])
  rw [ht2, hd, if_pos rfl]

theorem unframe_ok {s : List UInt8} (h : (unframe s).2.2 = 0) : 1 ≤ (unframe s).1.length ∧ (unframe s).1.length ≤ 2000 ∧ (unframe s).2.1 = ((unframe s).1.length : Int) + 8 ∧ s.take ((unframe s).1.length + 8) = frame (unframe s).1 ∧ (unframe s).1.length + 8 ≤ s.length := by
  unfold unframe at h ⊢
  split at h
  · rename_i h4
    simp only at h
    split at h
    · rename_i hn
      split at h
      · cases h
      · rename_i hs
        split at h
        · rename_i hf
          simp only [if_pos h4, if_pos hn, if_neg hs, if_pos hf]
          have hl : ((s.take (readBE (s.take 4) 0 + 8)).drop 8).length = readBE (s.take 4) 0 := by simp; omega
          rw [hl]
          exact ⟨hn.1, hn.2, rfl, hf.symm, by omega⟩
        · cases h
    · cases h
  · cases h

theorem zip_map (l : List Pt) : (ts l).zip (vs l) = l := by
  induction l with
  | nil => rfl
  | cons p r ih =>
    simp only [ts, vs, List.map_cons, List.zip_cons_cons] at ih ⊢
    rw [ih]
theorem ts_zip {a b : List Int} (h : a.length = b.length) : ts (a.zip b) = a := by
  unfold ts
  rw [List.map_fst_zip]
  omega
theorem vs_zip {a b : List Int} (h : a.length = b.length) : vs (a.zip b) = b := by
  unfold vs
  rw [List.map_snd_zip]
  omega

theorem showTimes_ok {l : List Int} (h : tokN l l.length = true) (h1 : 1 ≤ l.length) (h2 : l.length ≤ 60) : showTimes l = traw l l.length ∧ showTimes l ≠ [] := by
  have e : showTimes l = traw l l.length := if_pos ⟨h, h1, h2⟩
  refine ⟨e, ?_⟩
  rw [e, traw_raw]
  obtain ⟨w, hw⟩ := rawOf_split (tv l) l.length 0 (by omega)
  rw [hw]
  intro hh
  have h3 := tv_rng h (i := 0) (by omega)
  simp only [rawOf, List.nil_append, List.append_eq_nil_iff] at hh
  exact absurd h3 ((var_nil _).1 hh.1)
theorem showValues_ok {l : List Int} (h : vokN l l.length = true) (h1 : 1 ≤ l.length) (h2 : l.length ≤ 60) : showValues l = vraw l l.length ∧ showValues l ≠ [] := by
  have e : showValues l = vraw l l.length := if_pos ⟨h, h1, h2⟩
  refine ⟨e, ?_⟩
  rw [e, vraw_raw]
  obtain ⟨w, hw⟩ := rawOf_split (vv l) l.length 0 (by omega)
  rw [hw]
  intro hh
  have h3 := vv_rng h (i := 0) (by omega)
  simp only [rawOf, List.nil_append, List.append_eq_nil_iff] at hh
  exact absurd h3 ((var_nil _).1 hh.1)

/-- The parts of a block. -/
theorem block_parts {l : List Pt} (h : ptsOk l = true) (hne : l ≠ []) : ∃ b, showBlock l = frame b ∧ 1 ≤ b.length ∧ b.length ≤ 2000 ∧ b = var l.length ++ (showTimes (ts l) ++ showValues (vs l)) ∧ showTimes (ts l) ≠ [] ∧ showValues (vs l) ≠ [] ∧
    readVar b = (l.length, (var l.length).length) ∧ 0 < (var l.length).length := by
  obtain ⟨h1, h2, h3⟩ := (ptsOk_iff l).1 h
  have h0 : 0 < l.length := List.length_pos_iff.2 hne
  have t := showTimes_ok (l := ts l) (by simpa using h2) (by rw [ts_length]; omega) (by simpa using h1)
  have v := showValues_ok (l := vs l) (by simpa using h3) (by rw [vs_length]; omega) (by simpa using h1)
  have hv : (0 : Int) ≤ l.length ∧ (l.length : Int) ≤ maxVar := by unfold maxVar; omega
  have hl : 0 < (var l.length).length := List.length_pos_iff.2 fun hh => absurd hv ((var_nil _).1 hh)
  refine ⟨_, by rw [showBlock, if_pos ⟨h, hne⟩], ?_, ?_, rfl, t.2, v.2, ?_, hl⟩
  · simp; omega
  · have := var_len l.length
    have := showTimes_len (ts l)
    have := showValues_len (vs l)
    simp; omega
  · rw [readVar_var hv]
    simp

theorem readBlock_show {l : List Pt} (h : ptsOk l = true) (hne : l ≠ []) : readBlock (showBlock l) = (l, true) := by
  obtain ⟨b, e1, b1, b2, e2, ht, hv, hr, hk⟩ := block_parts h hne
  obtain ⟨u, _⟩ := unframe_frame b1 b2
  unfold readBlock
  rw [e1, u]
  simp only [hr]
  rw [if_neg (by simp; exact List.length_pos_iff.1 hk)]
  have hd : b.drop (var l.length).length = showTimes (ts l) ++ showValues (vs l) := by
    rw [e2]; exact List.drop_left' rfl
  have q1 := readTimes_of (s := b.drop (var l.length).length) ht hd
  rw [ts_length] at q1
  have hd2 : b.drop ((var l.length).length + (showTimes (ts l)).length) = showValues (vs l) ++ [] := by
    rw [← List.drop_drop, hd, List.append_nil]; exact List.drop_left' rfl
  have q2 := readValues_of (s := b.drop ((var l.length).length + (showTimes (ts l)).length)) hv hd2
  rw [vs_length] at q2
  rw [q1]
  simp only [q2]
  rw [if_neg (by simp), zip_map, ← e1, if_neg (by simp)]
theorem readBlock_true {s : List UInt8} {l : List Pt} (h : readBlock s = (l, true)) : showBlock l = s ∧ s ≠ [] := by
  unfold readBlock at h
  simp only at h
  split at h
  · cases h
  · rename_i h1
    split at h
    · cases h
    · split at h
      · cases h
      · rename_i h3
        simp only [Prod.mk.injEq, and_true] at h
        rw [h] at h3
        have h0 := unframe_ok (s := s) (by simp only [ne_eq, not_or, Decidable.not_not] at h1; exact h1.1)
        refine ⟨Decidable.not_not.1 h3, fun hh => ?_⟩
        have := h0.2.2.2.2
        rw [hh] at this
        simp at this
theorem showBlock_ne {l : List Pt} (h : showBlock l ≠ []) : ptsOk l = true ∧ l ≠ [] := by
  unfold showBlock at h
  split at h
  · rename_i hc; exact hc
  · exact absurd rfl h
theorem readBlock_iff {s : List UInt8} {l : List Pt} : readBlock s = (l, true) ↔ showBlock l = s ∧ s ≠ [] := by
  constructor
  · exact readBlock_true
  · rintro ⟨rfl, hs⟩
    obtain ⟨h1, h2⟩ := showBlock_ne hs
    exact readBlock_show h1 h2
theorem readBlock_false {s : List UInt8} (h : (readBlock s).2 = false) : readBlock s = ([], false) := by
  unfold readBlock at h ⊢
  simp only at h ⊢
  repeat' split
  all_goals first | rfl | skip
  all_goals simp_all
theorem unframe_bad {s : List UInt8} (h : (unframe s).2.2 ≠ 0) : (unframe s).1 = [] := by
  unfold unframe at h ⊢
  split
  · rename_i h4
    simp only [if_pos h4] at h ⊢
    split
    · rename_i h5
      simp only [if_pos h5] at h
      split
      · rfl
      · rename_i h6
        simp only [if_neg h6] at h
        split
        · rename_i h7
          simp only [if_pos h7] at h
          exact absurd rfl h
        · rfl
    · rfl
  · rfl
end Go.Abs

/-
  CONTRACTS: blocks of points.
-/
namespace Go.Abs
open Go Go.Proofs
set_option linter.unusedSimpArgs false
attribute [local simp] fieldAddr build fillL

def encPt (p : Pt) : List Value := [.int .i64 p.1, .int .i64 p.2]
@[simp] theorem encPt_len (p : Pt) : (encPt p).length = 2 := rfl

section
variable {H K : Heap} {a : Option Addr} {l : List Pt} (hl : Sl 2 encPt H a l) (hp : Pe H K) (k : Nat) (hk : k < l.length) (e : Nat → Value) (loc : Nat → List Value) (g n : Nat)
include hl hp hk
theorem ld_T : (St.mk e loc g K n).cellsAt (el a 2 k 0) 1 = some [.int .i64 (gi (ts l) k)] := by
  rw [hl.ld hp (by decide) k 0 1 hk (by decide), ts_get hk]
  simp [encPt]
theorem ld_V : (St.mk e loc g K n).cellsAt (el a 2 k 1) 1 = some [.int .i64 (gi (vs l) k)] := by
  rw [hl.ld hp (by decide) k 1 1 hk (by decide), vs_get hk]
  simp [encPt]
theorem ld_P : (St.mk e loc g K n).cellsAt (el a 2 k 0) 2 = some [.int .i64 (gi (ts l) k), .int .i64 (gi (vs l) k)] := by
  rw [hl.ld hp (by decide) k 0 2 hk (by decide), ts_get hk, vs_get hk]
  simp [encPt]
end
theorem at_1 {H : Heap} {a : Option Addr} {l : List Pt} (hl : Sl 2 encPt H a l) (k : Nat) (hk : k < l.length) : atOff (el a 2 k 0) 0 = some (el a 2 k 0) ∧ atOff (el a 2 k 0) 1 = some (el a 2 k 1) :=
  ⟨hl.at_ k 0 0 hk, hl.at_ k 0 1 hk⟩

def ptOkN (l : List Pt) (i : Nat) : Bool := tokN (ts l) i && vokN (vs l) i
theorem ptOkN_succ (l : List Pt) (i : Nat) : ptOkN l (i + 1) = (ptOkN l i && (tok1 (ts l) i && vok1 (vs l) i)) := by
  unfold ptOkN
  rw [tokN, vokN]
  cases tokN (ts l) i <;> cases vokN (vs l) i <;> cases tok1 (ts l) i <;> cases vok1 (vs l) i <;> rfl
theorem ptOkN_at {l : List Pt} {n i : Nat} (h : ptOkN l n = true) (hi : i < n) : tok1 (ts l) i = true ∧ vok1 (vs l) i = true := by
  unfold ptOkN at h
  rw [Bool.and_eq_true] at h
  exact ⟨tokN_at _ h.1 hi, vokN_at _ h.2 hi⟩
theorem ptOk_no {l : List Pt} {i : Nat} (hi : i < l.length) (h : ¬ (tok1 (ts l) i = true ∧ vok1 (vs l) i = true)) : ptsOk l = false := by
  rw [← Bool.not_eq_true]
  intro hh
  obtain ⟨_, h1, h2⟩ := (ptsOk_iff l).1 hh
  exact h ⟨tokN_at _ h1 hi, vokN_at _ h2 hi⟩

set_option maxHeartbeats 400000 in
theorem pointsOk_eq {H : Heap} {a : Option Addr} {l : List Pt} (hl : Sl 2 encPt H a l) : evF Tryz.prog TT 99 #[.slice a l.length 0] H = some (.bool (ptsOk l), H) := by
  refine Ret.eq ?_
  refine Ret.go rfl Tryz.func99 rfl (by decide) (by simp [Tryz.ntmps99]) (by kernel_rfl) loc99 Tryz.results99 Tryz.ntmps99 ?_
  have hlen := hl.1
  have hx := indexAddr_Sl (P := Tryz.prog) hl ti84
  have hmx : maxTime = 1099511627776 := rfl
  simp
  refine mC_loop (fun j st => ∃ (e : Nat → Value) (loc : Nat → List Value) (g i : Nat), st = ⟨e, loc, g, H, 41⟩ ∧ e 0 = .slice a l.length 0 ∧ e 5 = .slice a l.length 0 ∧ e 6 = .int .i64 l.length ∧ e 7 = .int .i64 i ∧ ptOkN l i = true ∧ i + j = l.length) ?_ (j := l.length)
    ⟨_, _, _, 0, rfl, by simp, by simp, by simp, by simp, rfl, by simp⟩
  rintro j st ⟨e, loc, g, i, rfl, h0, h5, h6, h7, hok, hj⟩
  simp [h0, h5, h6, h7, hx]
  refine pendP (fun c1 => ?_) (fun c1 => ?_)
  · have hP := ld_P hl (Pe.rfl' H) i c1
    have hi1 := wrap_nat (k := i) (by omega)
    have hno := ptOk_no c1
    rw [tok1_iff, vok1_iff, hmx] at hno
    have hs := ptOkN_succ l i
    rw [hok] at hs
    by_cases r1 : 0 ≤ gi (ts l) i ∧ gi (ts l) i ≤ 1099511627776
    · by_cases r2 : -1099511627776 ≤ gi (vs l) i ∧ gi (vs l) i ≤ 1099511627776
      · have v1 : vok1 (vs l) i = true := (vok1_iff _ i).2 r2
        by_cases hi0 : i = 0
        · subst hi0
          have t1 : tok1 (ts l) 0 = true := (tok1_iff _ 0).2 ⟨r1, fun h => by omega⟩
          simp [h0, h5, h6, h7, hx, c1, hP, hi1, r1, r2]
          exact again_intro (j - 1) (by omega) ⟨_, _, _, 1, rfl, by simp [h0], by simp [h5], by simp [h6], by simp, by rw [hs, t1, v1]; rfl, by omega⟩
        · have hi0' : 0 < i := by omega
          have w1 : IntKind.i64.wrap ((i : Int) - 1) = ((i - 1 : Nat) : Int) := by rw [wrap_i64 (by omega) (by omega)]; omega
          have hT := ld_T hl (Pe.rfl' H) (i - 1) (by omega)
          have hat := at_1 hl (i - 1) (by omega)
          by_cases r3 : gi (ts l) (i - 1) < gi (ts l) i
          · have t1 : tok1 (ts l) i = true := (tok1_iff _ i).2 ⟨r1, fun _ => r3⟩
            have r3' : ¬ gi (ts l) i ≤ gi (ts l) (i - 1) := by omega
            simp [h0, h5, h6, h7, hx, c1, hP, hi1, r1, r2, hi0', w1, hT, hat, r3', show i - 1 < l.length by omega]
            exact again_intro (j - 1) (by omega) ⟨_, _, _, i + 1, rfl, by simp [h0], by simp [h5], by simp [h6], by simp, by rw [hs, t1, v1]; rfl, by omega⟩
          · have r3' : gi (ts l) i ≤ gi (ts l) (i - 1) := by omega
            have hf := hno fun hh => r3 (hh.1.2 hi0')
            simp [h0, h5, h6, h7, hx, c1, hP, hi1, r1, r2, hi0', w1, hT, hat, r3', hf, show i - 1 < l.length by omega]
      · have hf := hno fun hh => r2 hh.2
        have r2' : (decide (-1099511627776 ≤ gi (vs l) i) && decide (gi (vs l) i ≤ 1099511627776)) = false := by
          rw [← Bool.not_eq_true, Bool.and_eq_true, decide_eq_true_iff, decide_eq_true_iff]
          exact r2
        simp [h0, h5, h6, h7, hx, c1, hP, hi1, r1, r2', hf]
    · have hf := hno fun hh => r1 hh.1.1
      have r1' : (decide (0 ≤ gi (ts l) i) && decide (gi (ts l) i ≤ 1099511627776)) = false := by
        rw [← Bool.not_eq_true, Bool.and_eq_true, decide_eq_true_iff, decide_eq_true_iff]
        exact r1
      simp [h0, h5, h6, h7, hx, c1, hP, hi1, r1', hf]
  · obtain rfl : i = l.length := by omega
    simp [h0, h5, h6, h7, hx, c1]
    unfold ptOkN at hok
    simp [ptsOk, hok]
    omega
set_option maxHeartbeats 400000 in
theorem specPointsOk_eq {H : Heap} {a : Option Addr} {l : List Pt} (hl : Sl 2 encPt H a l) : evF Tryz.prog TT 89 #[.slice a l.length 0] H = some (.bool (ptsOk l), H) := by
  refine Ret.eq ?_
  refine Ret.go rfl Tryz.func89 rfl (by decide) (by simp [Tryz.ntmps89]) (by kernel_rfl) loc89 Tryz.results89 Tryz.ntmps89 ?_
  have hlen := hl.1
  have hx := indexAddr_Sl (P := Tryz.prog) hl ti84
  have hmx : maxTime = 1099511627776 := rfl
  simp
  refine pendP (fun c0 => ?_) (fun c0 => ?_)
  · simp [c0, ptsOk]
    intro h
    omega
  · simp [c0]
    refine mC_loop (fun j st => ∃ (e : Nat → Value) (loc : Nat → List Value) (g i : Nat), st = ⟨e, loc, g, H, 47⟩ ∧ e 0 = .slice a l.length 0 ∧ e 3 = .int .i64 i ∧ ptOkN l i = true ∧ i + j = l.length) ?_ (j := l.length)
      ⟨_, _, _, 0, rfl, by simp, by simp, rfl, by simp⟩
    rintro j st ⟨e, loc, g, i, rfl, h0, h3, hok, hj⟩
    simp [h0, h3, hx]
    refine pendP (fun c1 => ?_) (fun c1 => ?_)
    · have hTi := ld_T hl (Pe.rfl' H) i c1
      have hVi := ld_V hl (Pe.rfl' H) i c1
      have hai := at_1 hl i c1
      have hi1 := wrap_nat (k := i) (by omega)
      have hno := ptOk_no c1
      rw [tok1_iff, vok1_iff, hmx] at hno
      have hs := ptOkN_succ l i
      rw [hok] at hs
      by_cases r1 : 0 ≤ gi (ts l) i ∧ gi (ts l) i ≤ 1099511627776
      · by_cases r2 : -1099511627776 ≤ gi (vs l) i ∧ gi (vs l) i ≤ 1099511627776
        · have v1 : vok1 (vs l) i = true := (vok1_iff _ i).2 r2
          by_cases hi0 : i = 0
          · subst hi0
            have t1 : tok1 (ts l) 0 = true := (tok1_iff _ 0).2 ⟨r1, fun h => by omega⟩
            simp [h0, h3, hx, c1, hTi, hVi, hai, hi1, r1, r2]
            exact again_intro (j - 1) (by omega) ⟨_, _, _, 1, rfl, by simp [h0], by simp, by rw [hs, t1, v1]; rfl, by omega⟩
          · have hi0' : 0 < i := by omega
            have w1 : IntKind.i64.wrap ((i : Int) - 1) = ((i - 1 : Nat) : Int) := by rw [wrap_i64 (by omega) (by omega)]; omega
            have hT := ld_T hl (Pe.rfl' H) (i - 1) (by omega)
            have hat := at_1 hl (i - 1) (by omega)
            by_cases r3 : gi (ts l) (i - 1) < gi (ts l) i
            · have t1 : tok1 (ts l) i = true := (tok1_iff _ i).2 ⟨r1, fun _ => r3⟩
              have r3' : ¬ gi (ts l) i ≤ gi (ts l) (i - 1) := by omega
              simp [h0, h3, hx, c1, hTi, hVi, hai, hi1, r1, r2, hi0', w1, hT, hat, r3', show i - 1 < l.length by omega]
              exact again_intro (j - 1) (by omega) ⟨_, _, _, i + 1, rfl, by simp [h0], by simp, by rw [hs, t1, v1]; rfl, by omega⟩
            · have r3' : gi (ts l) i ≤ gi (ts l) (i - 1) := by omega
              have hf := hno fun hh => r3 (hh.1.2 hi0')
              simp [h0, h3, hx, c1, hTi, hVi, hai, hi1, r1, r2, hi0', w1, hT, hat, r3', hf, show i - 1 < l.length by omega]
        · have hf := hno fun hh => r2 hh.2
          have r2' : (decide (-1099511627776 ≤ gi (vs l) i) && decide (gi (vs l) i ≤ 1099511627776)) = false := by
            rw [← Bool.not_eq_true, Bool.and_eq_true, decide_eq_true_iff, decide_eq_true_iff]
            exact r2
          simp [h0, h3, hx, c1, hTi, hVi, hai, hi1, r1, r2', hf]
      · have hf := hno fun hh => r1 hh.1.1
        have r1' : (decide (0 ≤ gi (ts l) i) && decide (gi (ts l) i ≤ 1099511627776)) = false := by
          rw [← Bool.not_eq_true, Bool.and_eq_true, decide_eq_true_iff, decide_eq_true_iff]
          exact r1
        simp [h0, h3, hx, c1, hTi, hVi, hai, hi1, r1', hf]
    · obtain rfl : i = l.length := by omega
      simp [h0, h3, hx, c1]
      unfold ptOkN at hok
      simp [ptsOk, hok]
      omega
end Go.Abs

/-
  CONTRACTS: blocks shown and read.
-/
namespace Go.Abs
open Go Go.Proofs
set_option linter.unusedSimpArgs false
attribute [local simp] fieldAddr build fillL

/-- A slice that was made, with the block that its chain began with. -/
def OwR {α : Type} (r es : Nat) (enc : α → List Value) (H : Heap) (a : Option Addr) (l : List α) : Prop :=
  ∃ b, a = some ⟨b, 0, none⟩ ∧ b < H.size ∧ (H.blk b).es = es ∧ (H.blk b).cells = (l.map enc).flatten ∧ (H.blk b).root = r
section
variable {α : Type} {r es : Nat} {enc : α → List Value} {H K : Heap} {a : Option Addr} {l : List α}
theorem OwR.ow (h : OwR r es enc H a l) {lo : Nat} (hlo : lo ≤ r) : Ow lo es enc H a l := by
  obtain ⟨b, h1, h2, h3, h4, h5⟩ := h
  exact .inr ⟨b, h1, h2, h3, h4, by omega⟩
theorem OwR.pe (h : OwR r es enc H a l) (he : es ≠ 0) (p : Pe H K) : OwR r es enc K a l := by
  obtain ⟨b, ha, hb, hes, hc, hr⟩ := h
  have e := p.sl b hb (by rw [hes]; exact he)
  exact ⟨b, ha, Nat.lt_of_lt_of_le hb p.size, by rw [e]; exact hes, by rw [e]; exact hc, by rw [e]; exact hr⟩
theorem OwR.new (K : Heap) (l : List α) {c : List Value} (hc : c = (l.map enc).flatten) : OwR K.size es enc (K.push c es) (some ⟨K.size, 0, none⟩) l := by
  subst hc
  exact ⟨K.size, rfl, by simp, by simp, by simp, by simp⟩
theorem OwR.ap (ho : OwR r es enc K a l) (hl : ∀ x ∈ l, (enc x).length = es) {len : Nat} (hlen : l.length = len) (ns : List α) {news : List Value} (hn : news = (ns.map enc).flatten) :
    OwR r es enc (apH K a len es news) (some ⟨K.size, 0, none⟩) (l ++ ns) := by
  subst hn hlen
  obtain ⟨b, rfl, hb, hes, hc, hr⟩ := ho
  refine ⟨K.size, rfl, by simp, ?_, ?_, ?_⟩
  all_goals
    simp only [apH, blk_grow, if_neg (Nat.lt_irrefl _), if_true]
  · rw [hc, ← flat_len l hl, List.drop_zero, List.take_length, List.map_append, List.flatten_append]
  · rw [if_pos (by omega)]
    exact hr
/-- Another chain stays. -/
theorem OwR.keep {β : Type} {r2 es2 : Nat} {enc2 : β → List Value} {a2 : Option Addr} {l2 : List β} (h : OwR r2 es2 enc2 K a2 l2) (ho : OwR r es enc K a l) (hne : r2 ≠ r) (len es' : Nat) (news : List Value) : OwR r2 es2 enc2 (apH K a len es' news) a2 l2 := by
  obtain ⟨b, rfl, hb, hes, hc, hr⟩ := ho
  obtain ⟨b2, rfl, hb2, hes2, hc2, hr2⟩ := h
  have e : (apH K (some ⟨b, 0, none⟩) len es' news).blk b2 = K.blk b2 := grow_old hb2 (by rw [hr, hr2]; exact hne) _ _ _ _
  exact ⟨b2, rfl, by simp; omega, by rw [e]; exact hes2, by rw [e]; exact hc2, by rw [e]; exact hr2⟩
end

/-- A number is put behind one of two lists that grow. -/
theorem two_step {H K : Heap} {a a2 : Option Addr} {l l2 : List Int} {r r2 : Nat} (hu : Upd no H K) (h1 : OwR r 1 encI K a l) (h2 : OwR r2 1 encI K a2 l2) (hr : H.size ≤ r) (hne : r2 ≠ r) (y : Int) :
    Upd no H (apH (K.push [.int .i64 y] 1) a l.length 1 [.int .i64 y]) ∧ OwR r 1 encI (apH (K.push [.int .i64 y] 1) a l.length 1 [.int .i64 y]) (some ⟨K.size + 1, 0, none⟩) (l ++ [y]) ∧ OwR r2 1 encI (apH (K.push [.int .i64 y] 1) a l.length 1 [.int .i64 y]) a2 l2 := by
  have p := ((Upd_refl K).push (B := no) [.int .i64 y] 1).pe
  have o1 := h1.pe (by decide) p
  have o2 := h2.pe (by decide) p
  exact ⟨(hu.push _ 1).ap (o1.ow (Nat.le_refl _)) hr _ _ _, by simpa using o1.ap (fun _ _ => rfl) (len := l.length) rfl [y] (by simp [encI]), o2.keep o1 hne _ _ _⟩

theorem take_ts {l : List Pt} {i : Nat} (h : i < l.length) : (ts l).take (i + 1) = (ts l).take i ++ [gi (ts l) i] := take_succ_gi (by simpa using h)
theorem take_vs {l : List Pt} {i : Nat} (h : i < l.length) : (vs l).take (i + 1) = (vs l).take i ++ [gi (vs l) i] := take_succ_gi (by simpa using h)

theorem showBlock_eq {H : Heap} {a : Option Addr} {l : List Pt} (hl : Sl 2 encPt H a l) : evF Tryz.prog TT 84 #[.slice a l.length 0] H = some (S (showBlock l), H) := by
  refine Ret.eq ?_
  refine Ret.go rfl Tryz.func84 rfl (by decide) (by simp [Tryz.ntmps84]) (by kernel_rfl) loc84 Tryz.results84 Tryz.ntmps84 ?_
  have hlen := hl.1
  have hx := indexAddr_Sl (P := Tryz.prog) hl ti84
  have hok := pointsOk_eq hl
  simp [hok]
  refine pendB (fun c0 => ?_) (fun c0 => ?_)
  · simp at c0
    simp [c0]
    rw [showBlock, if_neg (by simp [c0])]
  · simp at c0
    simp [c0]
    obtain ⟨q1, q2, q3⟩ := (ptsOk_iff l).1 c0
    refine pendP (fun c1 => ?_) (fun c1 => ?_)
    · simp [c1]
      rw [showBlock, if_neg (by simp [c1])]
    · simp [c1]
      have hu0 : Upd no H ((H.push [] 1).push [] 1) := ((Upd_refl H).push _ 1).push _ 1
      have o1 : OwR H.size 1 encI ((H.push [] 1).push [] 1) (some ⟨H.size, 0, none⟩) ([] : List Int) := (OwR.new H [] rfl).pe (by decide) ((Upd_refl _).push (B := no) [] 1).pe
      have o2 : OwR (H.size + 1) 1 encI ((H.push [] 1).push [] 1) (some ⟨H.size + 1, 0, none⟩) ([] : List Int) := OwR.new (H.push [] 1) [] rfl
      generalize (H.push [] 1).push [] 1 = K0 at hu0 o1 o2 ⊢
      refine mC_loop (fun j st => ∃ (e : Nat → Value) (loc : Nat → List Value) (g i : Nat) (K : Heap) (a1 a2 : Option Addr) (lt lv : List Int), st = ⟨e, loc, g, K, 44⟩ ∧ Upd no H K ∧ OwR H.size 1 encI K a1 lt ∧ OwR (H.size + 1) 1 encI K a2 lv ∧ lt = (ts l).take i ∧ lv = (vs l).take i ∧
          e 0 = .slice a l.length 0 ∧ e 3 = .slice a1 lt.length 0 ∧ e 4 = .slice a2 lv.length 0 ∧ e 17 = .slice a l.length 0 ∧ e 18 = .int .i64 l.length ∧ e 19 = .int .i64 i ∧ i + j = l.length) ?_ (j := l.length)
        ⟨_, _, _, 0, K0, _, _, [], [], rfl, hu0, o1, o2, by simp, by simp, by simp, by simp, by simp, by simp, by simp, by simp, by simp⟩
      rintro j st ⟨e, loc, g, i, K, a1, a2, lt, lv, rfl, hu, o1, o2, hlt, hlv, h0, h3, h4, h17, h18, h19, hj⟩
      have hltl : lt.length = i := by rw [hlt, List.length_take, ts_length]; omega
      have hlvl : lv.length = i := by rw [hlv, List.length_take, vs_length]; omega
      simp [h0, h3, h4, h17, h18, h19, hx]
      refine pendP (fun c2 => ?_) (fun c2 => ?_)
      · have hP := ld_P hl hu.pe i c2
        have hi1 := wrap_nat (k := i) (by omega)
        have ap1 := append_one (P := Tryz.prog) ti72 (o1.ow (Nat.le_refl _)) (fun _ _ => rfl) (by omega) (by decide) un72
        obtain ⟨u1, n1, k1⟩ := two_step hu o1 o2 (Nat.le_refl _) (by omega) (gi (ts l) i)
        have ap2 := append_one (P := Tryz.prog) ti72 (k1.ow (Nat.le_refl _)) (fun _ _ => rfl) (by omega) (by decide) un72
        obtain ⟨u2, n2, k2⟩ := two_step u1 k1 n1 (Nat.le_succ _) (by omega) (gi (vs l) i)
        simp only [apH_size, push_size] at n2 k2
        simp [h0, h3, h4, h17, h18, h19, hx, c2, hP, ap1, ap2, hi1]
        exact again_intro (j - 1) (by omega) ⟨_, _, _, i + 1, _, _, _, _, _, rfl, u2, k2, n2, by rw [take_ts c2, hlt], by rw [take_vs c2, hlv], by simp [h0], by simp, by simp, by simp [h17], by simp [h18], by simp, by omega⟩
      · have hi : i = l.length := by omega
        have e1 : lt = ts l := by rw [hlt, hi, ← ts_length, List.take_length]
        have e2 : lv = vs l := by rw [hlv, hi, ← vs_length, List.take_length]
        have s1 := showTimes_eq ((o1.ow (Nat.le_refl _)).sl (fun _ _ => rfl) (by omega))
        have s2 := showValues_eq ((o2.ow (Nat.le_refl _)).sl (fun _ _ => rfl) (by omega))
        rw [e1] at s1
        rw [e2] at s2
        subst e1 e2
        have f0 := var_len l.length
        have f1 := showTimes_len (ts l)
        have f2 := showValues_len (vs l)
        have hfr := frame_eq (var l.length ++ (showTimes (ts l) ++ showValues (vs l))) K (by simp; omega)
        simp at s1 s2
        simp [h0, h3, h4, h17, h18, h19, hx, c2, s1, s2, hfr]
        refine ⟨by omega, by omega, ?_, gc_flat rfl hu⟩
        rw [showBlock, if_pos ⟨c0, c1⟩]
theorem specShowBlock_eq {H : Heap} {a : Option Addr} {l : List Pt} (hl : Sl 2 encPt H a l) : evF Tryz.prog TT 78 #[.slice a l.length 0] H = some (S (showBlock l), H) := by
  refine Ret.eq ?_
  refine Ret.go rfl Tryz.func78 rfl (by decide) (by simp [Tryz.ntmps78]) (by kernel_rfl) loc78 Tryz.results78 Tryz.ntmps78 ?_
  have hlen := hl.1
  have hx := indexAddr_Sl (P := Tryz.prog) hl ti84
  have hok := specPointsOk_eq hl
  simp [hok]
  refine pendB (fun c0 => ?_) (fun c0 => ?_)
  · simp at c0
    simp [c0]
    rw [showBlock, if_neg (by simp [c0])]
  · simp at c0
    simp [c0]
    obtain ⟨q1, q2, q3⟩ := (ptsOk_iff l).1 c0
    refine pendP (fun c1 => ?_) (fun c1 => ?_)
    · simp [c1]
      rw [showBlock, if_neg (by simp [c1])]
    · simp [c1]
      have hu0 : Upd no H ((H.push [] 1).push [] 1) := ((Upd_refl H).push _ 1).push _ 1
      have o1 : OwR H.size 1 encI ((H.push [] 1).push [] 1) (some ⟨H.size, 0, none⟩) ([] : List Int) := (OwR.new H [] rfl).pe (by decide) ((Upd_refl _).push (B := no) [] 1).pe
      have o2 : OwR (H.size + 1) 1 encI ((H.push [] 1).push [] 1) (some ⟨H.size + 1, 0, none⟩) ([] : List Int) := OwR.new (H.push [] 1) [] rfl
      generalize (H.push [] 1).push [] 1 = K0 at hu0 o1 o2 ⊢
      refine mC_loop (fun j st => ∃ (e : Nat → Value) (loc : Nat → List Value) (g i : Nat) (K : Heap) (a1 a2 : Option Addr) (lt lv : List Int), st = ⟨e, loc, g, K, 48⟩ ∧ Upd no H K ∧ OwR H.size 1 encI K a1 lt ∧ OwR (H.size + 1) 1 encI K a2 lv ∧ lt = (ts l).take i ∧ lv = (vs l).take i ∧
          e 0 = .slice a l.length 0 ∧ e 3 = .slice a1 lt.length 0 ∧ e 4 = .slice a2 lv.length 0 ∧ e 5 = .int .i64 i ∧ i + j = l.length) ?_ (j := l.length)
        ⟨_, _, _, 0, K0, _, _, [], [], rfl, hu0, o1, o2, by simp, by simp, by simp, by simp, by simp, by simp, by simp⟩
      rintro j st ⟨e, loc, g, i, K, a1, a2, lt, lv, rfl, hu, o1, o2, hlt, hlv, h0, h3, h4, h5, hj⟩
      have hltl : lt.length = i := by rw [hlt, List.length_take, ts_length]; omega
      have hlvl : lv.length = i := by rw [hlv, List.length_take, vs_length]; omega
      simp [h0, h3, h4, h5, hx]
      refine pendP (fun c2 => ?_) (fun c2 => ?_)
      · have hT := ld_T hl hu.pe i c2
        have hat := at_1 hl i c2
        have hi1 := wrap_nat (k := i) (by omega)
        have ap1 := append_one (P := Tryz.prog) ti72 (o1.ow (Nat.le_refl _)) (fun _ _ => rfl) (by omega) (by decide) un72
        obtain ⟨u1, n1, k1⟩ := two_step hu o1 o2 (Nat.le_refl _) (by omega) (gi (ts l) i)
        have hV := ld_V hl u1.pe i c2
        have ap2 := append_one (P := Tryz.prog) ti72 (k1.ow (Nat.le_refl _)) (fun _ _ => rfl) (by omega) (by decide) un72
        obtain ⟨u2, n2, k2⟩ := two_step u1 k1 n1 (Nat.le_succ _) (by omega) (gi (vs l) i)
        simp only [apH_size, push_size] at n2 k2
        simp [h0, h3, h4, h5, hx, c2, hT, hV, hat, ap1, ap2, hi1]
        exact again_intro (j - 1) (by omega) ⟨_, _, _, i + 1, _, _, _, _, _, rfl, u2, k2, n2, by rw [take_ts c2, hlt], by rw [take_vs c2, hlv], by simp [h0], by simp, by simp, by simp, by omega⟩
      · have hi : i = l.length := by omega
        have e1 : lt = ts l := by rw [hlt, hi, ← ts_length, List.take_length]
        have e2 : lv = vs l := by rw [hlv, hi, ← vs_length, List.take_length]
        have s1 := specShowTimes_eq ((o1.ow (Nat.le_refl _)).sl (fun _ _ => rfl) (by omega))
        have s2 := specShowValues_eq ((o2.ow (Nat.le_refl _)).sl (fun _ _ => rfl) (by omega))
        rw [e1] at s1
        rw [e2] at s2
        subst e1 e2
        have f0 := var_len l.length
        have f1 := showTimes_len (ts l)
        have f2 := showValues_len (vs l)
        have hfr := specFrame_eq (var l.length ++ (showTimes (ts l) ++ showValues (vs l))) K (by simp; omega)
        simp at s1 s2
        simp [h0, h3, h4, h5, hx, c2, s1, s2, hfr]
        refine ⟨by omega, by omega, ?_, gc_flat rfl hu⟩
        rw [showBlock, if_pos ⟨c0, c1⟩]
end Go.Abs

/-
  CONTRACTS: blocks read.
-/
namespace Go.Abs
open Go Go.Proofs
set_option linter.unusedSimpArgs false
attribute [local simp] fieldAddr build fillL

/-- An append of one point. -/
theorem ow_pt {H K : Heap} {a : Option Addr} {l : List Pt} {lo : Nat} (hu : Upd no H K) (hlo : H.size ≤ lo) (hk : lo ≤ K.size) (ho : Ow lo 2 encPt K a l) (p : Pt) :
    Upd no H (apH (K.push [.int .i64 p.1, .int .i64 p.2] 2) a l.length 2 [.int .i64 p.1, .int .i64 p.2]) ∧ Ow lo 2 encPt (apH (K.push [.int .i64 p.1, .int .i64 p.2] 2) a l.length 2 [.int .i64 p.1, .int .i64 p.2]) (some ⟨K.size + 1, 0, none⟩) (l ++ [p]) := by
  have ho2 := ho.pe (by decide) ((Upd_refl K).push (B := no) [.int .i64 p.1, .int .i64 p.2] 2).pe
  exact ⟨(hu.push _ 2).ap ho2 hlo _ _ _, by simpa using ho2.ap (fun _ _ => rfl) (by simp; omega) (len := l.length) rfl [p] (by simp [encPt])⟩
theorem zip_take {x y : List Int} {i : Nat} (h : i < x.length) (h2 : x.length = y.length) : (x.take (i + 1)).zip (y.take (i + 1)) = (x.take i).zip (y.take i) ++ [(gi x i, gi y i)] := by
  rw [take_succ_gi h, take_succ_gi (by omega), List.zip_append (by simp; omega)]
  rfl

theorem readBlock_ret {s : List UInt8} (hs : Sm s) (H : Heap) : RetSl 2 encPt 55 #[S s] H (readBlock s).1 fun v => .tuple #[v, .bool (readBlock s).2] := by
  unfold RetSl
  refine Ret.go rfl Tryz.func55 rfl (by decide) (by simp [Tryz.ntmps55]) (by kernel_rfl) loc55 Tryz.results55 Tryz.ntmps55 ?_
  have hs2 := hs.lt
  simp [hs]
  have fail : ∀ K, Upd no H K → readBlock s = ([], false) → RS 2 encPt H (readBlock s).1 (fun v => Value.tuple #[v, .bool (readBlock s).2]) (.tuple #[.slice none 0 0, .bool false]) K := fun K u e => by
    rw [e]
    exact RS.nil (mk := fun v => .tuple #[v, .bool false]) u
  have hrb : readBlock s = if (unframe s).2.2 ≠ 0 ∨ (readVar (unframe s).1).2 = 0 then ([], false) else
      if (readTimes ((unframe s).1.drop (readVar (unframe s).1).2) (readVar (unframe s).1).1).1.length ≠ (readVar (unframe s).1).1 ∨ (readValues ((unframe s).1.drop ((readVar (unframe s).1).2 + (readTimes ((unframe s).1.drop (readVar (unframe s).1).2) (readVar (unframe s).1).1).2)) (readVar (unframe s).1).1).1.length ≠ (readVar (unframe s).1).1 then ([], false) else
      if showBlock ((readTimes ((unframe s).1.drop (readVar (unframe s).1).2) (readVar (unframe s).1).1).1.zip (readValues ((unframe s).1.drop ((readVar (unframe s).1).2 + (readTimes ((unframe s).1.drop (readVar (unframe s).1).2) (readVar (unframe s).1).1).2)) (readVar (unframe s).1).1).1) ≠ s then ([], false) else
        ((readTimes ((unframe s).1.drop (readVar (unframe s).1).2) (readVar (unframe s).1).1).1.zip (readValues ((unframe s).1.drop ((readVar (unframe s).1).2 + (readTimes ((unframe s).1.drop (readVar (unframe s).1).2) (readVar (unframe s).1).1).2)) (readVar (unframe s).1).1).1, true) := rfl
  have hbl := unframe_le s
  have hbs := Sm_unframe hs
  have hvb := readVar_bound (unframe s).1
  generalize (unframe s).2.2 = code at hrb ⊢
  generalize (unframe s).1 = b at hrb hbl hbs hvb ⊢
  generalize (readVar b).1 = n at hrb hvb ⊢
  generalize (readVar b).2 = k at hrb hvb ⊢
  refine pendB (fun c1 => ?_) (fun c1 => ?_)
  · simp at c1
    simp [c1]
    exact fail _ (Upd_refl H) (by rw [hrb, if_pos (.inl c1)])
  · simp at c1
    simp [c1]
    refine pendP (fun c2 => ?_) (fun c2 => ?_)
    · simp [c2]
      exact fail _ (Upd_refl H) (by rw [hrb, if_pos (.inr c2)])
    · rw [if_neg (by simp [c1, c2])] at hrb
      have hk : (k : Int) ≤ b.length := by omega
      simp [c2, hk]
      refine mG_call (readTimes_ret (Sm_drop hbs k) n H) ?_
      rintro _ K1 ⟨a1, rfl, u1, s1⟩
      have hmore : (readTimes (b.drop k) n).2 ≤ b.length - k := by
        by_cases hz : (readTimes (b.drop k) n).2 = 0
        · omega
        · obtain ⟨_, _, h3, r, h4⟩ := readTimes_some (s := b.drop k) (n := n) (l := (readTimes (b.drop k) n).1) (k := (readTimes (b.drop k) n).2) rfl (by omega)
          have := congrArg List.length h4
          rw [List.length_append, List.length_drop] at this
          omega
      have hl60 := readTimes_le (b.drop k) n
      generalize (readTimes (b.drop k) n).1 = t at hrb s1 hl60 ⊢
      generalize (readTimes (b.drop k) n).2 = m at hrb hmore ⊢
      have w1 : IntKind.i64.wrap ((k : Int) + (m : Int)) = ((k + m : Nat) : Int) := by rw [wrap_i64 (by omega) (by omega)]; omega
      have hkm : k + m ≤ b.length := by omega
      simp [w1, hkm, -Int.natCast_add]
      refine mG_call (readValues_ret (Sm_drop hbs (k + m)) n K1) ?_
      rintro _ K2 ⟨a2, rfl, u2, s2⟩
      generalize (readValues (b.drop (k + m)) n).1 = v at hrb s2 ⊢
      have u12 := u1.then u2
      simp
      refine pendB (fun c3 => ?_) (fun c3 => ?_)
      · simp at c3
        simp [c3]
        exact fail _ (gc_upd u12) (by rw [hrb, if_pos (by omega)])
      · simp at c3
        simp [c3]
        refine pendB (fun c4 => ?_) (fun c4 => ?_)
        · simp at c4
          simp [c4]
          exact fail _ (gc_upd u12) (by rw [hrb, if_pos (by omega)])
        · simp at c4
          rw [if_neg (by omega)] at hrb
          obtain rfl : n = t.length := by omega
          have c4 : v.length = t.length := by omega
          have s1 := s1.pe (by decide) u2.pe
          simp [c4]
          have hx1 := indexAddr_Sl (P := Tryz.prog) s1 ti72
          have hx2 := indexAddr_Sl (P := Tryz.prog) s2 ti72
          rw [c4] at hx2
          have hl1 := s1.1
          refine mC_loop (fun j st => ∃ (e : Nat → Value) (loc : Nat → List Value) (g i : Nat) (K : Heap) (a : Option Addr) (out : List Pt), st = ⟨e, loc, g, K, 84⟩ ∧ Upd no K2 K ∧ Ow K2.size 2 encPt K a out ∧ out = (t.take i).zip (v.take i) ∧
              e 0 = S s ∧ e 11 = .slice a2 t.length 0 ∧ e 13 = .slice a out.length 0 ∧ e 62 = .slice a1 t.length 0 ∧ e 63 = .int .i64 t.length ∧ e 64 = .int .i64 i ∧ i + j = t.length) ?_ (j := t.length)
            ⟨_, _, _, 0, _, _, [], rfl, (Upd_refl K2).push _ 2, Ow.new (Nat.le_refl _) [] rfl, by simp, by simp, by simp, by simp, by simp, by simp, by simp, by simp⟩
          rintro j st ⟨e, loc, g, i, K, a, out, rfl, hu, ho, hout, h0, h11, h13, h62, h63, h64, hj⟩
          have hol : out.length = i := by rw [hout, List.length_zip, List.length_take, List.length_take]; omega
          simp [h0, h11, h13, h62, h63, h64, hx1, hx2]
          refine pendP (fun c5 => ?_) (fun c5 => ?_)
          · have d1 := ld_int s1 hu.pe i c5
            have d2 := ld_int s2 hu.pe i (by omega)
            have hi1 := wrap_nat (k := i) (by omega)
            have ap := append_one (P := Tryz.prog) ti84 ho (fun _ _ => rfl) (by omega) (by decide) un84
            obtain ⟨p1, p2⟩ := ow_pt hu (Nat.le_refl _) hu.size ho (gi t i, gi v i)
            simp [h0, h11, h13, h62, h63, h64, hx1, hx2, c5, d1, d2, hi1, ap]
            exact again_intro (j - 1) (by omega) ⟨_, _, _, i + 1, _, _, _, rfl, p1, p2, by rw [zip_take c5 c4.symm, hout], by simp [h0], by simp [h11], by simp, by simp [h62], by simp [h63], by simp, by omega⟩
          · have hi : i = t.length := by omega
            have hzip : out = t.zip v := by rw [hout, hi, List.take_length, ← c4, List.take_length]
            have hso := ho.sl (fun _ _ => rfl) (by omega)
            have hsb := showBlock_eq hso
            rw [← hzip] at hrb
            simp [h0, h11, h13, h62, h63, h64, hx1, hx2, c5, hsb]
            refine pendB (fun c6 => ?_) (fun c6 => ?_)
            · simp at c6
              simp [h0, h11, h13, h62, h63, h64, hx1, hx2, c6]
              exact fail _ (gc_upd (u12.then hu)) (by rw [hrb, if_pos c6])
            · simp at c6
              simp [h0, h11, h13, h62, h63, h64, hx1, hx2, c6]
              rw [hrb, if_neg (by simp [c6])]
              exact RS.of (mk := fun v => .tuple #[v, .bool true]) (u12.then hu) hso (fun _ _ => rfl) rfl

theorem specReadBlock_ret {s : List UInt8} (hs : Sm s) (H : Heap) : RetSl 2 encPt 100 #[S s] H (readBlock s).1 fun v => .tuple #[v, .bool (readBlock s).2] := by
  unfold RetSl
  refine Ret.go rfl Tryz.func100 rfl (by decide) (by simp [Tryz.ntmps100]) (by kernel_rfl) loc100 Tryz.results100 Tryz.ntmps100 ?_
  have hs2 := hs.lt
  have hs0 : Sl 2 encPt (H.push [] 2) (some ⟨H.size, 0, none⟩) ([] : List Pt) := (Ow.new (lo := 0) (Nat.zero_le _) [] rfl).sl (fun _ _ => rfl) (by decide)
  have hu0 : Upd no H (H.push [] 2) := (Upd_refl H).push _ 2
  have fail : ∀ K, Upd no (H.push [] 2) K → (∀ l, showBlock l = s → s ≠ [] → False) → RS 2 encPt H (readBlock s).1 (fun v => Value.tuple #[v, .bool (readBlock s).2]) (.tuple #[.slice (some ⟨H.size, 0, none⟩) 0 0, .bool false]) (gc H (.tuple #[.slice (some ⟨H.size, 0, none⟩) 0 0, .bool false]) K) := fun K u h => by
    have e : readBlock s = ([], false) := by
      cases hq : (readBlock s).2 with
      | false => exact readBlock_false hq
      | true =>
        obtain ⟨h1, h2⟩ := readBlock_true (s := s) (l := (readBlock s).1) (by rw [← hq])
        exact (h _ h1 h2).elim
    rw [e]
    exact RS.of (mk := fun v => .tuple #[v, .bool false]) (hu0.then u) (hs0.pe (by decide) u.pe) (fun _ _ => rfl) rfl
  -- what a block that is read must be
  have parts : ∀ l, showBlock l = s → s ≠ [] → ∃ b, unframe s = (b, (b.length : Int) + 8, 0) ∧ s.length = b.length + 8 ∧ b = var l.length ++ (showTimes (ts l) ++ showValues (vs l)) ∧ showTimes (ts l) ≠ [] ∧ showValues (vs l) ≠ [] ∧ readVar b = (l.length, (var l.length).length) ∧ 0 < (var l.length).length ∧
      readTimes (b.drop (var l.length).length) l.length = (ts l, (showTimes (ts l)).length) ∧ readValues (b.drop ((var l.length).length + (showTimes (ts l)).length)) l.length = (vs l, (showValues (vs l)).length) := fun l h1 h2 => by
    rw [← h1] at h2
    obtain ⟨p1, p2⟩ := showBlock_ne h2
    obtain ⟨b, e1, b1, b2, e2, ht, hv, hr, hk⟩ := block_parts p1 p2
    obtain ⟨u1, u2⟩ := unframe_frame b1 b2
    rw [← e1, h1] at u1 u2
    have hd : b.drop (var l.length).length = showTimes (ts l) ++ showValues (vs l) := by rw [e2]; exact List.drop_left' rfl
    have q1 := readTimes_of (s := b.drop (var l.length).length) ht hd
    have hd2 : b.drop ((var l.length).length + (showTimes (ts l)).length) = showValues (vs l) ++ [] := by
      rw [← List.drop_drop, hd, List.append_nil]; exact List.drop_left' rfl
    have q2 := readValues_of (s := b.drop ((var l.length).length + (showTimes (ts l)).length)) hv hd2
    rw [ts_length] at q1
    rw [vs_length] at q2
    exact ⟨b, u1, u2, e2, ht, hv, hr, hk, q1, q2⟩
  simp [hs]
  have hbl := unframe_le s
  have hbs := Sm_unframe hs
  have hok := unframe_ok (s := s)
  have hbad := unframe_bad (s := s)
  have hun : unframe s = ((unframe s).1, (unframe s).2.1, (unframe s).2.2) := rfl
  have hvb := readVar_bound (unframe s).1
  have hrv : readVar (unframe s).1 = ((readVar (unframe s).1).1, (readVar (unframe s).1).2) := rfl
  generalize (unframe s).2.2 = code at hok hun hbad
  generalize (unframe s).2.1 = size at hok hun ⊢
  generalize (unframe s).1 = b at hok hun hbl hbs hvb hrv hbad ⊢
  generalize (readVar b).1 = n at hvb hrv ⊢
  generalize (readVar b).2 = k at hvb hrv ⊢
  refine pendP (fun c1 => ?_) (fun c1 => ?_)
  · simp [c1]
    refine fail _ (Upd_refl _) fun l h1 h2 => ?_
    obtain ⟨b', g1, g2, g3, g4, g5, g6, g7, _⟩ := parts l h1 h2
    rw [hun] at g1
    simp only [Prod.mk.injEq] at g1
    rw [← g1.1, hrv] at g6
    simp only [Prod.mk.injEq] at g6
    omega
  · simp [c1]
    refine pendB (fun c2 => ?_) (fun c2 => ?_)
    · simp at c2
      simp [c2]
      refine fail _ (Upd_refl _) fun l h1 h2 => c2 ?_
      obtain ⟨b', g1, g2, _⟩ := parts l h1 h2
      rw [hun] at g1
      simp only [Prod.mk.injEq] at g1
      rw [g1.2.1, g2]
      omega
    · simp at c2
      have hcode : code = 0 := Decidable.byContradiction fun hc => by
        rw [hbad hc] at hrv
        simp [readVar, rv] at hrv
        omega
      obtain ⟨b1, b2, b3, b4, b5⟩ := hok hcode
      subst hcode
      have hbs2 : b.length + 8 = s.length := by omega
      have hfr : frame b = s := by rw [← b4, hbs2, List.take_length]
      have hk : (k : Int) ≤ b.length := by omega
      simp [c2, hk]
      refine mG_call (specReadTimes_ret (Sm_drop hbs k) n _) ?_
      rintro _ K1 ⟨a1, rfl, u1, s1⟩
      have hrt : readTimes (b.drop k) n = ((readTimes (b.drop k) n).1, (readTimes (b.drop k) n).2) := rfl
      have hmore : (readTimes (b.drop k) n).2 ≤ b.length - k ∧ ((readTimes (b.drop k) n).2 ≠ 0 → ((readTimes (b.drop k) n).1.length : Int) = n ∧ showTimes (readTimes (b.drop k) n).1 ≠ [] ∧ (readTimes (b.drop k) n).2 = (showTimes (readTimes (b.drop k) n).1).length ∧ ∃ r, b.drop k = showTimes (readTimes (b.drop k) n).1 ++ r) := by
        by_cases hz : (readTimes (b.drop k) n).2 = 0
        · exact ⟨by omega, fun h => absurd hz h⟩
        · have h := readTimes_some (s := b.drop k) (n := n) (l := (readTimes (b.drop k) n).1) (k := (readTimes (b.drop k) n).2) rfl (by omega)
          refine ⟨?_, fun _ => h⟩
          obtain ⟨_, _, h3, r, h4⟩ := h
          have := congrArg List.length h4
          rw [List.length_append, List.length_drop] at this
          omega
      generalize (readTimes (b.drop k) n).1 = t at s1 hrt hmore ⊢
      generalize (readTimes (b.drop k) n).2 = m at hrt hmore ⊢
      simp
      refine pendP (fun c3 => ?_) (fun c3 => ?_)
      · simp [c3]
        refine fail _ u1 fun l h1 h2 => ?_
        obtain ⟨b', g1, g2, g3, g4, g5, g6, g7, g8, g9⟩ := parts l h1 h2
        rw [hun] at g1
        simp only [Prod.mk.injEq] at g1
        obtain ⟨rfl, _⟩ := g1
        rw [hrv] at g6
        simp only [Prod.mk.injEq] at g6
        obtain ⟨rfl, rfl⟩ := g6
        rw [hrt] at g8
        simp only [Prod.mk.injEq] at g8
        exact g4 (List.length_eq_zero_iff.1 (by omega))
      · obtain ⟨t1, t2, t3, r1, t4⟩ := hmore.2 c3
        have w1 : IntKind.i64.wrap ((k : Int) + (m : Int)) = ((k + m : Nat) : Int) := by rw [wrap_i64 (by omega) (by omega)]; omega
        have hkm : k + m ≤ b.length := by omega
        simp [c3, w1, hkm, -Int.natCast_add]
        refine mG_call (specReadValues_ret (Sm_drop hbs (k + m)) n K1) ?_
        rintro _ K2 ⟨a2, rfl, u2, s2⟩
        have hrw : readValues (b.drop (k + m)) n = ((readValues (b.drop (k + m)) n).1, (readValues (b.drop (k + m)) n).2) := rfl
        have hmore2 : (readValues (b.drop (k + m)) n).2 ≤ b.length - (k + m) ∧ ((readValues (b.drop (k + m)) n).2 ≠ 0 → ((readValues (b.drop (k + m)) n).1.length : Int) = n ∧ showValues (readValues (b.drop (k + m)) n).1 ≠ [] ∧ (readValues (b.drop (k + m)) n).2 = (showValues (readValues (b.drop (k + m)) n).1).length ∧ ∃ r, b.drop (k + m) = showValues (readValues (b.drop (k + m)) n).1 ++ r) := by
          by_cases hz : (readValues (b.drop (k + m)) n).2 = 0
          · exact ⟨by omega, fun h => absurd hz h⟩
          · have h := readValues_some (s := b.drop (k + m)) (n := n) (l := (readValues (b.drop (k + m)) n).1) (k := (readValues (b.drop (k + m)) n).2) rfl (by omega)
            refine ⟨?_, fun _ => h⟩
            obtain ⟨_, _, h3, r, h4⟩ := h
            have := congrArg List.length h4
            rw [List.length_append, List.length_drop] at this
            omega
        generalize (readValues (b.drop (k + m)) n).1 = v at s2 hrw hmore2 ⊢
        generalize (readValues (b.drop (k + m)) n).2 = q at hrw hmore2 ⊢
        have u12 := u1.then u2
        have w2 : IntKind.i64.wrap (((k + m : Nat) : Int) + (q : Int)) = ((k + m + q : Nat) : Int) := by rw [wrap_i64 (by omega) (by omega)]; omega
        have nope : ¬ (q ≠ 0 ∧ k + m + q = b.length) → ∀ l, showBlock l = s → s ≠ [] → False := fun hn l h1 h2 => by
          obtain ⟨b', g1, g2, g3, g4, g5, g6, g7, g8, g9⟩ := parts l h1 h2
          rw [hun] at g1
          simp only [Prod.mk.injEq] at g1
          obtain ⟨rfl, _⟩ := g1
          rw [hrv] at g6
          simp only [Prod.mk.injEq] at g6
          obtain ⟨rfl, rfl⟩ := g6
          rw [hrt] at g8
          simp only [Prod.mk.injEq] at g8
          obtain ⟨rfl, rfl⟩ := g8
          rw [hrw] at g9
          simp only [Prod.mk.injEq] at g9
          obtain ⟨rfl, rfl⟩ := g9
          refine hn ⟨fun h => g5 (List.length_eq_zero_iff.1 h), ?_⟩
          conv => rhs; rw [g3]
          simp
          omega
        simp [w2, -Int.natCast_add]
        refine pendP (fun c4 => ?_) (fun c4 => ?_)
        · simp [c4]
          exact fail _ u12 (nope fun h => h.1 c4)
        · simp [c4, w1, w2, -Int.natCast_add]
          refine pendB (fun c5 => ?_) (fun c5 => ?_)
          · simp at c5
            simp [c5]
            exact fail _ u12 (nope fun h => c5 (by omega))
          · simp at c5
            simp [c5]
            obtain ⟨v1, v2, v3, r2, v4⟩ := hmore2.2 c4
            obtain rfl : n = t.length := by omega
            have hvt : v.length = t.length := by omega
            have s1 := s1.pe (by decide) u2.pe
            have hx1 := indexAddr_Sl (P := Tryz.prog) s1 ti72
            have hx2 := indexAddr_Sl (P := Tryz.prog) s2 ti72
            rw [hvt] at hx2
            have hl1 := s1.1
            obtain ⟨tk1, tk2, tk3, tk4⟩ := showTimes_ne t2
            obtain ⟨vk1, vk2, vk3, vk4⟩ := showValues_ne v2
            refine mC_loop (fun j st => ∃ (e : Nat → Value) (loc : Nat → List Value) (g i : Nat) (K : Heap) (a : Option Addr) (out : List Pt), st = ⟨e, loc, g, K, 90⟩ ∧ Upd no K2 K ∧ Ow K2.size 2 encPt K a out ∧ out = (t.take i).zip (v.take i) ∧
                e 8 = .int .i64 t.length ∧ e 10 = .slice a1 t.length 0 ∧ e 12 = .slice a2 t.length 0 ∧ e 14 = .slice a out.length 0 ∧ e 15 = .int .i64 i ∧ i + j = t.length) ?_ (j := t.length)
              ⟨_, _, _, 0, _, _, [], rfl, (Upd_refl K2).push _ 2, Ow.new (Nat.le_refl _) [] rfl, by simp, by simp, by simp, by simp [hvt], by simp, by simp, by simp⟩
            rintro j st ⟨e, loc, g, i, K, a, out, rfl, hu, ho, hout, h8, h10, h12, h14, h15, hj⟩
            have hol : out.length = i := by rw [hout, List.length_zip, List.length_take, List.length_take]; omega
            simp [h8, h10, h12, h14, h15, hx1, hx2]
            refine pendP (fun c6 => ?_) (fun c6 => ?_)
            · have d1 := ld_int s1 hu.pe i c6
              have d2 := ld_int s2 hu.pe i (by omega)
              have hi1 := wrap_nat (k := i) (by omega)
              have ap := append_one (P := Tryz.prog) ti84 ho (fun _ _ => rfl) (by omega) (by decide) un84
              obtain ⟨p1, p2⟩ := ow_pt hu (Nat.le_refl _) hu.size ho (gi t i, gi v i)
              simp [h8, h10, h12, h14, h15, hx1, hx2, c6, d1, d2, hi1, ap]
              refine mDF_mut (by simp) (by kernel_rfl) fun f => ?_
              simp [h8, h10, h12, h14, h15, hx1, hx2, hi1]
              exact again_intro (j - 1) (by omega) ⟨_, _, _, i + 1, _, _, _, rfl, p1, p2, by rw [zip_take c6 hvt.symm, hout], by simp [h8], by simp [h10], by simp [h12], by simp, by simp, by omega⟩
            · have hi : i = t.length := by omega
              have hzip : out = t.zip v := by rw [hout, hi, List.take_length, ← hvt, List.take_length]
              have hso := ho.sl (fun _ _ => rfl) (by omega)
              simp [h8, h10, h12, h14, h15, hx1, hx2, c6]
              -- the block is what was read
              have e1 : ts out = t := by rw [hzip, ts_zip hvt.symm]
              have e2 : vs out = v := by rw [hzip, vs_zip hvt.symm]
              have hok2 : ptsOk out = true := (ptsOk_iff out).2 ⟨by omega, by rw [e1, hol, hi]; exact tk1, by rw [e2, hol, hi, ← hvt]; exact vk1⟩
              have hne : out ≠ [] := fun h => by rw [h] at hol; simp at hol; omega
              have hvk := readVar_some hrv (by omega)
              have hb : b = var out.length ++ (showTimes t ++ showValues v) := by
                have p1 : b.drop k = showTimes t ++ b.drop (k + m) := by
                  rw [← List.drop_drop, t4, t3, List.drop_left' rfl]
                have p2 : b.drop (k + m) = showValues v := by
                  have : r2.length = 0 := by
                    have := congrArg List.length v4
                    rw [List.length_append, List.length_drop] at this
                    omega
                  rw [v4, List.length_eq_zero_iff.1 this, List.append_nil]
                conv => lhs; rw [← List.take_append_drop k b, p1, p2]
                rw [hol, hi, hvk.1]
              have hsb : showBlock out = s := by
                rw [showBlock, if_pos ⟨hok2, hne⟩, e1, e2, ← hb, hfr]
              have hrb : readBlock s = (out, true) := readBlock_iff.2 ⟨hsb, fun h => by rw [h] at hbs2; simp at hbs2⟩
              rw [hrb]
              exact RS.of (mk := fun v => .tuple #[v, .bool true]) ((hu0.then u12).then hu) hso (fun _ _ => rfl) rfl
end Go.Abs

/-
  PLAIN LAWS: calls and answers, right or not.
-/
namespace Go.Abs
open Go
set_option linter.unusedSimpArgs false

def letter (b : UInt8) : Bool := decide (97 ≤ b.toNat ∧ b.toNat ≤ 122)
def keyOk (s : List UInt8) : Bool := s.all letter && decide (1 ≤ s.length ∧ s.length ≤ 8)

structure Op' where
  kind : Int
  key : List UInt8
  low : Int
  high : Int
  data : List UInt8
theorem Op'.ext' {a b : Op'} (h1 : a.kind = b.kind) (h2 : a.key = b.key) (h3 : a.low = b.low) (h4 : a.high = b.high) (h5 : a.data = b.data) : a = b := by
  cases a; cases b; simp_all
def Op'.none : Op' := ⟨0, [], 0, 0, []⟩
def opOk (o : Op') : Bool :=
  if o.kind = 1 then decide (0 ≤ o.low ∧ o.low < o.high ∧ o.high ≤ maxTime ∧ o.key = [] ∧ o.data = [])
  else if o.kind = 2 ∨ o.kind = 6 then decide (0 ≤ o.low ∧ o.low ≤ maxTime ∧ o.high = 0 ∧ o.key = [] ∧ o.data = [])
  else if o.kind = 3 then decide (0 ≤ o.low ∧ o.low ≤ 100000 ∧ o.high = 0 ∧ o.key = [] ∧ o.data = [])
  else if o.kind = 4 then (readBlock o.data).2 && keyOk o.key && decide (o.low = 0 ∧ o.high = 0)
  else if o.kind = 5 then keyOk o.key && decide (0 ≤ o.low ∧ o.low < o.high ∧ o.high ≤ maxTime ∧ o.data = [])
  else if o.kind = 7 then decide (o.low = 0 ∧ o.high = 0 ∧ o.key = [] ∧ o.data = [])
  else false

structure Ans where
  code : Int
  index : Int
  mark : Int
  data : List UInt8
theorem Ans.ext' {a b : Ans} (h1 : a.code = b.code) (h2 : a.index = b.index) (h3 : a.mark = b.mark) (h4 : a.data = b.data) : a = b := by
  cases a; cases b; simp_all
def Ans.none : Ans := ⟨0, 0, 0, []⟩
def ansOk (a : Ans) : Bool := decide (0 ≤ a.code ∧ a.code ≤ 4) && decide (0 ≤ a.index ∧ a.index ≤ 100000) && decide (0 ≤ a.mark ∧ a.mark ≤ maxTime) && decide (a.data.length ≤ 900)

structure Cmd' where
  client : Int
  serial : Int
  op : Op'
def Cmd'.none : Cmd' := ⟨0, 0, .none⟩
def cmdOk (x : Cmd') : Bool := decide (1 ≤ x.client ∧ x.client ≤ 4) && decide (1 ≤ x.serial ∧ x.serial ≤ 1000000) && opOk x.op
end Go.Abs

