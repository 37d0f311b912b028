/-
  FROM THE ABSTRACT MACHINE TO THE MODEL: a function of a row of bytes.
-/
import Derived.Test.YtifiajbjfoigcaaGreatStr
namespace Go.Abs
open Go
open Go.RowKit (Below)
set_option linter.unusedSimpArgs false

def heap0 : Heap := ⟨0, fun _ => Blk.zero, fun _ _ => rfl, fun _ => Nat.zero_le _⟩

/-- A row of bytes that came in: nil; or a part of a block of cells, none of it frozen. -/
def InRow (w : World) (a : Option Addr) (len cap : Nat) (zs : List Int) : Prop :=
  (a = none ∧ len = 0 ∧ cap = 0) ∨
  ∃ b off C t f, a = some ⟨b, off, none⟩ ∧ len ≤ cap ∧ zs.length = cap ∧ w.heap[b]? = some (Obj.cells C t f) ∧ (∀ i, i < cap → C[off + i]? = some (.int .u8 (zs.getD i 0))) ∧ (∀ n ∈ zs, 0 ≤ n ∧ n ≤ 255) ∧ ∀ i, i < cap → ¬ (f.1 ≤ off + i ∧ off + i < f.2)

theorem enter_row {P : Program} (hm : P.follows .mixedOrders = true) {T : Table} (hT : Given P T) {f : FuncId}
    (h : ∀ (H : Heap) (a : Option Addr) (l : List UInt8), Sl 1 encB H a l → ∃ v H', evF P T f #[.slice a l.length 0] H = some (v, H') ∧ v = .bool true ∧ H' = H)
    (hbig : ∀ (H : Heap) (a : Option Addr) (n : Nat), 1048576 < n → ∃ v H', evF P T f #[.slice a n 0] H = some (v, H') ∧ v = .bool true ∧ H' = H)
    {w : World} {a : Option Addr} {len cap : Nat} {zs : List Int} (w0 : InRow w a len cap zs) :
    Calls P f #[.slice a len cap] w fun e w' => e = .returned (.bool true) ∧ Below w.heap.size w w' := by
  rcases w0 with ⟨rfl, rfl, rfl⟩ | ⟨b, off, C, t, fz, rfl, hl, hz, hb, hcell, hwf, hfz⟩
  · obtain ⟨v, H', e, rfl, rfl⟩ := h heap0 none [] (Sl.nil _ _ _)
    obtain ⟨_, hok⟩ := evF_sound hm hT _ _ _ _ _ e
    refine (hok (fun _ => none) w #[.slice none 0 0] (HRel.mk (fun _ _ h => nomatch h) (fun _ _ h => nomatch h) (fun _ _ _ _ h => nomatch h)) rfl ?_).mono ?_
    · intro i x y hx hy
      cases i with
      | zero => cases hx; cases hy; exact .nils
      | succ i => simp at hx
    · rintro e w' ⟨m', cv, rfl, hv, hH, hfr, hsz⟩
      cases hv
      exact ⟨rfl, hfr.os, hfr.tape, hfr.output, hfr.size, fun k hk => hfr.frame k hk (fun _ _ h => by cases h) (fun _ h => by cases h)⟩
  · -- the block
    let cells : List Value := zs.map fun z => .int .u8 z
    let H := heap0.push cells 1
    let en : Ent := if cap = 0 then ⟨b, 0, 1, 0⟩ else ⟨b, off, 1, off + cap⟩
    let m : Map := fun i => if i = 0 then some en else none
    have hbk : (H.blk 0) = ⟨cells, 1, 0, 0⟩ := push_new _ _ _
    have hcl : cells.length = cap := by simp [cells, hz]
    have heb : en.b = b := by simp only [en]; split <;> rfl
    have hm0 : ∀ {i e}, m i = some e → i = 0 ∧ e = en := fun {i e} he => by
      simp only [m] at he
      split at he
      · cases he; exact ⟨by assumption, rfl⟩
      · cases he
    have hget : ∀ i (hi : i < cap), cells[i]? = some (.int .u8 (zs.getD i 0)) := fun i hi => by simp [cells, hz, hi]
    have hrel : HRel m H w := by
      refine ⟨fun id e he => ?_, fun id e he => ?_, fun i j e g hi hj _ => ?_⟩
      · obtain ⟨rfl, rfl⟩ := hm0 he
        simp [H, heap0]
      · obtain ⟨rfl, rfl⟩ := hm0 he
        rw [hbk]
        refine ⟨C, t, fz, by rw [heb]; exact hb, ?_, ?_, ?_, ?_⟩
        · by_cases h0 : cap = 0
          · simp [en, h0, hcl]
          · have := hcell (cap - 1) (by omega)
            have := (Array.getElem?_eq_some_iff.1 this).1
            simp only [en, if_neg h0, hcl]
            omega
        · intro o h1 h2
          by_cases h0 : cap = 0
          · simp [en, h0] at h2
          · simp only [en, if_neg h0] at h1 h2
            have := hfz (o - off) (by omega)
            rw [show off + (o - off) = o from by omega] at this
            exact this
        · simp only [en]; split <;> rfl
        · intro i v hv
          have hi : i < cap := by rw [← hcl]; exact (List.getElem?_eq_some_iff.1 hv).1
          rw [hget i hi] at hv
          cases hv
          refine ⟨rfl, _, ?_, .int _ _⟩
          simp only [en, if_neg (show ¬ cap = 0 by omega)]
          exact hcell i hi
      · obtain ⟨rfl, rfl⟩ := hm0 hi
        obtain ⟨rfl, rfl⟩ := hm0 hj
        exact ⟨rfl, rfl⟩
    have hargs : ∀ (i : Nat) x y, (#[.slice (some ⟨0, 0, none⟩) len 0] : Array Value)[i]? = some x → (#[.slice (some ⟨b, off, none⟩) len cap] : Array Value)[i]? = some y → V m x y := by
      intro i x y hx hy
      cases i with
      | zero =>
        cases hx; cases hy
        have := V.slc (m := m) 0 0 len 0 cap off en rfl hl (.inl rfl) ?_ ?_
        · rw [heb] at this; exact this
        · by_cases h0 : cap = 0
          · exact .inr h0
          · exact .inl (by simp [en, h0])
        · by_cases h0 : cap = 0
          · exact .inr h0
          · exact .inl (by simp [en, h0])
      | succ i => simp at hx
    have fin : (∃ v H', evF P T f #[.slice (some ⟨0, 0, none⟩) len 0] H = some (v, H') ∧ v = .bool true ∧ H' = H) → Calls P f #[.slice (some ⟨b, off, none⟩) len cap] w fun e w' => e = .returned (.bool true) ∧ Below w.heap.size w w' := by
      rintro ⟨v, H', e, rfl, rfl⟩
      obtain ⟨_, hok⟩ := evF_sound hm hT _ _ _ _ _ e
      refine (hok m w #[.slice (some ⟨b, off, none⟩) len cap] hrel rfl hargs).mono ?_
      rintro e w' ⟨m', cv, rfl, hv, hH, hfr, hsz⟩
      cases hv
      refine ⟨rfl, hfr.os, hfr.tape, hfr.output, hfr.size, fun k hk => ?_⟩
      by_cases hkb : k = b
      · subst hkb
        obtain ⟨C', hb', hs'⟩ := hfr.shape k C t fz hb
        rw [hb', hb]
        congr 2
        apply Array.ext_getElem?
        intro o
        have hk0 : m' 0 = some en := by
          rw [hfr.keep 0 (by simp [H, heap0])]; rfl
        obtain ⟨C2, t2, f2, g1, g2, g3, g4, g5⟩ := hH.blk 0 en hk0
        rw [heb, hb'] at g1
        cases g1
        by_cases ho : off ≤ o ∧ o < off + cap
        · have h0 : ¬ cap = 0 := by omega
          rw [hbk] at g5
          obtain ⟨_, cv, hc, hv⟩ := g5 (o - off) _ (hget (o - off) (by omega))
          cases hv
          simp only [en, if_neg h0] at hc
          rw [show off + (o - off) = o from by omega] at hc
          have := hcell (o - off) (by omega)
          rw [show off + (o - off) = o from by omega] at this
          rw [hc, this]
        · refine hfr.rest k C C' t t fz fz hb hb' o (fun id e he _ => ?_) (fun _ h => by cases h)
          obtain ⟨rfl, rfl⟩ := hm0 he
          by_cases h0 : cap = 0
          · simp [en, h0]
          · simp only [en, if_neg h0]; omega
      · refine hfr.frame k hk (fun id e he hh => ?_) (fun _ h => by cases h)
        obtain ⟨rfl, rfl⟩ := hm0 he
        exact hkb (by rw [← hh, heb])
    by_cases hn : 1048576 < len
    · exact fin (hbig H _ len hn)
    · let l : List UInt8 := (zs.take len).map fun z => UInt8.ofNat z.toNat
      have hll : l.length = len := by simp [l, hz]; omega
      have := h H (some ⟨0, 0, none⟩) l ⟨by omega, .inr ⟨0, 0, rfl, by simp [H, heap0], by rw [hbk], fun k hk => ?_⟩⟩
      · rw [hll] at this; exact fin this
      · have hk' : k < cap := by omega
        rw [hbk]
        have hg := hget k hk'
        have hw := hwf (zs.getD k 0) (by rw [List.getD_eq_getElem?_getD, List.getElem?_eq_getElem (by omega)]; exact List.getElem_mem _)
        simp only [Nat.zero_add, Nat.mul_one, window_one, hg, Option.map_some]
        have hkz : k < zs.length := by omega
        have hz2 : zs[k]?.getD 0 = zs[k] := by simp [hkz]
        rw [List.getD_eq_getElem?_getD, hz2] at hw
        simp only [l, encB, byteV, List.getElem_map, List.getElem_take]
        rw [List.getD_eq_getElem?_getD, hz2]
        have : ((UInt8.ofNat zs[k].toNat).toNat : Int) = zs[k] := by simp; omega
        rw [this]
end Go.Abs
