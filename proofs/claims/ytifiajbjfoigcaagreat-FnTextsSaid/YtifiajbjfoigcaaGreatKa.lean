/-
  CONTRACTS of the functions that the law reaches, group Ka.
-/
import Derived.Test.YtifiajbjfoigcaaGreatFacts
import Derived.Test.YtifiajbjfoigcaaGreatStr
import Derived.RowKit
/-
  WHAT ALL CONTRACTS STAND ON.
-/
namespace Go.Abs
open Go
/-- Functions whose contracts are given otherwise: none. -/
def TT : Table := fun _ => none
theorem wrap_nat {k : Nat} (h : k < 2 ^ 62) : IntKind.i64.wrap ((k : Int) + 1) = ((k + 1 : Nat) : Int) := wrap_i64 (by omega) (by omega)
end Go.Abs

namespace Go.Abs
open Go Go.Proofs
set_option linter.unusedSimpArgs false
attribute [local simp] fieldAddr

theorem from_eq (a b c : Int) (H : Heap) : evF Tryz.prog TT 52 #[.int .i64 a, .int .i64 b, .int .i64 c] H = some (.bool (decide (b ≤ a ∧ a ≤ c)), H) := by
  refine Ret.eq ?_
  refine Ret.go rfl Tryz.func52 rfl (by decide) (by simp [Tryz.ntmps52]) (by kernel_rfl) loc52 Tryz.results52 Tryz.ntmps52 ?_
  simp
  refine pendP (fun h => ?_) (fun h => ?_) <;> simp [h]

end Go.Abs

/-
  DRAWS: the cursor, and what is drawn by it.
-/
namespace Go.Abs
open Go Go.Proofs
set_option linter.unusedSimpArgs false
attribute [local simp] fieldAddr

/-- A cursor: its block, and the slice of bytes that it draws from. -/
structure Curs where
  id : Nat
  a : Option Addr
  l : List UInt8

/-- The cursor stands. -/
def Cur (c : Curs) (H : Heap) : Prop := ∃ i h : Int, Box H c.id [.slice c.a c.l.length 0, .int .i64 i, .int .i64 h] ∧ Sl 1 encB H c.a c.l ∧ 0 ≤ i ∧ i ≤ c.l.length

/-- Nothing but the cursor has changed. -/
def Dr (c : Curs) (H H' : Heap) : Prop := Cur c H' ∧ Upd (one' c.id) H H'

theorem Cur.es0 {c : Curs} {H : Heap} (h : Cur c H) : ∀ i, i < H.size → one' c.id i → (H.blk i).es = 0 := by
  obtain ⟨i, h, hb, _⟩ := h
  intro j _ e
  rw [show j = c.id from e]
  exact hb.es0
theorem Dr.refl {c : Curs} {H : Heap} (h : Cur c H) : Dr c H H := ⟨h, (Upd_refl H).wide h.es0⟩
theorem Dr.trans {c : Curs} {H H1 H2 : Heap} (h : Dr c H H1) (k : Dr c H1 H2) : Dr c H H2 := ⟨k.1, h.2.trans k.2 fun _ _ h => h⟩
theorem Cur.no {c : Curs} {H H' : Heap} (h : Cur c H) (u : Upd no H H') : Cur c H' := by
  obtain ⟨i, k, hb, hs, h0, h1⟩ := h
  exact ⟨i, k, hb.no u, hs.pe (by decide) u.pe, h0, h1⟩
@[simp] theorem Cur_push {c : Curs} {H : Heap} (h : Cur c H) (cs : List Value) (es : Nat) : Cur c (H.push cs es) := h.no ((Upd_refl H).push cs es)
theorem Dr.no {c : Curs} {H K L : Heap} (h : Dr c H K) (u : Upd no K L) : Dr c H L := ⟨h.1.no u, h.2.then u⟩
@[simp] theorem Dr_push {c : Curs} {H K : Heap} (h : Dr c H K) (cs : List Value) (es : Nat) : Dr c H (K.push cs es) := ⟨Cur_push h.1 cs es, h.2.push cs es⟩
@[simp] theorem Dr_refl {c : Curs} {H : Heap} (h : Cur c H) : Dr c H H := Dr.refl h
/-- At the end of a draw. -/
@[simp] theorem Dr_gc {c : Curs} {H X : Heap} (h : Cur c H) (d : Dr c H X) (v : Value) : Dr c H (gc H v X) := by
  obtain ⟨i0, k0, hb0, hs0, _⟩ := h
  have u := gc_upd (v := v) d.2
  obtain ⟨i, k, hb, hs, h0, h1⟩ := d.1
  have hid := hb0.lt
  refine ⟨⟨i, k, ⟨Nat.lt_of_lt_of_le hid u.size, ?_, ?_, Nat.lt_of_lt_of_le hid u.size, fun j hj hne => ?_⟩, hs0.pe (by decide) u.pe, h0, h1⟩, u⟩
  · rw [gc_blk hid]; exact hb.es0
  · rw [gc_blk hid]; exact hb.cells
  · rw [gc_blk hid]
    by_cases hj' : j < H.size
    · rw [gc_blk hj']
      exact hb.solo.2 j (Nat.lt_of_lt_of_le hj' d.2.size) hne
    · have h2 := u.new j (by omega) hj
      have h3 := d.2.root c.id hid
      have h4 := H.rle c.id
      omega

/-! ### What calls come to, by name -/
noncomputable def resH (f : FuncId) (args : Array Value) (H : Heap) : Heap := match evF Tryz.prog TT f args H with | some (_, H') => H' | none => H
noncomputable def resV (f : FuncId) (args : Array Value) (H : Heap) : Value := match evF Tryz.prog TT f args H with | some (v, _) => v | none => bot
noncomputable def resI (f : FuncId) (args : Array Value) (H : Heap) : Int := match resV f args H with | .int _ n => n | _ => 0
noncomputable def resB (f : FuncId) (args : Array Value) (H : Heap) : Bool := match resV f args H with | .bool n => n | _ => false
noncomputable def resS (f : FuncId) (args : Array Value) (H : Heap) : List UInt8 := match resV f args H with | .string n => n.data.toList | _ => []
theorem res_int {f : FuncId} {args : Array Value} {H : Heap} {k : IntKind} {p : Int → Heap → Prop} (h : Ret Tryz.prog TT f args H fun v H' => ∃ x, v = .int k x ∧ p x H') :
    evF Tryz.prog TT f args H = some (.int k (resI f args H), resH f args H) ∧ p (resI f args H) (resH f args H) := by
  obtain ⟨v, H', e, x, rfl, hp⟩ := h
  unfold resI resV resH
  rw [e]
  exact ⟨rfl, hp⟩
theorem res_bool {f : FuncId} {args : Array Value} {H : Heap} {p : Bool → Heap → Prop} (h : Ret Tryz.prog TT f args H fun v H' => ∃ x, v = .bool x ∧ p x H') :
    evF Tryz.prog TT f args H = some (.bool (resB f args H), resH f args H) ∧ p (resB f args H) (resH f args H) := by
  obtain ⟨v, H', e, x, rfl, hp⟩ := h
  unfold resB resV resH
  rw [e]
  exact ⟨rfl, hp⟩
theorem res_str {f : FuncId} {args : Array Value} {H : Heap} {p : List UInt8 → Heap → Prop} (h : Ret Tryz.prog TT f args H fun v H' => ∃ x, v = S x ∧ p x H') :
    evF Tryz.prog TT f args H = some (S (resS f args H), resH f args H) ∧ p (resS f args H) (resH f args H) := by
  obtain ⟨v, H', e, x, rfl, hp⟩ := h
  have e' : resS f args H = x := by
    unfold resS resV
    rw [e]
    simp [S]
  have e2 : resH f args H = H' := by
    unfold resH
    rw [e]
  rw [e', e2]
  exact ⟨e, hp⟩

/-! ### A byte -/
theorem byte_ret {c : Curs} {H : Heap} (hc : Cur c H) : Ret Tryz.prog TT 64 #[.pointer (some ⟨c.id, 0, none⟩)] H fun v H' => ∃ x, v = .int .i64 x ∧ Dr c H H' ∧ 0 ≤ x ∧ x ≤ 255 := by
  have hc0 := hc
  obtain ⟨i, h, hb, hs, h0, h1⟩ := hc
  have hlt := hb.lt
  have hcl := hb.cells
  have hso := hb.solo
  have done : ∀ i' h' : Int, 0 ≤ i' → i' ≤ c.l.length → Dr c H (H.set c.id [.slice c.a c.l.length 0, .int .i64 i', .int .i64 h']) := fun i' h' a b =>
    ⟨⟨i', h', hb.set _, hs.pe (by decide) (hb.change _).pe, a, b⟩, hb.change _⟩
  refine Ret.go rfl Tryz.func64 rfl (by decide) (by simp [Tryz.ntmps64]) (by kernel_rfl) loc64 Tryz.results64 Tryz.ntmps64 ?_
  have hx := indexAddr_Sl (P := Tryz.prog) hs ti22
  have hp : ∀ d, Pe H (H.set c.id d) := fun d => (hb.change d).pe
  have hd := fun d k => hs.ld (hp d) (by decide) k 0 1
  have hw : IntKind.i64.wrap (i + 1) = i + 1 := wrap_i64 (by omega) (by have := hs.1; omega)
  simp [hlt, hcl, hso, write_set]
  refine pendP (fun c1 => ?_) (fun c1 => ?_)
  · have hi : i.toNat < c.l.length := by omega
    simp [hlt, hcl, hso, write_set, c1, hx, h0, hd, hi, hw, encB, byteV]
    exact ⟨done _ _ (by omega) (by omega), bits_and_255 _⟩
  · simp [hlt, hcl, hso, write_set, c1]
    exact ⟨done _ _ h0 h1, bits_and_255 _⟩
noncomputable def byteX (c : Curs) (H : Heap) : Int := resI 64 #[.pointer (some ⟨c.id, 0, none⟩)] H
noncomputable def byteH (c : Curs) (H : Heap) : Heap := resH 64 #[.pointer (some ⟨c.id, 0, none⟩)] H
@[simp] theorem byte_eq {c : Curs} {H : Heap} (hc : Cur c H) : evF Tryz.prog TT 64 #[.pointer (some ⟨c.id, 0, none⟩)] H = some (.int .i64 (byteX c H), byteH c H) := (res_int (byte_ret hc)).1
theorem byte_dr {c : Curs} {H : Heap} (hc : Cur c H) : Dr c H (byteH c H) := (res_int (byte_ret hc)).2.1
theorem byte_rng {c : Curs} {H : Heap} (hc : Cur c H) : 0 ≤ byteX c H ∧ byteX c H ≤ 255 := (res_int (byte_ret hc)).2.2
@[simp] theorem Cur_byte {c : Curs} {H : Heap} (hc : Cur c H) : Cur c (byteH c H) := (byte_dr hc).1
@[simp] theorem Dr_byte {c : Curs} {H K : Heap} (h : Dr c H K) : Dr c H (byteH c K) := h.trans (byte_dr h.1)

/-! ### A number below another -/
theorem below_ret {c : Curs} {H : Heap} (hc : Cur c H) (n : Int) : Ret Tryz.prog TT 49 #[.pointer (some ⟨c.id, 0, none⟩), .int .i64 n] H fun v H' => ∃ x, v = .int .i64 x ∧ Dr c H H' ∧ (n < 2 ^ 62 → 0 ≤ x ∧ (x < n ∨ x = 0)) := by
  refine Ret.go rfl Tryz.func49 rfl (by decide) (by simp [Tryz.ntmps49]) (by kernel_rfl) loc49 Tryz.results49 Tryz.ntmps49 ?_
  simp
  refine pendP (fun c1 => ?_) (fun c1 => ?_)
  · simp (maxDischargeDepth := 30) [c1, hc]
  · have c0 : ¬ n = 0 := by omega
    simp (maxDischargeDepth := 30) [c1, hc]
    refine pendP (fun c2 => ?_) (fun c2 => ?_)
    · have b := byte_rng hc
      simp (maxDischargeDepth := 30) [c1, c2, hc, c0]
      intro _
      rw [Int.tmod_eq_emod_of_nonneg b.1]
      exact ⟨Int.emod_nonneg _ c0, .inl (Int.emod_lt_of_pos _ (by omega))⟩
    · have b1 := byte_rng hc
      have b2 := byte_rng (Cur_byte hc)
      have b3 := byte_rng (Cur_byte (Cur_byte hc))
      have b4 := byte_rng (Cur_byte (Cur_byte (Cur_byte hc)))
      simp (maxDischargeDepth := 30) [c1, c2, hc, c0]
      intro hn
      generalize byteX c H = x at b1 ⊢
      generalize byteX c (byteH c H) = y at b2 ⊢
      generalize byteX c (byteH c (byteH c H)) = z at b3 ⊢
      generalize byteX c (byteH c (byteH c (byteH c H))) = w at b4 ⊢
      rw [wrap_i64 (n := x * 16777216) (by omega) (by omega), wrap_i64 (n := y * 65536) (by omega) (by omega), wrap_i64 (n := z * 256) (by omega) (by omega), wrap_i64 (n := x * 16777216 + y * 65536) (by omega) (by omega), wrap_i64 (n := x * 16777216 + y * 65536 + z * 256) (by omega) (by omega), wrap_i64 (by omega) (by omega)]
      rw [Int.tmod_eq_emod_of_nonneg (by omega)]
      exact ⟨Int.emod_nonneg _ c0, .inl (Int.emod_lt_of_pos _ (by omega))⟩
noncomputable def belowX (c : Curs) (n : Int) (H : Heap) : Int := resI 49 #[.pointer (some ⟨c.id, 0, none⟩), .int .i64 n] H
noncomputable def belowH (c : Curs) (n : Int) (H : Heap) : Heap := resH 49 #[.pointer (some ⟨c.id, 0, none⟩), .int .i64 n] H
@[simp] theorem below_eq {c : Curs} {H : Heap} (hc : Cur c H) (n : Int) : evF Tryz.prog TT 49 #[.pointer (some ⟨c.id, 0, none⟩), .int .i64 n] H = some (.int .i64 (belowX c n H), belowH c n H) := (res_int (below_ret hc n)).1
theorem below_dr {c : Curs} {H : Heap} (hc : Cur c H) (n : Int) : Dr c H (belowH c n H) := (res_int (below_ret hc n)).2.1
theorem below_rng {c : Curs} {H : Heap} (hc : Cur c H) {n : Int} (hn : n < 2 ^ 62) : 0 ≤ belowX c n H ∧ (belowX c n H < n ∨ belowX c n H = 0) := (res_int (below_ret hc n)).2.2 hn
@[simp] theorem Cur_below {c : Curs} {H : Heap} (hc : Cur c H) (n : Int) : Cur c (belowH c n H) := (below_dr hc n).1
@[simp] theorem Dr_below {c : Curs} {H K : Heap} (h : Dr c H K) (n : Int) : Dr c H (belowH c n K) := h.trans (below_dr h.1 n)

/-! ### Once in so many -/
theorem once_ret {c : Curs} {H : Heap} (hc : Cur c H) (n : Int) : Ret Tryz.prog TT 32 #[.pointer (some ⟨c.id, 0, none⟩), .int .i64 n] H fun v H' => ∃ x, v = .bool x ∧ Dr c H H' := by
  refine Ret.go rfl Tryz.func32 rfl (by decide) (by simp [Tryz.ntmps32]) (by kernel_rfl) loc32 Tryz.results32 Tryz.ntmps32 ?_
  simp (maxDischargeDepth := 30) [hc]
noncomputable def onceX (c : Curs) (n : Int) (H : Heap) : Bool := resB 32 #[.pointer (some ⟨c.id, 0, none⟩), .int .i64 n] H
noncomputable def onceH (c : Curs) (n : Int) (H : Heap) : Heap := resH 32 #[.pointer (some ⟨c.id, 0, none⟩), .int .i64 n] H
@[simp] theorem once_eq {c : Curs} {H : Heap} (hc : Cur c H) (n : Int) : evF Tryz.prog TT 32 #[.pointer (some ⟨c.id, 0, none⟩), .int .i64 n] H = some (.bool (onceX c n H), onceH c n H) := (res_bool (once_ret hc n)).1
theorem once_dr {c : Curs} {H : Heap} (hc : Cur c H) (n : Int) : Dr c H (onceH c n H) := (res_bool (once_ret hc n)).2
@[simp] theorem Cur_once {c : Curs} {H : Heap} (hc : Cur c H) (n : Int) : Cur c (onceH c n H) := (once_dr hc n).1
@[simp] theorem Dr_once {c : Curs} {H K : Heap} (h : Dr c H K) (n : Int) : Dr c H (onceH c n K) := h.trans (once_dr h.1 n)
end Go.Abs

/-
  DRAWS: out of lists, texts.
-/
namespace Go.Abs
open Go Go.Proofs
set_option linter.unusedSimpArgs false
attribute [local simp] fieldAddr

theorem Sl.of_new {α : Type} {es : Nat} {enc : α → List Value} {K : Heap} {cells : List Value} {l : List α} (hc : cells = (l.map enc).flatten) (hl : ∀ x ∈ l, (enc x).length = es) (hs : l.length < 2 ^ 44) : Sl es enc (K.push cells es) (some ⟨K.size, 0, none⟩) l :=
  (Ow.new (lo := 0) (Nat.zero_le _) l hc).sl hl hs

/-- An append to what was made since. -/
theorem Cur.ap {c : Curs} {H K : Heap} (h : Cur c H) (d : Dr c H K) {α : Type} {es : Nat} {enc : α → List Value} {a : Option Addr} {l : List α} (ho : Ow H.size es enc K a l) (len es' : Nat) (news : List Value) : Dr c H (apH K a len es' news) := by
  have u := d.2.ap ho (Nat.le_refl _) len es' news
  obtain ⟨i, k, hb, hs, h0, h1⟩ := d.1
  obtain ⟨_, _, hb0, hs0, _⟩ := h
  have hid := hb0.lt
  have hr := H.rle c.id
  have e : (apH K a len es' news).blk c.id = K.blk c.id := apH_blk ho _ _ _ hb.lt (by rw [d.2.root c.id hid]; omega)
  refine ⟨⟨i, k, ⟨Nat.lt_of_lt_of_le hid u.size, by rw [e]; exact hb.es0, by rw [e]; exact hb.cells, Nat.lt_of_lt_of_le hid u.size, fun j hj hne => ?_⟩, hs0.pe (by decide) u.pe, h0, h1⟩, u⟩
  rw [u.root c.id hid]
  by_cases hj' : j < H.size
  · rw [u.root j hj']; exact hb0.solo.2 j hj' hne
  · have h2 := u.new j (by omega) hj
    omega

/-! ### One of a list of numbers -/
theorem pickInt_ret {c : Curs} {H : Heap} (hc : Cur c H) {a : Option Addr} {l : List Int} (hs : Sl 1 encI H a l) (h0 : 0 < l.length) : Ret Tryz.prog TT 51 #[.pointer (some ⟨c.id, 0, none⟩), .slice a l.length 0] H fun v H' => ∃ x, v = .int .i64 x ∧ Dr c H H' ∧ x ∈ l := by
  refine Ret.go rfl Tryz.func51 rfl (by decide) (by simp [Tryz.ntmps51]) (by kernel_rfl) loc51 Tryz.results51 Tryz.ntmps51 ?_
  have b := below_rng hc (n := l.length) (by have := hs.1; omega)
  have hx := indexAddr_Sl (P := Tryz.prog) hs ti72
  have hp : Pe H (belowH c l.length H) := (below_dr hc _).2.pe
  have hk : (belowX c l.length H).toNat < l.length := by omega
  have hd := hs.ld hp (by decide) (belowX c l.length H).toNat 0 1 hk (by decide)
  simp (maxDischargeDepth := 30) [hc, hx, hd, encI, b]
  omega
theorem pickLit {c : Curs} {K : Heap} (hc : Cur c K) {cells : List Value} {n : Nat} (hn : cells.length = n) (h0 : 0 < n) (hs : n < 2 ^ 44) (ha : cells.all isI = true) :
    Ret Tryz.prog TT 51 #[.pointer (some ⟨c.id, 0, none⟩), .slice (some ⟨K.size, 0, none⟩) n 0] (K.push cells 1) fun v H' => ∃ x, v = .int .i64 x ∧ Dr c (K.push cells 1) H' ∧ .int .i64 x ∈ cells := by
  have e := ints_of cells ha
  have hl : (cells.map intOf').length = n := by simpa using hn
  have h := pickInt_ret (Cur_push hc cells 1) (Sl.of_new (K := K) e (fun _ _ => rfl) (by omega)) (by omega)
  rw [hl] at h
  refine h.mono ?_
  rintro v H' ⟨x, rfl, hd, hx⟩
  refine ⟨x, rfl, hd, ?_⟩
  rw [e]
  exact List.mem_flatten.2 ⟨_, List.mem_map.2 ⟨x, hx, rfl⟩, by simp [encI]⟩
noncomputable def pickX (c : Curs) (n : Nat) (cells : List Value) (K : Heap) : Int := resI 51 #[.pointer (some ⟨c.id, 0, none⟩), .slice (some ⟨K.size, 0, none⟩) n 0] (K.push cells 1)
noncomputable def pickH (c : Curs) (n : Nat) (cells : List Value) (K : Heap) : Heap := resH 51 #[.pointer (some ⟨c.id, 0, none⟩), .slice (some ⟨K.size, 0, none⟩) n 0] (K.push cells 1)
@[simp] theorem pick_eq {c : Curs} {K : Heap} (hc : Cur c K) {cells : List Value} {n : Nat} (hn : cells.length = n) (h0 : 0 < n) (hs : n < 2 ^ 44) (ha : cells.all isI = true) :
    evF Tryz.prog TT 51 #[.pointer (some ⟨c.id, 0, none⟩), .slice (some ⟨K.size, 0, none⟩) n 0] (K.push cells 1) = some (.int .i64 (pickX c n cells K), pickH c n cells K) := (res_int (pickLit hc hn h0 hs ha)).1
theorem pick_dr {c : Curs} {K : Heap} (hc : Cur c K) {cells : List Value} {n : Nat} (hn : cells.length = n) (h0 : 0 < n) (hs : n < 2 ^ 44) (ha : cells.all isI = true) : Dr c K (pickH c n cells K) :=
  (Dr_push (Dr.refl hc) cells 1).trans (res_int (pickLit hc hn h0 hs ha)).2.1
theorem pick_mem {c : Curs} {K : Heap} (hc : Cur c K) {cells : List Value} {n : Nat} (hn : cells.length = n) (h0 : 0 < n) (hs : n < 2 ^ 44) (ha : cells.all isI = true) : .int .i64 (pickX c n cells K) ∈ cells := (res_int (pickLit hc hn h0 hs ha)).2.2
@[simp] theorem Cur_pick {c : Curs} {K : Heap} (hc : Cur c K) {cells : List Value} {n : Nat} (hn : cells.length = n) (h0 : 0 < n) (hs : n < 2 ^ 44) (ha : cells.all isI = true) : Cur c (pickH c n cells K) := (pick_dr hc hn h0 hs ha).1
@[simp] theorem Dr_pick {c : Curs} {H K : Heap} (h : Dr c H K) {cells : List Value} {n : Nat} (hn : cells.length = n) (h0 : 0 < n) (hs : n < 2 ^ 44) (ha : cells.all isI = true) : Dr c H (pickH c n cells K) := h.trans (pick_dr h.1 hn h0 hs ha)

/-! ### One of a list of texts -/
theorem pickStr_ret {c : Curs} {H : Heap} (hc : Cur c H) {a : Option Addr} {l : List (List UInt8)} (hs : Sl 1 encS H a l) (h0 : 0 < l.length) : Ret Tryz.prog TT 80 #[.pointer (some ⟨c.id, 0, none⟩), .slice a l.length 0] H fun v H' => ∃ x, v = S x ∧ Dr c H H' ∧ x ∈ l := by
  refine Ret.go rfl Tryz.func80 rfl (by decide) (by simp [Tryz.ntmps80]) (by kernel_rfl) loc80 Tryz.results80 Tryz.ntmps80 ?_
  have b := below_rng hc (n := l.length) (by have := hs.1; omega)
  have hx := indexAddr_Sl (P := Tryz.prog) hs ti102
  have hp : Pe H (belowH c l.length H) := (below_dr hc _).2.pe
  have hk : (belowX c l.length H).toNat < l.length := by omega
  have hd := hs.ld hp (by decide) (belowX c l.length H).toNat 0 1 hk (by decide)
  simp (maxDischargeDepth := 30) [hc, hx, hd, encS, b]
  exact ⟨by omega, _, rfl, List.getElem_mem hk⟩
theorem pickSLit {c : Curs} {K : Heap} (hc : Cur c K) {cells : List Value} {n : Nat} (hn : cells.length = n) (h0 : 0 < n) (hs : n < 2 ^ 44) (ha : cells.all isS = true) :
    Ret Tryz.prog TT 80 #[.pointer (some ⟨c.id, 0, none⟩), .slice (some ⟨K.size, 0, none⟩) n 0] (K.push cells 1) fun v H' => ∃ x, v = S x ∧ Dr c (K.push cells 1) H' ∧ S x ∈ cells := by
  have e := strs_of cells ha
  have hl : (cells.map strOf').length = n := by simpa using hn
  have h := pickStr_ret (Cur_push hc cells 1) (Sl.of_new (K := K) e (fun _ _ => rfl) (by omega)) (by omega)
  rw [hl] at h
  refine h.mono ?_
  rintro v H' ⟨x, rfl, hd, hx⟩
  refine ⟨x, rfl, hd, ?_⟩
  rw [e]
  exact List.mem_flatten.2 ⟨_, List.mem_map.2 ⟨x, hx, rfl⟩, by simp [encS]⟩
noncomputable def pickSX (c : Curs) (n : Nat) (cells : List Value) (K : Heap) : List UInt8 := resS 80 #[.pointer (some ⟨c.id, 0, none⟩), .slice (some ⟨K.size, 0, none⟩) n 0] (K.push cells 1)
noncomputable def pickSH (c : Curs) (n : Nat) (cells : List Value) (K : Heap) : Heap := resH 80 #[.pointer (some ⟨c.id, 0, none⟩), .slice (some ⟨K.size, 0, none⟩) n 0] (K.push cells 1)
@[simp] theorem pickS_eq {c : Curs} {K : Heap} (hc : Cur c K) {cells : List Value} {n : Nat} (hn : cells.length = n) (h0 : 0 < n) (hs : n < 2 ^ 44) (ha : cells.all isS = true) :
    evF Tryz.prog TT 80 #[.pointer (some ⟨c.id, 0, none⟩), .slice (some ⟨K.size, 0, none⟩) n 0] (K.push cells 1) = some (S (pickSX c n cells K), pickSH c n cells K) := (res_str (pickSLit hc hn h0 hs ha)).1
theorem pickS_dr {c : Curs} {K : Heap} (hc : Cur c K) {cells : List Value} {n : Nat} (hn : cells.length = n) (h0 : 0 < n) (hs : n < 2 ^ 44) (ha : cells.all isS = true) : Dr c K (pickSH c n cells K) :=
  (Dr_push (Dr.refl hc) cells 1).trans (res_str (pickSLit hc hn h0 hs ha)).2.1
theorem pickS_mem {c : Curs} {K : Heap} (hc : Cur c K) {cells : List Value} {n : Nat} (hn : cells.length = n) (h0 : 0 < n) (hs : n < 2 ^ 44) (ha : cells.all isS = true) : S (pickSX c n cells K) ∈ cells := (res_str (pickSLit hc hn h0 hs ha)).2.2
@[simp] theorem Cur_pickS {c : Curs} {K : Heap} (hc : Cur c K) {cells : List Value} {n : Nat} (hn : cells.length = n) (h0 : 0 < n) (hs : n < 2 ^ 44) (ha : cells.all isS = true) : Cur c (pickSH c n cells K) := (pickS_dr hc hn h0 hs ha).1
@[simp] theorem Dr_pickS {c : Curs} {H K : Heap} (h : Dr c H K) {cells : List Value} {n : Nat} (hn : cells.length = n) (h0 : 0 < n) (hs : n < 2 ^ 44) (ha : cells.all isS = true) : Dr c H (pickSH c n cells K) := h.trans (pickS_dr h.1 hn h0 hs ha)

/-! ### A text -/
theorem text_ret {c : Curs} {H : Heap} (hc : Cur c H) (n : Int) (h0 : 0 ≤ n) (hn : n < 2000000000) : Ret Tryz.prog TT 59 #[.pointer (some ⟨c.id, 0, none⟩), .int .i64 n] H fun v H' => ∃ x, v = S x ∧ Dr c H H' ∧ (x.length : Int) ≤ n := by
  refine Ret.go rfl Tryz.func59 rfl (by decide) (by simp [Tryz.ntmps59]) (by kernel_rfl) loc59 Tryz.results59 Tryz.ntmps59 ?_
  have hwn : IntKind.i64.wrap (n + 1) = n + 1 := wrap_i64 (by omega) (by omega)
  simp (maxDischargeDepth := 30) [hc, hwn]
  have hp : Dr c H (H.push [] 1) := Dr_push (Dr.refl hc) [] 1
  have h1 := hp.trans (below_dr hp.1 4)
  have h2 := h1.trans (below_dr h1.1 (n + 1))
  have b2 := below_rng h1.1 (n := n + 1) (by omega)
  generalize belowX c (n + 1) (belowH c 4 (H.push [] 1)) = k at b2 ⊢
  have ho : Ow H.size 1 encB (belowH c (n + 1) (belowH c 4 (H.push [] 1))) (some ⟨H.size, 0, none⟩) [] :=
    (Ow.new (Nat.le_refl _) [] rfl).pe (by decide) ((below_dr hp.1 4).2.pe.trans (below_dr h1.1 _).2.pe)
  generalize belowH c (n + 1) (belowH c 4 (H.push [] 1)) = K at h2 ho ⊢
  generalize belowX c 4 (H.push [] 1) = st
  refine mC_loop (fun j s => ∃ (e : Nat → Value) (loc : Nat → List Value) (g : Nat) (K : Heap) (a : Option Addr) (l : List UInt8), s = ⟨e, loc, g, K, 38⟩ ∧ Dr c H K ∧ Ow H.size 1 encB K a l ∧ e 0 = .pointer (some ⟨c.id, 0, none⟩) ∧
    e 5 = .slice a l.length 0 ∧ e 6 = .int .i64 st ∧ e 7 = .int .i64 j ∧ (l.length : Int) + j ≤ n) ?_ (j := k.toNat) ⟨_, _, _, K, _, [], rfl, h2, ho, by simp, by simp, by simp, by simp; omega, by simp; omega⟩
  rintro j s ⟨e, loc, g, K, a, l, rfl, hd, ho, h0, h5, h6, h7, hl⟩
  simp (maxDischargeDepth := 30) [h0, h5, h6, h7, hd.1]
  refine pendP (fun c1 => ?_) (fun c1 => ?_)
  · have hb := byte_rng hd.1
    have hp := (byte_dr hd.1).2.pe
    have ho1 := ho.pe (by decide) hp
    have ap := append_one (P := Tryz.prog) ti22 ho1 (fun _ _ => rfl) (by omega) (by decide) un22
    have hw : IntKind.i64.wrap ((j : Int) - 1) = ((j - 1 : Nat) : Int) := by rw [wrap_i64 (by omega) (by omega)]; omega
    have fin : ∀ y : Int, 0 ≤ y → y ≤ 255 → Dr c H (apH ((byteH c K).push [.int .u8 y] 1) a l.length 1 [.int .u8 y]) ∧ Ow H.size 1 encB (apH ((byteH c K).push [.int .u8 y] 1) a l.length 1 [.int .u8 y]) (some ⟨(byteH c K).size + 1, 0, none⟩) (l ++ [UInt8.ofNat y.toNat]) := by
      intro y y0 y1
      have hd2 := Dr_push (Dr_byte hd) [.int .u8 y] 1
      have ho2 := ho1.pe (by decide) ((Upd_refl _).push (B := no) [.int .u8 y] 1).pe
      have hy : [Value.int .u8 y] = ([UInt8.ofNat y.toNat].map encB).flatten := by simp [encB, byteV]; omega
      have ho3 := ho2.ap (fun _ _ => rfl) (by have := hd2.2.size; exact this) (len := l.length) rfl [UInt8.ofNat y.toNat] hy
      exact ⟨hc.ap hd2 ho2 _ _ _, ho3⟩
    simp (maxDischargeDepth := 30) [h0, h5, h6, h7, hd.1, ap, hw, c1]
    refine pendP (fun c2 => ?_) (fun c2 => ?_)
    · simp (maxDischargeDepth := 30) [h0, h5, h6, h7, hd.1, ap, hw, c1, c2]
      exact again_intro (j - 1) (by omega) ⟨_, _, _, _, _, _, rfl, (fin _ (by omega) (by omega)).1, (fin _ (by omega) (by omega)).2, by simp [h0], by simp, by simp [h6], by simp, by simp; omega⟩
    · simp (maxDischargeDepth := 30) [h0, h5, h6, h7, hd.1, ap, hw, c1, c2]
      refine pendP (fun c3 => ?_) (fun c3 => ?_)
      · simp (maxDischargeDepth := 30) [h0, h5, h6, h7, hd.1, ap, hw, c1, c2, c3]
        exact again_intro (j - 1) (by omega) ⟨_, _, _, _, _, _, rfl, (fin _ (by omega) (by omega)).1, (fin _ (by omega) (by omega)).2, by simp [h0], by simp, by simp [h6], by simp, by simp; omega⟩
      · simp (maxDischargeDepth := 30) [h0, h5, h6, h7, hd.1, ap, hw, c1, c2, c3]
        exact again_intro (j - 1) (by omega) ⟨_, _, _, _, _, _, rfl, (fin _ (by omega) (by omega)).1, (fin _ (by omega) (by omega)).2, by simp [h0], by simp, by simp [h6], by simp, by simp; omega⟩
  · have cv := convert_bytes (P := Tryz.prog) ho un22 un5 un9 (Pe_refl K ▸ trivial) rfl
    simp (maxDischargeDepth := 30) [h0, h5, h6, h7, hd.1, c1, cv, hc]
    exact ⟨l, rfl, Dr_gc hc hd _, by omega⟩
noncomputable def textX (c : Curs) (n : Int) (H : Heap) : List UInt8 := resS 59 #[.pointer (some ⟨c.id, 0, none⟩), .int .i64 n] H
noncomputable def textH (c : Curs) (n : Int) (H : Heap) : Heap := resH 59 #[.pointer (some ⟨c.id, 0, none⟩), .int .i64 n] H
@[simp] theorem text_eq {c : Curs} {H : Heap} (hc : Cur c H) (n : Int) (h0 : 0 ≤ n) (hn : n < 2000000000) : evF Tryz.prog TT 59 #[.pointer (some ⟨c.id, 0, none⟩), .int .i64 n] H = some (S (textX c n H), textH c n H) := (res_str (text_ret hc n h0 hn)).1
theorem text_dr {c : Curs} {H : Heap} (hc : Cur c H) (n : Int) (h0 : 0 ≤ n) (hn : n < 2000000000) : Dr c H (textH c n H) := (res_str (text_ret hc n h0 hn)).2.1
theorem text_len {c : Curs} {H : Heap} (hc : Cur c H) (n : Int) (h0 : 0 ≤ n) (hn : n < 2000000000) : ((textX c n H).length : Int) ≤ n := (res_str (text_ret hc n h0 hn)).2.2
@[simp] theorem Cur_text {c : Curs} {H : Heap} (hc : Cur c H) (n : Int) (h0 : 0 ≤ n) (hn : n < 2000000000) : Cur c (textH c n H) := (text_dr hc n h0 hn).1
@[simp] theorem Dr_text {c : Curs} {H K : Heap} (h : Dr c H K) (n : Int) (h0 : 0 ≤ n) (hn : n < 2000000000) : Dr c H (textH c n K) := h.trans (text_dr h.1 n h0 hn)
end Go.Abs

/-
  PLAIN LAWS: numbers as bytes. No program in sight.
-/
namespace Go.Abs
set_option linter.unusedSimpArgs false

theorem List.reverseRecOn' {α : Type} {motive : List α → Prop} (l : List α) (nil : motive []) (snoc : ∀ (l : List α) (x : α), motive l → motive (l ++ [x])) : motive l := by
  have h : ∀ l : List α, motive l.reverse := by
    intro l
    induction l with
    | nil => exact nil
    | cons x l ih => rw [List.reverse_cons]; exact snoc _ x ih
  have := h l.reverse
  rwa [List.reverse_reverse] at this

/-- The lowest bytes of a number, the highest of them first. -/
def be : Nat → Nat → List UInt8
  | 0, _ => []
  | w + 1, n => UInt8.ofNat (n / 256 ^ w) :: be w n
def fixed (n w : Int) : List UInt8 := if 1 ≤ w ∧ w ≤ 7 ∧ 0 ≤ n ∧ n < 256 ^ w.toNat then be w.toNat n.toNat else []
def readBE : List UInt8 → Nat → Nat
  | [], n => n
  | b :: r, n => readBE r (n * 256 + b.toNat)
/-- The number at the head of a text. -/
def readFixed (s : List UInt8) (w : Int) : Int × Bool := if 1 ≤ w ∧ w ≤ 7 ∧ w ≤ s.length then ((readBE (s.take w.toNat) 0 : Nat), true) else (0, false)

def varN : Nat → Nat → List UInt8
  | 0, _ => []
  | f + 1, n => if n < 128 then [UInt8.ofNat n] else UInt8.ofNat (n % 128 + 128) :: varN f (n / 128)
def maxVar : Int := 562949953421311
def var (n : Int) : List UInt8 := if 0 ≤ n ∧ n ≤ maxVar then varN 20 n.toNat else []

def rv : List UInt8 → Nat → Nat → Nat × Nat
  | [], _, _ => (0, 0)
  | b :: r, i, n =>
    if 7 ≤ i then (0, 0) else
    let n' := n + (b.toNat % 128) * 128 ^ i
    if 128 ≤ b.toNat then rv r (i + 1) n'
    else if b.toNat = 0 ∧ 0 < i then (0, 0)
    else (n', i + 1)
/-- The number at the head of a text, and how many bytes it has; (0, 0) where there is none. -/
def readVar (s : List UInt8) : Nat × Nat := rv s 0 0

/-! ### Crc -/
def crcRounds : Nat → Nat → Nat
  | 0, c => c
  | k + 1, c => crcRounds k (if c % 2 = 1 then (c / 2) ^^^ 2197175160 else c / 2)
def crcL : List UInt8 → Nat → Nat
  | [], c => c
  | b :: r, c => crcL r (crcRounds 8 (c ^^^ b.toNat))
def crc (s : List UInt8) : Nat := 4294967295 - crcL s 4294967295

theorem be_length : ∀ w n, (be w n).length = w
  | 0, _ => rfl
  | w + 1, n => by simp [be, be_length w n]
theorem fixed_length (n w : Int) : (fixed n w).length ≤ 7 := by
  unfold fixed
  split
  · rw [be_length]; omega
  · simp

theorem varN_ne (f n : Nat) (h : 0 < f) : varN f n ≠ [] := by
  cases f with
  | zero => omega
  | succ f =>
    unfold varN
    split <;> simp
theorem varN_len : ∀ (k f n : Nat), n < 128 ^ k → 0 < k → (varN f n).length ≤ k
  | 0, _, _, _, h => by omega
  | k + 1, 0, n, _, _ => by simp [varN]
  | k + 1, f + 1, n, hn, _ => by
    unfold varN
    split
    · simp
    · rename_i h
      by_cases hk : k = 0
      · subst hk; omega
      · have := varN_len k f (n / 128) (by rw [Nat.pow_succ] at hn; omega) (by omega)
        simp; omega
theorem var_len (n : Int) : (var n).length ≤ 7 := by
  unfold var
  split
  · rename_i h
    exact varN_len 7 20 n.toNat (by have := h.2; unfold maxVar at this; omega) (by omega)
  · simp
theorem var_nil (n : Int) : var n = [] ↔ ¬ (0 ≤ n ∧ n ≤ maxVar) := by
  unfold var
  split
  · rename_i h
    exact ⟨fun e => absurd e (varN_ne _ _ (by omega)), fun k => absurd h k⟩
  · rename_i h
    exact ⟨fun _ => h, fun _ => rfl⟩

theorem u8_ofNat {n : Nat} (h : n < 256) : (UInt8.ofNat n).toNat = n := by
  rw [UInt8.toNat_ofNat']
  omega

/-- What is shown is read. -/
theorem rv_varN : ∀ (k f n i acc : Nat) (r : List UInt8), n < 128 ^ k → k + i ≤ 7 → k ≤ f → 0 < k → (0 < i → 0 < n) → rv (varN f n ++ r) i acc = (acc + n * 128 ^ i, i + (varN f n).length)
  | 0, _, _, _, _, _, _, _, _, h, _ => by omega
  | k + 1, 0, _, _, _, _, _, _, h, _, _ => by omega
  | k + 1, f + 1, n, i, acc, r, hn, hk, hf, _, hi => by
    unfold varN
    by_cases h : n < 128
    · rw [if_pos h]
      have hb : (UInt8.ofNat n).toNat = n := u8_ofNat (by omega)
      simp only [List.cons_append, List.nil_append, rv, hb]
      rw [if_neg (by omega), if_neg (by omega), if_neg (by omega), Nat.mod_eq_of_lt h]
      rfl
    · rw [if_neg h]
      have hb : (UInt8.ofNat (n % 128 + 128)).toNat = n % 128 + 128 := u8_ofNat (by omega)
      simp only [List.cons_append, rv, hb]
      rw [if_neg (by omega), if_pos (by omega)]
      by_cases hk0 : k = 0
      · subst hk0; omega
      · rw [rv_varN k f (n / 128) (i + 1) _ r (by rw [Nat.pow_succ] at hn; omega) (by omega) (by omega) (by omega) (fun _ => by omega)]
        have e : (n % 128 + 128) % 128 = n % 128 := by omega
        rw [e]
        have e2 : n % 128 * 128 ^ i + n / 128 * 128 ^ (i + 1) = n * 128 ^ i := by
          rw [Nat.pow_succ, ← Nat.mul_assoc, Nat.mul_right_comm, ← Nat.add_mul]
          congr 1
          omega
        rw [Nat.add_assoc, e2]
        simp
        omega
theorem readVar_var {n : Int} (h : 0 ≤ n ∧ n ≤ maxVar) (r : List UInt8) : readVar (var n ++ r) = (n.toNat, (var n).length) := by
  unfold readVar var
  rw [if_pos h, rv_varN 7 20 n.toNat 0 0 r (by have := h.2; unfold maxVar at this; omega) (by omega) (by omega) (by omega) (fun h => by omega)]
  simp
theorem rv_bound : ∀ (s : List UInt8) (i n : Nat), n < 128 ^ i → (rv s i n).1 < 128 ^ 7 ∧ (rv s i n).2 ≤ 7 ∧ (rv s i n).2 ≤ i + s.length
  | [], i, n, _ => by simp [rv]
  | b :: r, i, n, hn => by
    unfold rv
    by_cases h7 : 7 ≤ i
    · rw [if_pos h7]; simp
    · rw [if_neg h7]
      have hm : b.toNat % 128 < 128 := Nat.mod_lt _ (by omega)
      have hlt : n + b.toNat % 128 * 128 ^ i < 128 ^ (i + 1) := by
        have h1 : b.toNat % 128 * 128 ^ i ≤ 127 * 128 ^ i := Nat.mul_le_mul_right _ (by omega)
        rw [Nat.pow_succ]
        omega
      simp only
      split
      · have ih := rv_bound r (i + 1) _ hlt
        refine ⟨ih.1, ih.2.1, ?_⟩
        simp; omega
      · split
        · simp
        · exact ⟨Nat.lt_of_lt_of_le hlt (Nat.pow_le_pow_right (by omega) (by omega)), by show i + 1 ≤ 7; omega, by simp⟩
theorem readVar_bound (s : List UInt8) : ((readVar s).1 : Int) ≤ maxVar ∧ (readVar s).2 ≤ 7 ∧ (readVar s).2 ≤ s.length := by
  have := rv_bound s 0 0 (by simp)
  unfold readVar maxVar
  have e : (128 : Nat) ^ 7 = 562949953421312 := by decide
  rw [e] at this
  omega
/-- What is read is shown so. -/
theorem varN_rv : ∀ (s : List UInt8) (i n m k : Nat), n < 128 ^ i → rv s i n = (m, k) → 0 < k → ∃ q, m = n + q * 128 ^ i ∧ q < 128 ^ (k - i) ∧ i < k ∧ k ≤ 7 ∧ (0 < i → 0 < q) ∧ ∀ f, k - i ≤ f → varN f q = s.take (k - i)
  | [], i, n, m, k, _, h, h0 => by simp [rv] at h; omega
  | b :: r, i, n, m, k, hn, h, h0 => by
    unfold rv at h
    have hb : b.toNat < 256 := UInt8.toNat_lt b
    by_cases h7 : 7 ≤ i
    · rw [if_pos h7] at h; simp at h; omega
    · rw [if_neg h7] at h
      simp only at h
      have hm : b.toNat % 128 < 128 := Nat.mod_lt _ (by omega)
      have hlt : n + b.toNat % 128 * 128 ^ i < 128 ^ (i + 1) := by
        have h1 : b.toNat % 128 * 128 ^ i ≤ 127 * 128 ^ i := Nat.mul_le_mul_right _ (by omega)
        rw [Nat.pow_succ]
        omega
      split at h
      · rename_i h128
        obtain ⟨q, e1, e2, e3, e4, e5, e6⟩ := varN_rv r (i + 1) _ m k hlt h h0
        have hq := e5 (by omega)
        have ek : k - i = (k - (i + 1)) + 1 := by omega
        refine ⟨b.toNat % 128 + q * 128, ?_, ?_, by omega, e4, fun _ => by omega, fun f hf => ?_⟩
        · rw [e1, Nat.pow_succ, Nat.add_mul, Nat.mul_assoc, Nat.add_assoc, Nat.mul_comm 128 (128 ^ i)]
        · rw [ek, Nat.pow_succ]; omega
        · obtain ⟨f, rfl⟩ : ∃ g, f = g + 1 := ⟨f - 1, by omega⟩
          unfold varN
          rw [if_neg (by omega)]
          have m1 : (b.toNat % 128 + q * 128) % 128 + 128 = b.toNat := by omega
          have m2 : (b.toNat % 128 + q * 128) / 128 = q := by omega
          rw [m1, m2, e6 f (by omega), ek]
          simp
      · rename_i h128
        split at h
        · simp at h; omega
        · rename_i hz
          simp only [Prod.mk.injEq] at h
          obtain ⟨rfl, rfl⟩ := h
          have e : b.toNat % 128 = b.toNat := by omega
          refine ⟨b.toNat, by rw [e], ?_, by omega, by omega, fun hi => by omega, fun f hf => ?_⟩
          · have : i + 1 - i = 1 := by omega
            rw [this]; omega
          · obtain ⟨f, rfl⟩ : ∃ g, f = g + 1 := ⟨f - 1, by omega⟩
            unfold varN
            rw [if_pos (by omega)]
            have : i + 1 - i = 1 := by omega
            rw [this]
            simp
theorem readVar_some {s : List UInt8} {m k : Nat} (h : readVar s = (m, k)) (h0 : 0 < k) : var m = s.take k ∧ k ≤ 7 ∧ k ≤ s.length ∧ (m : Int) ≤ maxVar := by
  obtain ⟨q, e1, e2, e3, e4, e5, e6⟩ := varN_rv s 0 0 m k (by simp) h h0
  have hb := readVar_bound s
  rw [h] at hb
  have e : m = q := by simpa using e1
  subst e
  refine ⟨?_, hb.2.1, hb.2.2, hb.1⟩
  unfold var
  rw [if_pos ⟨by omega, hb.1⟩, Int.toNat_natCast, e6 20 (by omega), Nat.sub_zero]

theorem pow256 (u : Nat) : (256 : Int) ^ u = ((256 ^ u : Nat) : Int) := (Int.natCast_pow 256 u).symm
theorem pow8 (i : Nat) : (2 : Nat) ^ (8 * i) = 256 ^ i := by rw [Nat.pow_mul]
theorem shr_nat (m i : Nat) (hi : i ≤ 8) : Int.fdiv (m : Int) (2 ^ (min (8 * i) 64)) = ((m / 256 ^ i : Nat) : Int) := by
  rw [Nat.min_eq_left (by omega), Int.fdiv_eq_ediv_of_nonneg _ (by exact_mod_cast Nat.zero_le _), ← pow8]
  simp
theorem be_succ_left (w n : Nat) : be (w + 1) n = UInt8.ofNat (n / 256 ^ w) :: be w n := rfl
theorem be_mod : ∀ w n, be w (n % 256 ^ w) = be w n
  | 0, _ => rfl
  | w + 1, n => by
    have e : n % 256 ^ (w + 1) % 256 ^ w = n % 256 ^ w := by
      rw [Nat.pow_succ]; exact Nat.mod_mul_right_mod n (256 ^ w) 256
    have h1 : be w (n % 256 ^ (w + 1)) = be w n := by rw [← be_mod w (n % 256 ^ (w + 1)), e, be_mod w n]
    rw [be, be, h1]
    congr 1
    have h2 : n % 256 ^ (w + 1) / 256 ^ w = n / 256 ^ w % 256 := by
      rw [Nat.pow_succ, Nat.mod_mul_right_div_self]
    rw [h2, ← UInt8.toNat_inj, UInt8.toNat_ofNat', UInt8.toNat_ofNat']
    omega
theorem be_snoc : ∀ w n, be (w + 1) n = be w (n / 256) ++ [UInt8.ofNat n]
  | 0, n => by simp [be]
  | w + 1, n => by
    have ih := be_snoc w n
    rw [be, ih, be]
    congr 2
    rw [Nat.pow_succ, Nat.mul_comm, Nat.div_div_eq_div_mul]
theorem readBE_append : ∀ (a b : List UInt8) (n : Nat), readBE (a ++ b) n = readBE b (readBE a n)
  | [], _, _ => rfl
  | x :: a, b, n => readBE_append a b _
theorem readBE_be : ∀ w n acc, n < 256 ^ w → readBE (be w n) acc = acc * 256 ^ w + n
  | 0, n, acc, h => by simp [be, readBE] at h ⊢; omega
  | w + 1, n, acc, h => by
    rw [be_snoc, readBE_append, readBE_be w (n / 256) acc (by rw [Nat.pow_succ] at h; omega)]
    simp only [readBE, UInt8.toNat_ofNat']
    rw [Nat.add_mul, Nat.mul_assoc, ← Nat.pow_succ, Nat.succ_eq_add_one]
    omega
theorem readBE_lt : ∀ (s : List UInt8) (n k : Nat), n < 256 ^ k → readBE s n < 256 ^ (k + s.length)
  | [], n, k, h => by simpa [readBE] using h
  | b :: r, n, k, h => by
    have hb : b.toNat < 256 := UInt8.toNat_lt b
    have := readBE_lt r (n * 256 + b.toNat) (k + 1) (by rw [Nat.pow_succ]; omega)
    rw [readBE, List.length_cons]
    have e : k + (r.length + 1) = k + 1 + r.length := by omega
    rw [e]
    exact this
theorem be_readBE : ∀ (s : List UInt8), be s.length (readBE s 0) = s := by
  have key : ∀ (s : List UInt8) (n : Nat), be s.length (readBE s n) = s := by
    intro s
    induction s using List.reverseRecOn' with
    | nil => intro n; rfl
    | snoc s b ih =>
      intro n
      rw [readBE_append]
      simp only [readBE, List.length_append, List.length_cons, List.length_nil, Nat.zero_add]
      have hb : b.toNat < 256 := UInt8.toNat_lt b
      rw [be_snoc]
      have e : (readBE s n * 256 + b.toNat) / 256 = readBE s n := by omega
      rw [e, ih]
      congr 2
      rw [← UInt8.toNat_inj, UInt8.toNat_ofNat']
      omega
  exact fun s => key s 0
end Go.Abs

/-
  PLAIN LAWS: frames, differences, a reader.
-/
namespace Go.Abs
set_option linter.unusedSimpArgs false

def frame (b : List UInt8) : List UInt8 := if 1 ≤ b.length ∧ b.length ≤ 2000 then fixed b.length 4 ++ (fixed (crc (fixed b.length 4 ++ b)) 4 ++ b) else []
/-- The body of a frame at the head of a text, how many bytes the frame has, and a code (0, 1, 2). -/
def unframe (s : List UInt8) : List UInt8 × Int × Int :=
  if 4 ≤ s.length then
    let n := readBE (s.take 4) 0
    if 1 ≤ n ∧ n ≤ 2000 then
      if s.length < n + 8 then ([], 0, 1)
      else if frame ((s.take (n + 8)).drop 8) = s.take (n + 8) then ((s.take (n + 8)).drop 8, n + 8, 0) else ([], 0, 2)
    else ([], 0, 2)
  else ([], 0, 1)

def maxZig : Int := 140737488355328
def zigZag (n : Int) : Int := if 0 ≤ n ∧ n ≤ maxZig then 2 * n else if -maxZig ≤ n ∧ n ≤ -1 then -2 * n - 1 else -1
def unZig (z : Int) : Int × Bool := if 0 ≤ z ∧ z ≤ 2 * maxZig then (if z % 2 = 1 then -((z + 1) / 2) else z / 2, true) else (0, false)
def zig (n : Int) : List UInt8 := var (zigZag n)

/-! ### The reader: what is left, and whether all was well -/
def rnum (s : List UInt8) (ok : Bool) : Nat × List UInt8 × Bool := if ok = true ∧ 0 < (readVar s).2 then ((readVar s).1, s.drop (readVar s).2, true) else (0, s, false)
def rbytes (s : List UInt8) (ok : Bool) (n : Nat) : List UInt8 × List UInt8 × Bool := if ok = true ∧ n ≤ s.length then (s.take n, s.drop n, true) else ([], s, false)
def rpiece (s : List UInt8) (ok : Bool) : List UInt8 × List UInt8 × Bool := rbytes (rnum s ok).2.1 (rnum s ok).2.2 (rnum s ok).1
def rkind (s : List UInt8) (ok : Bool) : Nat × List UInt8 × Bool := (((rbytes s ok 1).1[0]?.getD 0).toNat, (rbytes s ok 1).2.1, (rbytes s ok 1).2.2)
def rcount (s : List UInt8) (ok : Bool) (most : Int) : Nat × List UInt8 × Bool :=
  if (rnum s ok).2.2 = true ∧ ((rnum s ok).1 : Int) ≤ most then rnum s ok else (0, (rnum s ok).2.1, false)
def rzag (s : List UInt8) (ok : Bool) : Int × List UInt8 × Bool := ((unZig (rnum s ok).1).1, (rnum s ok).2.1, (rnum s ok).2.2 && (unZig (rnum s ok).1).2)

/-- A text that is no longer than the machine lets one be. -/
def Sm (s : List UInt8) : Prop := s.length < 2 ^ 61
theorem Sm.lt {s : List UInt8} (h : Sm s) : s.length < 2 ^ 61 := h
theorem Sm_le {s t : List UInt8} (h : Sm s) (k : t.length ≤ s.length) : Sm t := Nat.lt_of_le_of_lt k h
@[simp] theorem Sm_drop {s : List UInt8} (h : Sm s) (n : Nat) : Sm (s.drop n) := Sm_le h (by simp)
@[simp] theorem Sm_take {s : List UInt8} (h : Sm s) (n : Nat) : Sm (s.take n) := Sm_le h (by simp; omega)
@[simp] theorem Sm_nil : Sm [] := by unfold Sm; decide
theorem rnum_len (s : List UInt8) (ok : Bool) : (rnum s ok).2.1.length ≤ s.length := by
  unfold rnum
  split <;> simp
theorem rbytes_len (s : List UInt8) (ok : Bool) (n : Nat) : (rbytes s ok n).2.1.length ≤ s.length ∧ (rbytes s ok n).1.length ≤ s.length := by
  unfold rbytes
  split <;> simp; omega
theorem rbytes_le (s : List UInt8) (ok : Bool) (n : Nat) : (rbytes s ok n).1.length ≤ n := by
  unfold rbytes
  split
  · simp; omega
  · simp
@[simp] theorem Sm_rnum {s : List UInt8} (h : Sm s) (ok : Bool) : Sm (rnum s ok).2.1 := Sm_le h (rnum_len s ok)
@[simp] theorem Sm_rbytes {s : List UInt8} (h : Sm s) (ok : Bool) (n : Nat) : Sm (rbytes s ok n).2.1 := Sm_le h (rbytes_len s ok n).1
@[simp] theorem Sm_rbytes1 {s : List UInt8} (h : Sm s) (ok : Bool) (n : Nat) : Sm (rbytes s ok n).1 := Sm_le h (rbytes_len s ok n).2
@[simp] theorem Sm_rpiece {s : List UInt8} (h : Sm s) (ok : Bool) : Sm (rpiece s ok).2.1 := Sm_rbytes (Sm_rnum h ok) _ _
@[simp] theorem Sm_rpiece1 {s : List UInt8} (h : Sm s) (ok : Bool) : Sm (rpiece s ok).1 := Sm_rbytes1 (Sm_rnum h ok) _ _
@[simp] theorem Sm_rkind {s : List UInt8} (h : Sm s) (ok : Bool) : Sm (rkind s ok).2.1 := Sm_rbytes h _ _
@[simp] theorem Sm_rcount {s : List UInt8} (h : Sm s) (ok : Bool) (m : Int) : Sm (rcount s ok m).2.1 := by
  unfold rcount
  split <;> simp [h]
@[simp] theorem Sm_rzag {s : List UInt8} (h : Sm s) (ok : Bool) : Sm (rzag s ok).2.1 := Sm_rnum h ok
theorem rnum_le (s : List UInt8) (ok : Bool) : ((rnum s ok).1 : Int) ≤ maxVar := by
  unfold rnum
  split
  · exact (readVar_bound s).1
  · show (0 : Int) ≤ maxVar
    unfold maxVar; decide

theorem be_fixed4 {n : Nat} (h : n < 256 ^ 4) : fixed n 4 = be 4 n := by
  unfold fixed
  have e : (256 : Int) ^ Int.toNat 4 = ((256 ^ 4 : Nat) : Int) := by decide
  rw [if_pos ⟨by decide, by decide, by omega, by rw [e]; omega⟩]
  rfl
theorem frame_len (b : List UInt8) : (frame b).length ≤ 2014 := by
  unfold frame
  split
  · have := fixed_length b.length 4
    have := fixed_length (crc (fixed b.length 4 ++ b)) 4
    simp; omega
  · simp
end Go.Abs

/-
  CONTRACTS: numbers as bytes.
-/
namespace Go.Abs
open Go Go.Proofs
set_option linter.unusedSimpArgs false
attribute [local simp] fieldAddr

/-- A whole number's lowest byte. -/
def u8i (y : Int) : UInt8 := UInt8.ofNat (y % 256).toNat
theorem u8i_nat (n : Nat) : u8i n = UInt8.ofNat n := by
  unfold u8i
  rw [← UInt8.toNat_inj, UInt8.toNat_ofNat', UInt8.toNat_ofNat']
  omega
theorem byteV_u8i (y : Int) : byteV (u8i y) = .int .u8 (y % 256) := by
  unfold byteV u8i
  rw [UInt8.toNat_ofNat']
  congr 1
  omega

/-- An append of one byte in the midst of a call that makes nothing else. -/
theorem ow_push {H K : Heap} {a : Option Addr} {l : List UInt8} (hu : Upd no H K) (ho : Ow H.size 1 encB K a l) (y : Int) :
    Upd no H (apH (K.push [.int .u8 (y % 256)] 1) a l.length 1 [.int .u8 (y % 256)]) ∧ Ow H.size 1 encB (apH (K.push [.int .u8 (y % 256)] 1) a l.length 1 [.int .u8 (y % 256)]) (some ⟨K.size + 1, 0, none⟩) (l ++ [u8i y]) := by
  have ho2 := ho.pe (by decide) ((Upd_refl K).push [.int .u8 (y % 256)] 1).pe
  have hy : [Value.int .u8 (y % 256)] = ([u8i y].map encB).flatten := by
    simp [encB, byteV_u8i]
  exact ⟨(hu.push _ 1).ap ho2 (Nat.le_refl _) _ _ _, by simpa using ho2.ap (fun _ _ => rfl) (by have := hu.size; simp; omega) (len := l.length) rfl [u8i y] hy⟩

theorem l1In_eq (a b c : Int) (H : Heap) : evF Tryz.prog TT 29 #[.int .i64 a, .int .i64 b, .int .i64 c] H = some (.bool (decide (b ≤ a ∧ a ≤ c)), H) := by
  refine Ret.eq ?_
  refine Ret.go rfl Tryz.func29 rfl (by decide) (by simp [Tryz.ntmps29]) (by kernel_rfl) loc29 Tryz.results29 Tryz.ntmps29 ?_
  simp
  refine pendP (fun h => ?_) (fun h => ?_) <;> simp [h]

theorem var_eq (n : Int) (H : Heap) : evF Tryz.prog TT 23 #[.int .i64 n] H = some (S (var n), H) := by
  refine Ret.eq ?_
  refine Ret.go rfl Tryz.func23 rfl (by decide) (by simp [Tryz.ntmps23]) (by kernel_rfl) loc23 Tryz.results23 Tryz.ntmps23 ?_
  simp [from_eq]
  refine pendB (fun c1 => ?_) (fun c1 => ?_)
  · simp [c1]
    simp at c1
    unfold var maxVar
    rw [if_neg (by omega)]
  · simp [c1]
    simp at c1
    obtain ⟨m, rfl⟩ : ∃ m : Nat, n = m := ⟨n.toNat, by omega⟩
    have hm : m < 2 ^ 50 := by omega
    refine mC_loop (fun j s => ∃ (e : Nat → Value) (loc : Nat → List Value) (g : Nat) (K : Heap) (a : Option Addr) (l : List UInt8) (f : Nat), s = ⟨e, loc, g, K, 25⟩ ∧ Upd no H K ∧ Ow H.size 1 encB K a l ∧ e 0 = .int .i64 j ∧
      e 3 = .slice a l.length 0 ∧ l ++ varN (f + 1) j = var m ∧ l.length + f = 19 ∧ j < 128 ^ (f + 1) ∧ j ≤ m) ?_ (j := m) ⟨_, _, _, _, _, [], 19, rfl, (Upd_refl H).push [] 1, Ow.new (Nat.le_refl _) [] rfl, by simp, by simp, by
        unfold var; rw [if_pos (by unfold maxVar; omega)]; rfl, rfl, Nat.lt_of_lt_of_le hm (by decide), Nat.le_refl _⟩
    rintro j s ⟨e, loc, g, K, a, l, f, rfl, hu, ho, h0, h3, hv, hf, hj, hjm⟩
    have ap := append_one (P := Tryz.prog) ti22 ho (fun _ _ => rfl) (by omega) (by decide) un22
    simp [h0, h3]
    refine pendP (fun c2 => ?_) (fun c2 => ?_)
    · have t1 : (j : Int).tmod 128 = ((j % 128 : Nat) : Int) := by rw [Int.tmod_eq_emod_of_nonneg (by omega)]; omega
      have t2 : IntKind.i64.wrap ((j : Int).tdiv 128) = ((j / 128 : Nat) : Int) := by
        rw [Int.tdiv_eq_ediv_of_nonneg (by omega), wrap_i64 (by omega) (by omega)]; omega
      have t2' : IntKind.i64.wrap ((j : Int) / 128) = ((j / 128 : Nat) : Int) := by rw [wrap_i64 (by omega) (by omega)]; omega
      have t3 : IntKind.i64.wrap (((j % 128 : Nat) : Int) + 128) = ((j % 128 + 128 : Nat) : Int) := by rw [wrap_i64 (by omega) (by omega)]; omega
      simp [h0, h3, c2, t1, t2, t2', t3, -Int.natCast_emod, -Int.natCast_ediv, ap]
      obtain ⟨p1, p2⟩ := ow_push hu ho ((j % 128 + 128 : Nat) : Int)
      obtain ⟨f, rfl⟩ : ∃ q, f = q + 1 := ⟨f - 1, by
        by_cases hf0 : f = 0
        · subst hf0; simp at hj; omega
        · omega⟩
      refine again_intro (j / 128) (by omega) ⟨_, _, _, _, _, _, f, rfl, p1, p2, by simp, by simp, ?_, by simp; omega, by rw [Nat.pow_succ] at hj; clear t1 t2 t2' t3; omega, by omega⟩
      rw [← hv, List.append_assoc, u8i_nat]
      congr 1
      conv => rhs; rw [varN, if_neg (by omega)]
      rfl
    · obtain ⟨p1, p2⟩ := ow_push hu ho j
      have cv := convert_bytes (P := Tryz.prog) p2 un22 un5 un9 (Pe_refl _ ▸ trivial) (m := l.length + 1) (by simp)
      simp [h0, h3, c2, ap, cv]
      refine ⟨?_, gc_flat rfl p1⟩
      rw [← hv, u8i_nat, varN, if_pos (by omega)]

theorem specVar_eq (n : Int) (H : Heap) : evF Tryz.prog TT 60 #[.int .i64 n] H = some (S (var n), H) := by
  refine Ret.eq ?_
  refine Ret.go rfl Tryz.func60 rfl (by decide) (by simp [Tryz.ntmps60]) (by kernel_rfl) loc60 Tryz.results60 Tryz.ntmps60 ?_
  simp [l1In_eq]
  refine pendB (fun c1 => ?_) (fun c1 => ?_)
  · simp [c1]
    simp at c1
    unfold var maxVar
    rw [if_neg (by omega)]
  · simp [c1]
    simp at c1
    obtain ⟨m, rfl⟩ : ∃ m : Nat, n = m := ⟨n.toNat, by omega⟩
    have hm : m < 2 ^ 50 := by omega
    refine mC_loop (fun j s => ∃ (e : Nat → Value) (loc : Nat → List Value) (g : Nat) (K : Heap) (a : Option Addr) (l : List UInt8) (f : Nat), s = ⟨e, loc, g, K, 25⟩ ∧ Upd no H K ∧ Ow H.size 1 encB K a l ∧ e 0 = .int .i64 j ∧
      e 3 = .slice a l.length 0 ∧ l ++ varN (f + 1) j = var m ∧ l.length + f = 19 ∧ j < 128 ^ (f + 1) ∧ j ≤ m) ?_ (j := m) ⟨_, _, _, _, _, [], 19, rfl, (Upd_refl H).push [] 1, Ow.new (Nat.le_refl _) [] rfl, by simp, by simp, by
        unfold var; rw [if_pos (by unfold maxVar; omega)]; rfl, rfl, Nat.lt_of_lt_of_le hm (by decide), Nat.le_refl _⟩
    rintro j s ⟨e, loc, g, K, a, l, f, rfl, hu, ho, h0, h3, hv, hf, hj, hjm⟩
    have ap := append_one (P := Tryz.prog) ti22 ho (fun _ _ => rfl) (by omega) (by decide) un22
    simp [h0, h3]
    refine pendP (fun c2 => ?_) (fun c2 => ?_)
    · have t1 : (j : Int).tmod 128 = ((j % 128 : Nat) : Int) := by rw [Int.tmod_eq_emod_of_nonneg (by omega)]; omega
      have t2 : IntKind.i64.wrap ((j : Int).tdiv 128) = ((j / 128 : Nat) : Int) := by
        rw [Int.tdiv_eq_ediv_of_nonneg (by omega), wrap_i64 (by omega) (by omega)]; omega
      have t2' : IntKind.i64.wrap ((j : Int) / 128) = ((j / 128 : Nat) : Int) := by rw [wrap_i64 (by omega) (by omega)]; omega
      have t3 : IntKind.i64.wrap (128 + ((j % 128 : Nat) : Int)) = ((j % 128 + 128 : Nat) : Int) := by rw [wrap_i64 (by omega) (by omega)]; omega
      simp [h0, h3, c2, t1, t2, t2', t3, -Int.natCast_emod, -Int.natCast_ediv, ap]
      obtain ⟨p1, p2⟩ := ow_push hu ho ((j % 128 + 128 : Nat) : Int)
      obtain ⟨f, rfl⟩ : ∃ q, f = q + 1 := ⟨f - 1, by
        by_cases hf0 : f = 0
        · subst hf0; simp at hj; omega
        · omega⟩
      refine again_intro (j / 128) (by omega) ⟨_, _, _, _, _, _, f, rfl, p1, p2, by simp, by simp, ?_, by simp; omega, by rw [Nat.pow_succ] at hj; clear t1 t2 t2' t3; omega, by omega⟩
      rw [← hv, List.append_assoc, u8i_nat]
      congr 1
      conv => rhs; rw [varN, if_neg (by omega)]
      rfl
    · obtain ⟨p1, p2⟩ := ow_push hu ho j
      have cv := convert_bytes (P := Tryz.prog) p2 un22 un5 un9 (Pe_refl _ ▸ trivial) (m := l.length + 1) (by simp)
      simp [h0, h3, c2, ap, cv]
      refine ⟨?_, gc_flat rfl p1⟩
      rw [← hv, u8i_nat, varN, if_pos (by omega)]

theorem fixed_eq (n w : Int) (H : Heap) : evF Tryz.prog TT 40 #[.int .i64 n, .int .i64 w] H = some (S (fixed n w), H) := by
  refine Ret.eq ?_
  refine Ret.go rfl Tryz.func40 rfl (by decide) (by simp [Tryz.ntmps40]) (by kernel_rfl) loc40 Tryz.results40 Tryz.ntmps40 ?_
  simp [from_eq]
  refine pendB (fun c1 => ?_) (fun c1 => ?_)
  · simp [c1]
    simp at c1
    unfold fixed
    rw [if_neg (by omega)]
  · simp [c1]
    simp at c1
    refine pendP (fun c2 => ?_) (fun c2 => ?_)
    · simp [c2]
      unfold fixed
      rw [if_neg (by omega)]
    · obtain ⟨m, rfl⟩ : ∃ m : Nat, n = m := ⟨n.toNat, by omega⟩
      obtain ⟨u, rfl⟩ : ∃ u : Nat, w = u := ⟨w.toNat, by omega⟩
      have w8 : IntKind.i64.wrap (8 * (u : Int)) = ((8 * u : Nat) : Int) := by rw [wrap_i64 (by omega) (by omega)]; omega
      have sh : ∀ i : Nat, i ≤ 8 → shrI .i64 (m : Int) ((8 * i : Nat) : Int) = ((m / 256 ^ i : Nat) : Int) := fun i hi => shr_nat m i hi
      simp [c2, w8, sh u (by omega), -Int.natCast_mul, -Int.natCast_ediv]
      refine pendP (fun c3 => ?_) (fun c3 => ?_)
      · simp [c3, -Int.natCast_mul, -Int.natCast_ediv]
        unfold fixed
        rw [if_neg]
        intro hh
        have : m < 256 ^ u := by have h := hh.2.2.2; rw [Int.toNat_natCast, pow256] at h; omega
        omega
      · have hlt : m < 256 ^ u := by omega
        have hfx : fixed (m : Int) (u : Int) = be u m := by
          unfold fixed
          rw [if_pos ⟨c1.1, c1.2, by omega, by rw [Int.toNat_natCast, pow256]; omega⟩]
          rfl
        have w1 : IntKind.i64.wrap ((u : Int) - 1) = (u : Int) - 1 := wrap_i64 (by omega) (by omega)
        simp [c3, w1, -Int.natCast_mul, -Int.natCast_ediv]
        refine mC_loop (fun j s => ∃ (e : Nat → Value) (loc : Nat → List Value) (g : Nat) (K : Heap) (a : Option Addr) (l : List UInt8), s = ⟨e, loc, g, K, 38⟩ ∧ Upd no H K ∧ Ow H.size 1 encB K a l ∧ e 0 = .int .i64 m ∧
          e 5 = .slice a l.length 0 ∧ e 6 = .int .i64 ((j : Int) - 1) ∧ l ++ be j m = be u m ∧ j ≤ u ∧ l.length + j = u) ?_ (j := u) ⟨_, _, _, _, _, [], rfl, (Upd_refl H).push [] 1, Ow.new (Nat.le_refl _) [] rfl, by simp, by simp, by simp, rfl, Nat.le_refl _, by simp⟩
        rintro j s ⟨e, loc, g, K, a, l, rfl, hu, ho, h0, h5, h6, hv, hj, hl⟩
        have ap := append_one (P := Tryz.prog) ti22 ho (fun _ _ => rfl) (by omega) (by decide) un22
        simp [h0, h5, h6]
        refine pendP (fun c4 => ?_) (fun c4 => ?_)
        · obtain ⟨j, rfl⟩ : ∃ q, j = q + 1 := ⟨j - 1, by omega⟩
          have h6' : e 6 = .int .i64 (j : Int) := by rw [h6]; congr 1; omega
          have w9 : IntKind.i64.wrap (8 * (j : Int)) = ((8 * j : Nat) : Int) := by rw [wrap_i64 (by omega) (by omega)]; omega
          have w1 : IntKind.i64.wrap ((j : Int) - 1) = (j : Int) - 1 := wrap_i64 (by omega) (by omega)
          have cc : (0 : Int) ≤ j := by omega
          have cd : (0 : Int) ≤ ((8 * j : Nat) : Int) := by omega
          simp [h0, h5, h6', cc, cd, w9, w1, sh j (by omega), ap, -Int.natCast_mul, -Int.natCast_ediv]
          obtain ⟨p1, p2⟩ := ow_push hu ho ((m / 256 ^ j : Nat) : Int)
          exact again_intro j (by omega) ⟨_, _, _, _, _, _, rfl, p1, p2, by simp [h0], by simp, by simp, by rw [← hv, List.append_assoc, u8i_nat]; rfl, by omega, by simp; omega⟩
        · obtain rfl : j = 0 := by omega
          have cv := convert_bytes (P := Tryz.prog) ho un22 un5 un9 (Pe_refl _ ▸ trivial) rfl
          simp [h0, h5, h6, cv]
          refine ⟨?_, gc_flat rfl hu⟩
          rw [hfx, ← hv]
          simp [be]
end Go.Abs

/-
  CONTRACTS: numbers out of bytes, sums.
-/
namespace Go.Abs
open Go Go.Proofs
set_option linter.unusedSimpArgs false
attribute [local simp] fieldAddr

theorem bits_nat (op : BinOp) (f : Nat → Nat → Nat) (hf : op = .xor ∧ f = (· ^^^ ·) ∨ op = .or ∧ f = (· ||| ·) ∨ op = .and ∧ f = (· &&& ·)) (x y : Nat) (hx : x < 2 ^ 62) (hy : y < 2 ^ 62) : bits op .i64 x y = ((f x y : Nat) : Int) := by
  have ex : BitVec.ofInt IntKind.i64.bits (x : Int) = BitVec.ofNat 64 x := by simp [IntKind.bits]
  have ey : BitVec.ofInt IntKind.i64.bits (y : Int) = BitVec.ofNat 64 y := by simp [IntKind.bits]
  have hx' : x % 18446744073709551616 = x := Nat.mod_eq_of_lt (by omega)
  have hy' : y % 18446744073709551616 = y := Nat.mod_eq_of_lt (by omega)
  have h62 : f x y < 2 ^ 62 := by
    rcases hf with ⟨_, rfl⟩ | ⟨_, rfl⟩ | ⟨_, rfl⟩
    · exact Nat.xor_lt_two_pow hx hy
    · exact Nat.or_lt_two_pow hx hy
    · exact Nat.and_lt_two_pow x hy
  have key : bits op .i64 x y = IntKind.i64.wrap ((f x y : Nat) : Int) := by
    have e1 : (BitVec.ofNat 64 x).toNat = x := by rw [BitVec.toNat_ofNat]; exact hx'
    have e2 : (BitVec.ofNat 64 y).toNat = y := by rw [BitVec.toNat_ofNat]; exact hy'
    unfold bits
    simp only [ex, ey]
    rcases hf with ⟨rfl, rfl⟩ | ⟨rfl, rfl⟩ | ⟨rfl, rfl⟩
    · show IntKind.i64.wrap ((BitVec.ofNat 64 x ^^^ BitVec.ofNat 64 y).toNat : Int) = _
      rw [BitVec.toNat_xor, e1, e2]
    · show IntKind.i64.wrap ((BitVec.ofNat 64 x ||| BitVec.ofNat 64 y).toNat : Int) = _
      rw [BitVec.toNat_or, e1, e2]
    · show IntKind.i64.wrap ((BitVec.ofNat 64 x &&& BitVec.ofNat 64 y).toNat : Int) = _
      rw [BitVec.toNat_and, e1, e2]
  rw [key, wrap_i64 (by omega) (by omega)]
theorem bits_nat32 (op : BinOp) (f : Nat → Nat → Nat) (hf : op = .xor ∧ f = (· ^^^ ·) ∨ op = .or ∧ f = (· ||| ·) ∨ op = .and ∧ f = (· &&& ·)) (x y : Nat) (hx : x < 2 ^ 32) (hy : y < 2 ^ 32) : bits op .u32 x y = ((f x y : Nat) : Int) := by
  have ex : BitVec.ofInt IntKind.u32.bits (x : Int) = BitVec.ofNat 32 x := by simp [IntKind.bits]
  have ey : BitVec.ofInt IntKind.u32.bits (y : Int) = BitVec.ofNat 32 y := by simp [IntKind.bits]
  have hx' : x % 4294967296 = x := Nat.mod_eq_of_lt (by omega)
  have hy' : y % 4294967296 = y := Nat.mod_eq_of_lt (by omega)
  have h62 : f x y < 2 ^ 32 := by
    rcases hf with ⟨_, rfl⟩ | ⟨_, rfl⟩ | ⟨_, rfl⟩
    · exact Nat.xor_lt_two_pow hx hy
    · exact Nat.or_lt_two_pow hx hy
    · exact Nat.and_lt_two_pow x hy
  have key : bits op .u32 x y = IntKind.u32.wrap ((f x y : Nat) : Int) := by
    have e1 : (BitVec.ofNat 32 x).toNat = x := by rw [BitVec.toNat_ofNat]; exact hx'
    have e2 : (BitVec.ofNat 32 y).toNat = y := by rw [BitVec.toNat_ofNat]; exact hy'
    unfold bits
    simp only [ex, ey]
    rcases hf with ⟨rfl, rfl⟩ | ⟨rfl, rfl⟩ | ⟨rfl, rfl⟩
    · show IntKind.u32.wrap ((BitVec.ofNat 32 x ^^^ BitVec.ofNat 32 y).toNat : Int) = _
      rw [BitVec.toNat_xor, e1, e2]
    · show IntKind.u32.wrap ((BitVec.ofNat 32 x ||| BitVec.ofNat 32 y).toNat : Int) = _
      rw [BitVec.toNat_or, e1, e2]
    · show IntKind.u32.wrap ((BitVec.ofNat 32 x &&& BitVec.ofNat 32 y).toNat : Int) = _
      rw [BitVec.toNat_and, e1, e2]
  rw [key]
  unfold IntKind.wrap
  simp [IntKind.bits, IntKind.signed]
  omega

theorem or_shl (n b : Nat) (hb : b < 256) : (n * 256) ||| b = n * 256 + b := by
  have := Nat.two_pow_add_eq_or_of_lt (i := 8) (b := b) (by simpa using hb) n
  rw [Nat.mul_comm n 256]
  exact this.symm

theorem readBE_take (s : List UInt8) (i : Nat) (h : i < s.length) : readBE (s.take (i + 1)) 0 = readBE (s.take i) 0 * 256 + s[i].toNat := by
  rw [List.take_succ_eq_append_getElem h, readBE_append]
  rfl

theorem readFixed_eq (s : List UInt8) (w : Int) (H : Heap) (hs : s.length < 2 ^ 62) : evF Tryz.prog TT 93 #[S s, .int .i64 w] H = some (.tuple #[.int .i64 (readFixed s w).1, .bool (readFixed s w).2], H) := by
  refine Ret.eq ?_
  refine Ret.go rfl Tryz.func93 rfl (by decide) (by simp [Tryz.ntmps93]) (by kernel_rfl) loc93 Tryz.results93 Tryz.ntmps93 ?_
  simp [from_eq]
  refine pendB (fun c1 => ?_) (fun c1 => ?_)
  · simp [c1]
    simp at c1
    unfold readFixed
    rw [if_neg (by omega)]
    simp
  · simp [c1]
    simp at c1
    refine pendP (fun c2 => ?_) (fun c2 => ?_)
    · simp [c2]
      unfold readFixed
      rw [if_neg (by omega)]
      simp
    · obtain ⟨u, rfl⟩ : ∃ u : Nat, w = u := ⟨w.toNat, by omega⟩
      simp [c2]
      refine mC_loop (fun j st => ∃ (e : Nat → Value) (loc : Nat → List Value) (g i : Nat), st = ⟨e, loc, g, H, 30⟩ ∧ e 0 = S s ∧ e 17 = .int .i64 u ∧ e 18 = .int .i64 i ∧ e 6 = .int .i64 (readBE (s.take i) 0 : Nat) ∧ i + j = u) ?_ (j := u)
        ⟨_, _, _, 0, rfl, by simp, by simp, by simp, by simp [readBE], by simp⟩
      rintro j st ⟨e, loc, g, i, rfl, h0, h17, h18, h6, hj⟩
      simp [h0, h17, h18, h6]
      refine pendP (fun c3 => ?_) (fun c3 => ?_)
      · have hi : i < s.length := by omega
        have hb : s[i].toNat < 256 := UInt8.toNat_lt s[i]
        have hlt : readBE (s.take i) 0 < 256 ^ i := by
          have := readBE_lt (s.take i) 0 0 (by simp)
          simpa [Nat.min_eq_left (Nat.le_of_lt hi)] using this
        have h6lt : readBE (s.take i) 0 < 256 ^ 6 := Nat.lt_of_lt_of_le hlt (Nat.pow_le_pow_right (by decide) (by omega))
        have h6' : (256 : Nat) ^ 6 = 281474976710656 := by decide
        rw [h6'] at h6lt
        have sl : shlI .i64 ((readBE (s.take i) 0 : Nat) : Int) 8 = ((readBE (s.take i) 0 * 256 : Nat) : Int) := by
          unfold shlI
          have : (2 : Int) ^ min (Int.toNat 8) IntKind.i64.bits = 256 := by decide
          rw [this, wrap_i64 (by omega) (by omega)]
          omega
        have hw : IntKind.i64.wrap ((s[i].toNat : Nat) : Int) = ((s[i].toNat : Nat) : Int) := wrap_i64 (by omega) (by omega)
        have ho := bits_nat .or (· ||| ·) (.inr (.inl ⟨rfl, rfl⟩)) (readBE (s.take i) 0 * 256) s[i].toNat (by omega) (by omega)
        simp only [or_shl _ _ hb] at ho
        have hi1 := wrap_nat (k := i) (by omega)
        simp [h0, h17, h18, h6, c3, hi, sl, hw, ho, hi1, -Int.natCast_mul, -Int.natCast_add]
        exact again_intro (j - 1) (by omega) ⟨_, _, _, i + 1, rfl, by simp [h0], by simp [h17], by simp, by simp [readBE_take s i hi], by omega⟩
      · obtain rfl : i = u := by omega
        simp [h0, h17, h18, h6, c3]
        unfold readFixed
        rw [if_pos (by omega)]
        simp
theorem specReadFixed_eq (s : List UInt8) (w : Int) (H : Heap) (hs : s.length < 2 ^ 62) : evF Tryz.prog TT 113 #[S s, .int .i64 w] H = some (.tuple #[.int .i64 (readFixed s w).1, .bool (readFixed s w).2], H) := by
  refine Ret.eq ?_
  refine Ret.go rfl Tryz.func113 rfl (by decide) (by simp [Tryz.ntmps113]) (by kernel_rfl) loc113 Tryz.results113 Tryz.ntmps113 ?_
  simp [l1In_eq]
  refine pendB (fun c1 => ?_) (fun c1 => ?_)
  · simp [c1]
    simp at c1
    unfold readFixed
    rw [if_neg (by omega)]
    simp
  · simp [c1]
    simp at c1
    refine pendP (fun c2 => ?_) (fun c2 => ?_)
    · simp [c2]
      unfold readFixed
      rw [if_neg (by omega)]
      simp
    · obtain ⟨u, rfl⟩ : ∃ u : Nat, w = u := ⟨w.toNat, by omega⟩
      simp [c2]
      refine mC_loop (fun j st => ∃ (e : Nat → Value) (loc : Nat → List Value) (g i : Nat), st = ⟨e, loc, g, H, 30⟩ ∧ e 0 = S s ∧ e 1 = .int .i64 u ∧ e 7 = .int .i64 i ∧ e 6 = .int .i64 (readBE (s.take i) 0 : Nat) ∧ i + j = u) ?_ (j := u)
        ⟨_, _, _, 0, rfl, by simp, by simp, by simp, by simp [readBE], by simp⟩
      rintro j st ⟨e, loc, g, i, rfl, h0, h17, h18, h6, hj⟩
      simp [h0, h17, h18, h6]
      refine pendP (fun c3 => ?_) (fun c3 => ?_)
      · have hi : i < s.length := by omega
        have hb : s[i].toNat < 256 := UInt8.toNat_lt s[i]
        have hlt : readBE (s.take i) 0 < 256 ^ i := by
          have := readBE_lt (s.take i) 0 0 (by simp)
          simpa [Nat.min_eq_left (Nat.le_of_lt hi)] using this
        have h6lt : readBE (s.take i) 0 < 256 ^ 6 := Nat.lt_of_lt_of_le hlt (Nat.pow_le_pow_right (by decide) (by omega))
        have h6' : (256 : Nat) ^ 6 = 281474976710656 := by decide
        rw [h6'] at h6lt
        have sl : IntKind.i64.wrap (((readBE (s.take i) 0 : Nat) : Int) * 256) = ((readBE (s.take i) 0 * 256 : Nat) : Int) := by
          rw [wrap_i64 (by omega) (by omega)]
          omega
        have hw : IntKind.i64.wrap ((s[i].toNat : Nat) : Int) = ((s[i].toNat : Nat) : Int) := wrap_i64 (by omega) (by omega)
        have ho : IntKind.i64.wrap (((readBE (s.take i) 0 * 256 : Nat) : Int) + (s[i].toNat : Nat)) = ((readBE (s.take i) 0 * 256 + s[i].toNat : Nat) : Int) := by
          rw [wrap_i64 (by omega) (by omega)]
          omega
        have hi1 := wrap_nat (k := i) (by omega)
        simp [h0, h17, h18, h6, c3, hi, sl, hw, ho, hi1, -Int.natCast_mul, -Int.natCast_add]
        exact again_intro (j - 1) (by omega) ⟨_, _, _, i + 1, rfl, by simp [h0], by simp [h17], by simp, by simp [readBE_take s i hi], by omega⟩
      · obtain rfl : i = u := by omega
        simp [h0, h17, h18, h6, c3]
        unfold readFixed
        rw [if_pos (by omega)]
        simp
end Go.Abs

/-
  CONTRACTS: sums of bytes, numbers of varying length.
-/
namespace Go.Abs
open Go Go.Proofs
set_option linter.unusedSimpArgs false
attribute [local simp] fieldAddr

theorem crcRounds_lt : ∀ k c, c < 2 ^ 32 → crcRounds k c < 2 ^ 32
  | 0, c, h => h
  | k + 1, c, h => by
    unfold crcRounds
    refine crcRounds_lt k _ ?_
    split
    · exact Nat.xor_lt_two_pow (by omega) (by decide)
    · omega
theorem crcL_lt : ∀ (s : List UInt8) c, c < 2 ^ 32 → crcL s c < 2 ^ 32
  | [], c, h => h
  | b :: r, c, h => by
    unfold crcL
    exact crcL_lt r _ (crcRounds_lt 8 _ (Nat.xor_lt_two_pow h (by have := UInt8.toNat_lt b; omega)))
theorem crc_lt (s : List UInt8) : crc s < 2 ^ 32 := by
  unfold crc
  omega
theorem xor_ones (c : Nat) (h : c < 2 ^ 32) : 4294967295 ^^^ c = 4294967295 - c := by
  have h1 : ((BitVec.ofNat 32 4294967295) ^^^ (BitVec.ofNat 32 c)) = ~~~ (BitVec.ofNat 32 c) := by
    rw [show BitVec.ofNat 32 4294967295 = BitVec.allOnes 32 from rfl, BitVec.allOnes_xor]
  have h2 := congrArg BitVec.toNat h1
  rw [BitVec.toNat_xor, BitVec.toNat_not, BitVec.toNat_ofNat, BitVec.toNat_ofNat, Nat.mod_eq_of_lt h, Nat.mod_eq_of_lt (by decide)] at h2
  rw [h2]

theorem crc_eq (s : List UInt8) (H : Heap) (hs : s.length < 2 ^ 62) : evF Tryz.prog TT 41 #[S s] H = some (.int .i64 (crc s), H) := by
  refine Ret.eq ?_
  refine Ret.go rfl Tryz.func41 rfl (by decide) (by simp [Tryz.ntmps41]) (by kernel_rfl) loc41 Tryz.results41 Tryz.ntmps41 ?_
  simp
  refine mC_loop (fun j st => ∃ (e : Nat → Value) (loc : Nat → List Value) (g i c : Nat), st = ⟨e, loc, g, H, 32⟩ ∧ e 0 = S s ∧ e 7 = .int .i64 s.length ∧ e 8 = .int .i64 i ∧ e 3 = .int .u32 c ∧ c < 2 ^ 32 ∧ crcL (s.drop i) c = crcL s 4294967295 ∧ i + j = s.length) ?_ (j := s.length)
    ⟨_, _, _, 0, 4294967295, rfl, by simp, by simp, by simp, by simp, by decide, by simp, by simp⟩
  rintro j st ⟨e, loc, g, i, c, rfl, h0, h7, h8, h3, hc, hv, hj⟩
  simp [h0, h7, h8, h3]
  refine pendP (fun c1 => ?_) (fun c1 => ?_)
  · have hb : s[i].toNat < 256 := UInt8.toNat_lt s[i]
    have hx := bits_nat32 .xor (· ^^^ ·) (.inl ⟨rfl, rfl⟩) c s[i].toNat hc (by omega)
    have hw : IntKind.u32.wrap ((s[i].toNat : Nat) : Int) = ((s[i].toNat : Nat) : Int) := by unfold IntKind.wrap; simp [IntKind.bits, IntKind.signed]; omega
    have hi1 := wrap_nat (k := i) (by omega)
    simp [h0, h7, h8, h3, c1, hw, hx]
    obtain ⟨X, hX⟩ : ∃ X, X = crcRounds 8 (c ^^^ s[i].toNat) := ⟨_, rfl⟩
    refine mC_loop (fun q st => ∃ (e' : Nat → Value) (loc : Nat → List Value) (g k c' : Nat), st = ⟨e', loc, g, H, 32⟩ ∧ e' 0 = S s ∧ e' 7 = .int .i64 s.length ∧ e' 8 = .int .i64 i ∧ e' 3 = .int .u32 c' ∧ e' 17 = .int .i64 k ∧ c' < 2 ^ 32 ∧ crcRounds q c' = X ∧ k + q = 8) ?_ (j := 8)
      ⟨_, _, _, 0, c ^^^ s[i].toNat, rfl, by simp [h0], by simp [h7], by simp [h8], by simp, by simp, Nat.xor_lt_two_pow hc (by omega), hX.symm, rfl⟩
    rintro q st ⟨e', loc', g', k, c', rfl, g0, g7, g8, g3, g17, hc', hv', hq⟩
    simp [g0, g7, g8, g3, g17]
    refine pendP (fun c2 => ?_) (fun c2 => ?_)
    · obtain ⟨q, rfl⟩ : ∃ p, q = p + 1 := ⟨q - 1, by omega⟩
      have hand := bits_nat32 .and (· &&& ·) (.inr (.inr ⟨rfl, rfl⟩)) c' 1 hc' (by omega)
      have hand' : bits .and .u32 (c' : Int) 1 = ((c' % 2 : Nat) : Int) := by rw [← Nat.and_one_is_mod]; exact hand
      have hsh : shrI .u32 (c' : Int) 1 = ((c' / 2 : Nat) : Int) := by
        unfold shrI
        rw [show (2 : Int) ^ min (Int.toNat 1) IntKind.u32.bits = 2 from by decide, Int.fdiv_eq_ediv_of_nonneg _ (by decide)]
        omega
      have hxo : bits .xor .u32 ((c' / 2 : Nat) : Int) 2197175160 = ((c' / 2 ^^^ 2197175160 : Nat) : Int) := bits_nat32 .xor (· ^^^ ·) (.inl ⟨rfl, rfl⟩) (c' / 2) 2197175160 (by omega) (by omega)
      have hk1 := wrap_nat (k := k) (by omega)
      unfold crcRounds at hv'
      simp [g0, g7, g8, g3, g17, c2, hand', hsh, -Int.natCast_emod, -Int.natCast_ediv]
      refine pendP (fun c3 => ?_) (fun c3 => ?_)
      · have hod : c' % 2 = 1 := by omega
        simp [g0, g7, g8, g3, g17, c2, c3, hand', hsh, hxo, hk1, -Int.natCast_emod, -Int.natCast_ediv]
        exact again_intro q (by omega) ⟨_, _, _, k + 1, c' / 2 ^^^ 2197175160, rfl, by simp [g0], by simp [g7], by simp [g8], by simp, by simp, Nat.xor_lt_two_pow (by omega) (by decide), by rw [← hv', if_pos hod], by omega⟩
      · have hod : ¬ c' % 2 = 1 := by omega
        simp [g0, g7, g8, g3, g17, c2, c3, hand', hsh, hk1, -Int.natCast_emod, -Int.natCast_ediv]
        exact again_intro q (by omega) ⟨_, _, _, k + 1, c' / 2, rfl, by simp [g0], by simp [g7], by simp [g8], by simp [-Int.natCast_ediv], by simp, by omega, by rw [← hv', if_neg hod], by omega⟩
    · obtain rfl : q = 0 := by omega
      simp [g0, g7, g8, g3, g17, c2, hi1]
      have hd : s.drop i = s[i] :: s.drop (i + 1) := List.drop_eq_getElem_cons c1
      rw [hd] at hv
      exact again_intro (j - 1) (by omega) ⟨_, _, _, i + 1, c', rfl, by simp [g0], by simp [g7], by simp, by simp [g3], hc', by rw [← hv]; show crcL _ c' = crcL _ (crcRounds 8 _); rw [← hX, ← hv']; rfl, by omega⟩
  · have hd : s.drop i = [] := List.drop_eq_nil_of_le (by omega)
    rw [hd] at hv
    have hmax : bits .xor .u32 IntKind.u32.max (c : Int) = ((4294967295 - c : Nat) : Int) := by
      have := bits_nat32 .xor (· ^^^ ·) (.inl ⟨rfl, rfl⟩) 4294967295 c (by omega) hc
      simp only [xor_ones c hc] at this
      exact this
    have hs : IntKind.u32.signed = false := rfl
    have hw : IntKind.i64.wrap (((4294967295 - c : Nat) : Int)) = ((4294967295 - c : Nat) : Int) := wrap_i64 (by omega) (by omega)
    simp [h0, h7, h8, h3, c1, hmax, hs, hw]
    unfold crc
    rw [← hv]
    rfl

theorem specCrc_eq (s : List UInt8) (H : Heap) (hs : s.length < 2 ^ 62) : evF Tryz.prog TT 35 #[S s] H = some (.int .i64 (crc s), H) := by
  refine Ret.eq ?_
  refine Ret.go rfl Tryz.func35 rfl (by decide) (by simp [Tryz.ntmps35]) (by kernel_rfl) loc35 Tryz.results35 Tryz.ntmps35 ?_
  simp
  refine mC_loop (fun j st => ∃ (e : Nat → Value) (loc : Nat → List Value) (g i c : Nat), st = ⟨e, loc, g, H, 33⟩ ∧ e 0 = S s ∧ e 4 = .int .i64 i ∧ e 3 = .int .i64 c ∧ c < 2 ^ 32 ∧ crcL (s.drop i) c = crcL s 4294967295 ∧ i + j = s.length) ?_ (j := s.length)
    ⟨_, _, _, 0, 4294967295, rfl, by simp, by simp, by simp, by decide, by simp, by simp⟩
  rintro j st ⟨e, loc, g, i, c, rfl, h0, h8, h3, hc, hv, hj⟩
  simp [h0, h8, h3]
  refine pendP (fun c1 => ?_) (fun c1 => ?_)
  · have hb : s[i].toNat < 256 := UInt8.toNat_lt s[i]
    have hx := bits_nat .xor (· ^^^ ·) (.inl ⟨rfl, rfl⟩) c s[i].toNat (by omega) (by omega)
    have hw : IntKind.i64.wrap ((s[i].toNat : Nat) : Int) = ((s[i].toNat : Nat) : Int) := wrap_i64 (by omega) (by omega)
    have hi1 := wrap_nat (k := i) (by omega)
    simp [h0, h8, h3, c1, hw, hx]
    obtain ⟨X, hX⟩ : ∃ X, X = crcRounds 8 (c ^^^ s[i].toNat) := ⟨_, rfl⟩
    refine mC_loop (fun q st => ∃ (e' : Nat → Value) (loc : Nat → List Value) (g k c' : Nat), st = ⟨e', loc, g, H, 33⟩ ∧ e' 0 = S s ∧ e' 4 = .int .i64 i ∧ e' 3 = .int .i64 c' ∧ e' 5 = .int .i64 k ∧ c' < 2 ^ 32 ∧ crcRounds q c' = X ∧ k + q = 8) ?_ (j := 8)
      ⟨_, _, _, 0, c ^^^ s[i].toNat, rfl, by simp [h0], by simp [h8], by simp, by simp, Nat.xor_lt_two_pow hc (by omega), hX.symm, rfl⟩
    rintro q st ⟨e', loc', g', k, c', rfl, g0, g8, g3, g17, hc', hv', hq⟩
    simp [g0, g8, g3, g17]
    refine pendP (fun c2 => ?_) (fun c2 => ?_)
    · obtain ⟨q, rfl⟩ : ∃ p, q = p + 1 := ⟨q - 1, by omega⟩
      have t1 : (c' : Int).tmod 2 = ((c' % 2 : Nat) : Int) := by rw [Int.tmod_eq_emod_of_nonneg (by omega)]; omega
      have t2 : IntKind.i64.wrap ((c' : Int).tdiv 2) = ((c' / 2 : Nat) : Int) := by rw [Int.tdiv_eq_ediv_of_nonneg (by omega), wrap_i64 (by omega) (by omega)]; omega
      have t2' : IntKind.i64.wrap ((c' : Int) / 2) = ((c' / 2 : Nat) : Int) := by rw [wrap_i64 (by omega) (by omega)]; omega
      have hxo : bits .xor .i64 ((c' / 2 : Nat) : Int) 2197175160 = ((c' / 2 ^^^ 2197175160 : Nat) : Int) := bits_nat .xor (· ^^^ ·) (.inl ⟨rfl, rfl⟩) (c' / 2) 2197175160 (by omega) (by omega)
      have hk1 := wrap_nat (k := k) (by omega)
      unfold crcRounds at hv'
      simp [g0, g8, g3, g17, c2, t1, t2, t2', -Int.natCast_emod, -Int.natCast_ediv]
      refine pendP (fun c3 => ?_) (fun c3 => ?_)
      · have hod : c' % 2 = 1 := by omega
        simp [g0, g8, g3, g17, c2, c3, t1, t2, t2', hxo, hk1, -Int.natCast_emod, -Int.natCast_ediv]
        exact again_intro q (by omega) ⟨_, _, _, k + 1, c' / 2 ^^^ 2197175160, rfl, by simp [g0], by simp [g8], by simp, by simp, Nat.xor_lt_two_pow (by omega) (by decide), by rw [← hv', if_pos hod], by omega⟩
      · have hod : ¬ c' % 2 = 1 := by omega
        simp [g0, g8, g3, g17, c2, c3, t1, t2, t2', hk1, -Int.natCast_emod, -Int.natCast_ediv]
        exact again_intro q (by omega) ⟨_, _, _, k + 1, c' / 2, rfl, by simp [g0], by simp [g8], by simp [-Int.natCast_ediv], by simp, by omega, by rw [← hv', if_neg hod], by omega⟩
    · obtain rfl : q = 0 := by omega
      simp [g0, g8, g3, g17, c2, hi1]
      have hd : s.drop i = s[i] :: s.drop (i + 1) := List.drop_eq_getElem_cons c1
      rw [hd] at hv
      exact again_intro (j - 1) (by omega) ⟨_, _, _, i + 1, c', rfl, by simp [g0], by simp, by simp [g3], hc', by rw [← hv]; show crcL _ c' = crcL _ (crcRounds 8 _); rw [← hX, ← hv']; rfl, by omega⟩
  · have hd : s.drop i = [] := List.drop_eq_nil_of_le (by omega)
    rw [hd] at hv
    have hw : IntKind.i64.wrap ((4294967295 : Int) - c) = ((4294967295 - c : Nat) : Int) := by rw [wrap_i64 (by omega) (by omega)]; omega
    simp [h0, h8, h3, c1, hw]
    unfold crc
    rw [← hv]
    rfl

theorem pow7 (i : Nat) : (2 : Nat) ^ (7 * i) = 128 ^ i := by rw [Nat.pow_mul]
theorem shl7 (b i : Nat) (hb : b < 128) (hi : i < 7) : shlI .i64 (b : Int) ((7 * i : Nat) : Int) = ((b * 128 ^ i : Nat) : Int) := by
  unfold shlI
  have e : (2 : Int) ^ min (Int.toNat ((7 * i : Nat) : Int)) IntKind.i64.bits = ((128 ^ i : Nat) : Int) := by
    rw [Int.toNat_natCast, Nat.min_eq_left (by show 7 * i ≤ 64; omega), ← pow7]
    exact (Int.natCast_pow 2 (7 * i)).symm
  rw [e, ← Int.natCast_mul]
  have h1 : b * 128 ^ i ≤ 127 * 128 ^ 6 := Nat.mul_le_mul (by omega) (Nat.pow_le_pow_right (by decide) (by omega))
  have h2 : 127 * 128 ^ 6 = (558551906910208 : Nat) := by decide
  rw [wrap_i64 (by omega) (by omega)]

theorem readVar_eq (s : List UInt8) (H : Heap) (hs : s.length < 2 ^ 62) : evF Tryz.prog TT 57 #[S s] H = some (.tuple #[.int .i64 (readVar s).1, .int .i64 (readVar s).2], H) := by
  refine Ret.eq ?_
  refine Ret.go rfl Tryz.func57 rfl (by decide) (by simp [Tryz.ntmps57]) (by kernel_rfl) loc57 Tryz.results57 Tryz.ntmps57 ?_
  simp
  refine mC_loop (fun j st => ∃ (e : Nat → Value) (loc : Nat → List Value) (g i n : Nat), st = ⟨e, loc, g, H, 41⟩ ∧ e 0 = S s ∧ e 4 = .int .i64 n ∧ e 5 = .int .i64 i ∧ n < 128 ^ i ∧ rv (s.drop i) i n = readVar s ∧ i + j = 7) ?_ (j := 7)
    ⟨_, _, _, 0, 0, rfl, by simp, by simp, by simp, by decide, rfl, rfl⟩
  rintro j st ⟨e, loc, g, i, n, rfl, h0, h4, h5, hn, hv, hj⟩
  simp [h0, h4, h5]
  refine pendP (fun c1 => ?_) (fun c1 => ?_)
  · simp [h0, h4, h5, c1]
    refine pendP (fun c2 => ?_) (fun c2 => ?_)
    · have hb : s[i].toNat < 256 := UInt8.toNat_lt s[i]
      have hi7 : i < 7 := by omega
      have t1 : ((s[i].toNat : Nat) : Int).tmod 128 = ((s[i].toNat % 128 : Nat) : Int) := by rw [Int.tmod_eq_emod_of_nonneg (by omega)]; omega
      have t2 : IntKind.i64.wrap ((s[i].toNat % 128 : Nat) : Int) = ((s[i].toNat % 128 : Nat) : Int) := wrap_i64 (by omega) (by omega)
      have t3 : IntKind.i64.wrap (7 * (i : Int)) = ((7 * i : Nat) : Int) := by rw [wrap_i64 (by omega) (by omega)]; omega
      have t4 := shl7 (s[i].toNat % 128) i (by omega) hi7
      have hlt : n + s[i].toNat % 128 * 128 ^ i < 128 ^ (i + 1) := by
        have h1 : s[i].toNat % 128 * 128 ^ i ≤ 127 * 128 ^ i := Nat.mul_le_mul_right _ (by omega)
        rw [Nat.pow_succ]
        omega
      have hbig : 128 ^ (i + 1) ≤ 128 ^ 7 := Nat.pow_le_pow_right (by decide) (by omega)
      have h7 : (128 : Nat) ^ 7 = 562949953421312 := by decide
      have t5 : IntKind.i64.wrap ((n : Int) + ((s[i].toNat % 128 * 128 ^ i : Nat) : Int)) = ((n + s[i].toNat % 128 * 128 ^ i : Nat) : Int) := by
        generalize s[i].toNat % 128 * 128 ^ i = q at hlt ⊢
        rw [wrap_i64 (by omega) (by omega)]; omega
      have hi1 := wrap_nat (k := i) (by omega)
      have hd : s.drop i = s[i] :: s.drop (i + 1) := List.drop_eq_getElem_cons c2
      rw [hd, rv, if_neg (by omega)] at hv
      simp only at hv
      generalize hN : n + s[i].toNat % 128 * 128 ^ i = N at hv hlt t5
      simp [h0, h4, h5, c1, c2, t1, t2, t3, t4, t5, hi1, -Int.natCast_emod, -Int.natCast_mul]
      refine pendP (fun c3 => ?_) (fun c3 => ?_)
      · have c3' : 128 ≤ s[i].toNat := by omega
        simp [h0, h4, h5, c1, c2, t1, t2, t3, t4, t5, hi1, -Int.natCast_emod, -Int.natCast_mul, c3, c3']
        rw [if_pos c3'] at hv
        exact again_intro (j - 1) (by omega) ⟨_, _, _, i + 1, N, rfl, by simp [h0], by simp, by simp, hlt, hv, by omega⟩
      · have c3' : ¬ 128 ≤ s[i].toNat := by omega
        simp [h0, h4, h5, c1, c2, t1, t2, t3, t4, t5, hi1, -Int.natCast_emod, -Int.natCast_mul, c3, c3']
        rw [if_neg c3'] at hv
        refine pendP (fun c4 => ?_) (fun c4 => ?_)
        · have c4' : s[i].toNat = 0 := c4
          simp [h0, h4, h5, c1, c2, t1, t2, t3, t4, t5, hi1, -Int.natCast_emod, -Int.natCast_mul, c3, c4, c4']
          refine pendP (fun c5 => ?_) (fun c5 => ?_)
          · rw [if_pos ⟨c4', c5⟩] at hv
            simp [h0, h4, h5, c1, c2, t1, t2, t3, t4, t5, hi1, -Int.natCast_emod, -Int.natCast_mul, c3, c4, c5, ← hv]
          · have c5' : i = 0 := by omega
            subst c5'
            rw [if_neg (by omega)] at hv
            simp [h0, h4, h5, c1, c2, t1, t2, t3, t4, t5, hi1, -Int.natCast_emod, -Int.natCast_mul, c3, c4, ← hv]
        · have c4' : ¬ s[i].toNat = 0 := c4
          rw [if_neg (by omega)] at hv
          simp [h0, h4, h5, c1, c2, t1, t2, t3, t4, t5, hi1, -Int.natCast_emod, -Int.natCast_mul, c3, c4, c4', ← hv]
    · have hd : s.drop i = [] := List.drop_eq_nil_of_le (by omega)
      rw [hd, rv] at hv
      simp [h0, h4, h5, c1, c2, ← hv]
  · have hi : i = 7 := by omega
    subst hi
    have : readVar s = (0, 0) := by
      rw [← hv]
      unfold rv
      split
      · rfl
      · rw [if_pos (by omega)]
    simp [h0, h4, h5, c1, this]

/-- The digits of a number, the lowest first. -/
def dig : List UInt8 → Nat
  | [] => 0
  | b :: r => dig r * 128 + b.toNat % 128
theorem dig_lt : ∀ s : List UInt8, dig s < 128 ^ s.length
  | [] => by decide
  | b :: r => by
    have := dig_lt r
    have : b.toNat % 128 < 128 := Nat.mod_lt _ (by decide)
    rw [dig, List.length_cons, Nat.pow_succ]
    omega
theorem dig_varN : ∀ (k f n : Nat), n < 128 ^ k → k ≤ f → 0 < k → dig (varN f n) = n
  | 0, _, _, _, _, h => by omega
  | k + 1, 0, _, _, h, _ => by omega
  | k + 1, f + 1, n, hn, hf, _ => by
    unfold varN
    split
    · rename_i h
      simp only [dig, u8_ofNat (show n < 256 by omega)]
      omega
    · rename_i h
      by_cases hk : k = 0
      · subst hk; omega
      · simp only [dig, u8_ofNat (show n % 128 + 128 < 256 by omega)]
        rw [dig_varN k f (n / 128) (by rw [Nat.pow_succ] at hn; omega) (by omega) (by omega)]
        omega
/-- A beginning of a text that is shown by what it says is what is read there. -/
theorem readVar_iff {s : List UInt8} {k : Nat} (h0 : 0 < k) (h7 : k ≤ 7) (hk : k ≤ s.length) : var (dig (s.take k)) = s.take k ↔ readVar s = (dig (s.take k), k) := by
  constructor
  · intro h
    have hne : var (dig (s.take k)) ≠ [] := by
      rw [h]
      intro e
      have := congrArg List.length e
      rw [List.length_take, List.length_nil] at this
      omega
    have hr : (0 : Int) ≤ dig (s.take k) ∧ (dig (s.take k) : Int) ≤ maxVar := Decidable.byContradiction fun hc => hne ((var_nil _).2 hc)
    have := readVar_var hr (s.drop k)
    rw [h, List.take_append_drop] at this
    rw [this, List.length_take, Nat.min_eq_left hk]
    rfl
  · intro h
    exact (readVar_some h h0).1
theorem dig_readVar {s : List UInt8} {m k : Nat} (h : readVar s = (m, k)) (h0 : 0 < k) : dig (s.take k) = m := by
  obtain ⟨h1, h2, h3, h4⟩ := readVar_some h h0
  rw [← h1]
  unfold var
  rw [if_pos ⟨by omega, h4⟩]
  exact dig_varN 7 20 _ (by unfold maxVar at h4; have : (128 : Nat) ^ 7 = 562949953421312 := by decide
                            omega) (by omega) (by omega)
theorem readVar_zero {s : List UInt8} (h : (readVar s).2 = 0) : readVar s = (0, 0) := by
  have key : ∀ (s : List UInt8) (i n : Nat), (rv s i n).2 = 0 → rv s i n = (0, 0) := by
    intro s
    induction s with
    | nil => intro i n _; rfl
    | cons b r ih =>
      intro i n hh
      unfold rv at hh ⊢
      split at hh
      · rename_i c; rw [if_pos c]
      · rename_i c
        rw [if_neg c]
        simp only at hh ⊢
        split at hh
        · rename_i c2; rw [if_pos c2]; exact ih _ _ hh
        · rename_i c2
          rw [if_neg c2]
          split at hh
          · rename_i c3; rw [if_pos c3]
          · simp at hh
  exact key s 0 0 h

theorem specReadVar_eq (s : List UInt8) (H : Heap) (hs : s.length < 2 ^ 62) : evF Tryz.prog TT 87 #[S s] H = some (.tuple #[.int .i64 (readVar s).1, .int .i64 (readVar s).2], H) := by
  refine Ret.eq ?_
  refine Ret.go rfl Tryz.func87 rfl (by decide) (by simp [Tryz.ntmps87]) (by kernel_rfl) loc87 Tryz.results87 Tryz.ntmps87 ?_
  simp
  refine mC_loop (fun j st => ∃ (e : Nat → Value) (loc : Nat → List Value) (g i : Nat), st = ⟨e, loc, g, H, 39⟩ ∧ e 0 = S s ∧ e 4 = .int .i64 ((i + 1 : Nat) : Int) ∧ ((readVar s).2 = 0 ∨ i < (readVar s).2) ∧ i + j = 7) ?_ (j := 7)
    ⟨_, _, _, 0, rfl, by simp, by simp, by omega, rfl⟩
  rintro j st ⟨e, loc, g, i, rfl, h0, h4, hv, hj⟩
  simp [h0, h4, -Int.natCast_add]
  refine pendP (fun c1 => ?_) (fun c1 => ?_)
  · simp [h0, h4, -Int.natCast_add, c1]
    refine pendP (fun c2 => ?_) (fun c2 => ?_)
    · have w1 : IntKind.i64.wrap (((i + 1 : Nat) : Int) - 1) = (i : Int) := by rw [wrap_i64 (by omega) (by omega)]; omega
      simp [h0, h4, -Int.natCast_add, c1, c2, w1]
      refine mC_loop (fun q st => ∃ (e' : Nat → Value) (loc : Nat → List Value) (g : Nat), st = ⟨e', loc, g, H, 39⟩ ∧ e' 0 = S s ∧ e' 4 = .int .i64 ((i + 1 : Nat) : Int) ∧ e' 6 = .int .i64 ((q : Int) - 1) ∧ e' 5 = .int .i64 (dig ((s.take (i + 1)).drop q) : Nat) ∧ q ≤ i + 1) ?_ (j := i + 1)
        ⟨_, _, _, rfl, by simp [h0], by simp [h4, -Int.natCast_add], by simp, by simp [dig], Nat.le_refl _⟩
      rintro q st ⟨e', loc', g', rfl, g0, g4, g6, g5, hq⟩
      simp [g0, g4, g6, g5, -Int.natCast_add]
      refine pendP (fun c3 => ?_) (fun c3 => ?_)
      · obtain ⟨q, rfl⟩ : ∃ p, q = p + 1 := ⟨q - 1, by omega⟩
        have g6' : e' 6 = .int .i64 (q : Int) := by rw [g6]; congr 1; omega
        have hqs : q < s.length := by omega
        have hb : s[q].toNat < 256 := UInt8.toNat_lt s[q]
        have hdl := dig_lt ((s.take (i + 1)).drop (q + 1))
        have hlen : ((s.take (i + 1)).drop (q + 1)).length ≤ 6 := by simp; omega
        have hdl2 : dig ((s.take (i + 1)).drop (q + 1)) < 128 ^ 6 := Nat.lt_of_lt_of_le hdl (Nat.pow_le_pow_right (by decide) hlen)
        have h6 : (128 : Nat) ^ 6 = 4398046511104 := by decide
        rw [h6] at hdl2
        have hcons : (s.take (i + 1)).drop q = s[q] :: (s.take (i + 1)).drop (q + 1) := by
          rw [List.drop_eq_getElem_cons (by simp; omega)]
          simp
        generalize hD : dig ((s.take (i + 1)).drop (q + 1)) = D at g5 hdl2
        have t1 : IntKind.i64.wrap ((D : Int) * 128) = ((D * 128 : Nat) : Int) := by rw [wrap_i64 (by omega) (by omega)]; omega
        have t2 : IntKind.i64.wrap ((s[q].toNat : Nat) : Int) = ((s[q].toNat : Nat) : Int) := wrap_i64 (by omega) (by omega)
        have t3 : ((s[q].toNat : Nat) : Int).tmod 128 = ((s[q].toNat % 128 : Nat) : Int) := by rw [Int.tmod_eq_emod_of_nonneg (by omega)]; omega
        have t4 : IntKind.i64.wrap (((D * 128 : Nat) : Int) + ((s[q].toNat % 128 : Nat) : Int)) = ((D * 128 + s[q].toNat % 128 : Nat) : Int) := by rw [wrap_i64 (by omega) (by omega)]; omega
        have t5 : IntKind.i64.wrap ((q : Int) - 1) = (q : Int) - 1 := wrap_i64 (by omega) (by omega)
        have cq : (0 : Int) ≤ q := by omega
        simp [g0, g4, g6', g5, cq, hqs, t1, t2, t3, t4, t5, -Int.natCast_add, -Int.natCast_mul, -Int.natCast_emod]
        exact again_intro q (by omega) ⟨_, _, _, rfl, by simp [g0], by simp [g4, -Int.natCast_add], by simp, by simp [-Int.natCast_add, -Int.natCast_mul, -Int.natCast_emod, hcons, dig, hD], by omega⟩
      · obtain rfl : q = 0 := by omega
        rw [List.drop_zero] at g5
        have cs : 0 ≤ ((i + 1 : Nat) : Int) := by omega
        have cs2 : ((i + 1 : Nat) : Int) ≤ s.length := by omega
        have iff := readVar_iff (s := s) (k := i + 1) (by omega) (by omega) (by omega)
        have cc : ((i + 1 : Nat) : Int) ≤ 7 := by omega
        simp [g0, g4, g6, g5, -Int.natCast_add, c3, specVar_eq, cs, cs2]
        refine pendP (fun c4 => ?_) (fun c4 => ?_)
        · simp [g0, g4, g6, g5, -Int.natCast_add, c4, iff.1 c4]
        · have w2 : IntKind.i64.wrap (((i + 1 : Nat) : Int) + 1) = ((i + 1 + 1 : Nat) : Int) := wrap_nat (by omega)
          simp [g0, g4, g6, g5, -Int.natCast_add, c4, w2]
          refine again_intro (j - 1) (by omega) ⟨_, _, _, i + 1, rfl, by simp [g0], by simp [-Int.natCast_add], ?_, by omega⟩
          rcases hv with hv | hv
          · exact .inl hv
          · right
            refine Decidable.byContradiction fun hh => c4 (iff.2 ?_)
            have e : (readVar s).2 = i + 1 := by omega
            have := dig_readVar (s := s) (m := (readVar s).1) (k := i + 1) (by rw [← e]) (by omega)
            rw [this, ← e]
    · have hz : readVar s = (0, 0) := readVar_zero (by have := (readVar_bound s).2.2; omega)
      simp [h0, h4, -Int.natCast_add, c1, c2, hz]
  · have hz : readVar s = (0, 0) := readVar_zero (by have := (readVar_bound s).2.1; omega)
    simp [h0, h4, -Int.natCast_add, c1, hz]
end Go.Abs

/-
  CONTRACTS: frames, differences, the reader.
-/
namespace Go.Abs
open Go Go.Proofs
set_option linter.unusedSimpArgs false
attribute [local simp] fieldAddr
attribute [simp] from_eq l1In_eq var_eq specVar_eq fixed_eq

@[simp] theorem readVar_sm (s : List UInt8) (H : Heap) (hs : Sm s) : evF Tryz.prog TT 57 #[S s] H = some (.tuple #[.int .i64 (readVar s).1, .int .i64 (readVar s).2], H) := readVar_eq s H (by have := hs.lt; omega)
@[simp] theorem specReadVar_sm (s : List UInt8) (H : Heap) (hs : Sm s) : evF Tryz.prog TT 87 #[S s] H = some (.tuple #[.int .i64 (readVar s).1, .int .i64 (readVar s).2], H) := specReadVar_eq s H (by have := hs.lt; omega)

@[simp] theorem byte_ok (n : Int) : (0 ≤ n % 256 ∧ n % 256 < 256) = True := eq_true ⟨by omega, by omega⟩
theorem u8_cast (n : Nat) : UInt8.ofNat ((n : Int) % 256).toNat = UInt8.ofNat n := u8i_nat n
theorem u8_int (n : Int) : UInt8.ofNat (n % 256).toNat = u8i n := rfl

theorem specFixed_eq (n w : Int) (H : Heap) (hn : n < 2 ^ 62) : evF Tryz.prog TT 34 #[.int .i64 n, .int .i64 w] H = some (S (fixed n w), H) := by
  refine Ret.eq ?_
  refine Ret.go rfl Tryz.func34 rfl (by decide) (by simp [Tryz.ntmps34]) (by kernel_rfl) loc34 Tryz.results34 Tryz.ntmps34 ?_
  simp
  refine pendB (fun c1 => ?_) (fun c1 => ?_)
  · simp [c1]
    simp at c1
    unfold fixed
    rw [if_neg (by omega)]
  · simp [c1]
    simp at c1
    refine pendP (fun c2 => ?_) (fun c2 => ?_)
    · simp [c2]
      unfold fixed
      rw [if_neg (by omega)]
    · obtain ⟨m, rfl⟩ : ∃ m : Nat, n = m := ⟨n.toNat, by omega⟩
      obtain ⟨u, rfl⟩ : ∃ u : Nat, w = u := ⟨w.toNat, by omega⟩
      simp [c2]
      refine mC_loop (fun j s => ∃ (e : Nat → Value) (loc : Nat → List Value) (g : Nat) (K : Heap) (i M : Nat), s = ⟨e, loc, g, K, 31⟩ ∧ Upd no H K ∧ M = m / 256 ^ i ∧ e 0 = .int .i64 M ∧ e 1 = .int .i64 u ∧
          e 5 = S (be i m) ∧ e 6 = .int .i64 i ∧ i + j = u) ?_ (j := u) ⟨_, _, _, _, 0, m, rfl, Upd_refl H, by simp, by simp, by simp, by simp [be], by simp, by simp⟩
      rintro j s ⟨e, loc, g, K, i, M, rfl, hu, hM, h0, h1, h5, h6, hj⟩
      simp [h0, h1, h5, h6]
      have hle : M ≤ m := by rw [hM]; exact Nat.div_le_self _ _
      refine pendP (fun c3 => ?_) (fun c3 => ?_)
      · have t1 : (M : Int).tmod 256 = ((M % 256 : Nat) : Int) := by rw [Int.tmod_eq_emod_of_nonneg (by omega)]; omega
        have t2 : IntKind.i64.wrap ((M : Int).tdiv 256) = ((M / 256 : Nat) : Int) := by rw [Int.tdiv_eq_ediv_of_nonneg (by omega), wrap_i64 (by omega) (by omega)]; omega
        have t2' : IntKind.i64.wrap ((M : Int) / 256) = ((M / 256 : Nat) : Int) := by rw [wrap_i64 (by omega) (by omega)]; omega
        have t3 := wrap_nat (k := i) (by omega)
        have hbl := be_length i m
        have hM' : M / 256 = m / 256 ^ (i + 1) := by rw [hM, Nat.pow_succ, ← Nat.div_div_eq_div_mul]
        have hbe : be (i + 1) m = UInt8.ofNat (M % 256) :: be i m := by
          rw [be, ← hM]
          congr 1
          rw [← UInt8.toNat_inj, UInt8.toNat_ofNat', UInt8.toNat_ofNat']
          omega
        simp [h0, h1, h5, h6, c3, t1, t2, t2', t3, hbl, -Int.natCast_ediv, -Int.natCast_emod]
        exact ⟨by omega, again_intro (j - 1) (by omega) ⟨_, _, _, _, i + 1, M / 256, rfl, hu.push _ _, hM', by simp [-Int.natCast_ediv], by simp [h1], by simp [hbe, u8_cast, -Int.natCast_emod], by simp, by omega⟩⟩
      · obtain rfl : i = u := by omega
        obtain rfl : j = 0 := by omega
        simp [h0, h1, h5, h6, c3]
        have hfx : fixed (m : Int) (i : Int) = if m < 256 ^ i then be i m else [] := by
          unfold fixed
          by_cases hh : m < 256 ^ i
          · rw [if_pos hh, if_pos ⟨c1.1, c1.2, by omega, by rw [Int.toNat_natCast, pow256]; omega⟩]
            rfl
          · rw [if_neg hh, if_neg]
            rintro ⟨_, _, _, h⟩
            rw [Int.toNat_natCast, pow256] at h
            omega
        have hp : 0 < 256 ^ i := Nat.pow_pos (by decide)
        refine pendP (fun c4 => ?_) (fun c4 => ?_)
        · have hh : ¬ m < 256 ^ i := fun hh => by rw [hM, Nat.div_eq_of_lt hh] at c4; omega
          simp [h0, h1, h5, h6, c4, hfx, hh]
          exact gc_flat rfl hu
        · have hh : m < 256 ^ i := Decidable.byContradiction fun hh => c4 (by rw [hM]; exact_mod_cast Nat.div_pos (show 256 ^ i ≤ m by omega) hp)
          simp [h0, h1, h5, h6, c4, hfx, hh]
          exact gc_flat rfl hu

theorem frame_eq (b : List UInt8) (H : Heap) (hb : b.length < 2 ^ 61) : evF Tryz.prog TT 94 #[S b] H = some (S (frame b), H) := by
  refine Ret.eq ?_
  refine Ret.go rfl Tryz.func94 rfl (by decide) (by simp [Tryz.ntmps94]) (by kernel_rfl) loc94 Tryz.results94 Tryz.ntmps94 ?_
  simp
  refine pendB (fun c1 => ?_) (fun c1 => ?_)
  · simp [c1]
    simp at c1
    unfold frame
    rw [if_neg (by omega)]
  · have hl := fixed_length b.length 4
    have hc := crc_eq (fixed b.length 4 ++ b) H (by simp; omega)
    have hf := fixed_length (crc (fixed b.length 4 ++ b)) 4
    simp [c1, hc]
    simp at c1
    rw [frame, if_pos (by omega)]
    and_intros <;> first | omega | rfl
theorem specFrame_eq (b : List UInt8) (H : Heap) (hb : b.length < 2 ^ 61) : evF Tryz.prog TT 90 #[S b] H = some (S (frame b), H) := by
  refine Ret.eq ?_
  refine Ret.go rfl Tryz.func90 rfl (by decide) (by simp [Tryz.ntmps90]) (by kernel_rfl) loc90 Tryz.results90 Tryz.ntmps90 ?_
  simp
  refine pendP (fun c1 => ?_) (fun c1 => ?_)
  · simp [c1]
    rw [frame, if_neg (by simp [c1])]
  · simp [c1]
    have c1' : 0 < b.length := List.length_pos_iff.2 c1
    refine pendP (fun c2 => ?_) (fun c2 => ?_)
    · simp [c1, c2]
      rw [frame, if_neg (by omega)]
    · have hl := fixed_length b.length 4
      have hc := specCrc_eq (fixed b.length 4 ++ b) H (by simp; omega)
      have hf := fixed_length (crc (fixed b.length 4 ++ b)) 4
      have h1 := specFixed_eq b.length 4 H (by omega)
      have h2 := specFixed_eq (crc (fixed b.length 4 ++ b)) 4 H (by have := crc_lt (fixed b.length 4 ++ b); omega)
      simp [c1, c2, hc, h1, h2]
      rw [frame, if_pos (by omega)]
      and_intros <;> first | omega | rfl
theorem unframe_le (s : List UInt8) : (unframe s).1.length ≤ s.length := by
  unfold unframe
  split
  · simp only
    repeat' split
    all_goals simp <;> omega
  · simp
@[simp] theorem Sm_unframe {s : List UInt8} (h : Sm s) : Sm (unframe s).1 := Sm_le h (unframe_le s)

@[simp] theorem unframe_eq (s : List UInt8) (H : Heap) (hs : Sm s) : evF Tryz.prog TT 81 #[S s] H = some (.tuple #[S (unframe s).1, .int .i64 (unframe s).2.1, .int .i64 (unframe s).2.2], H) := by
  refine Ret.eq ?_
  have hs := hs.lt
  have e := readFixed_eq s 4 H (by omega)
  refine Ret.go rfl Tryz.func81 rfl (by decide) (by simp [Tryz.ntmps81]) (by kernel_rfl) loc81 Tryz.results81 Tryz.ntmps81 ?_
  simp [e]
  by_cases h4 : 4 ≤ s.length
  · have e2 : readFixed s 4 = (((readBE (s.take 4) 0 : Nat) : Int), true) := by
      unfold readFixed
      rw [if_pos ⟨by decide, by decide, by omega⟩]
      rfl
    have hun : unframe s = if 1 ≤ readBE (s.take 4) 0 ∧ readBE (s.take 4) 0 ≤ 2000 then
      if s.length < readBE (s.take 4) 0 + 8 then ([], 0, 1)
      else if frame ((s.take (readBE (s.take 4) 0 + 8)).drop 8) = s.take (readBE (s.take 4) 0 + 8) then ((s.take (readBE (s.take 4) 0 + 8)).drop 8, ((readBE (s.take 4) 0 : Nat) : Int) + 8, 0) else ([], 0, 2)
    else ([], 0, 2) := by
      rw [unframe, if_pos h4]
    generalize readBE (s.take 4) 0 = n at e2 hun
    simp [e2]
    refine pendB (fun c1 => ?_) (fun c1 => ?_)
    · simp [e2, c1]
      simp at c1
      rw [hun, if_neg (by omega)]
      simp
    · have c1' := c1
      simp at c1'
      have hw : IntKind.i64.wrap ((n : Int) + 8) = ((n + 8 : Nat) : Int) := by rw [wrap_i64 (by omega) (by omega)]; omega
      rw [if_pos (by omega)] at hun
      simp [e2, c1, hw, -Int.natCast_add]
      refine pendP (fun c2 => ?_) (fun c2 => ?_)
      · rw [if_pos c2] at hun
        simp [e2, c1, c2, hw, hun, -Int.natCast_add]
      · rw [if_neg c2] at hun
        have hf := frame_eq ((s.take (n + 8)).drop 8) H (by simp; omega)
        simp [e2, c1, c2, hw, hf, sub, -Int.natCast_add]
        refine ⟨by omega, by omega, pendB (fun c3 => ?_) (fun c3 => ?_)⟩
        · simp at c3
          rw [if_neg c3] at hun
          simp [c3, hun]
        · simp at c3
          rw [if_pos c3] at hun
          simp [c3, hun, hw]
  · have e2 : readFixed s 4 = (0, false) := by rw [readFixed, if_neg (by omega)]
    simp [e2, unframe, h4]
@[simp] theorem specUnspecFrame_eq (s : List UInt8) (H : Heap) (hs : Sm s) : evF Tryz.prog TT 108 #[S s] H = some (.tuple #[S (unframe s).1, .int .i64 (unframe s).2.1, .int .i64 (unframe s).2.2], H) := by
  refine Ret.eq ?_
  have hs := hs.lt
  have e := specReadFixed_eq s 4 H (by omega)
  refine Ret.go rfl Tryz.func108 rfl (by decide) (by simp [Tryz.ntmps108]) (by kernel_rfl) loc108 Tryz.results108 Tryz.ntmps108 ?_
  simp [e]
  by_cases h4 : 4 ≤ s.length
  · have e2 : readFixed s 4 = (((readBE (s.take 4) 0 : Nat) : Int), true) := by
      unfold readFixed
      rw [if_pos ⟨by decide, by decide, by omega⟩]
      rfl
    have hun : unframe s = if 1 ≤ readBE (s.take 4) 0 ∧ readBE (s.take 4) 0 ≤ 2000 then
      if s.length < readBE (s.take 4) 0 + 8 then ([], 0, 1)
      else if frame ((s.take (readBE (s.take 4) 0 + 8)).drop 8) = s.take (readBE (s.take 4) 0 + 8) then ((s.take (readBE (s.take 4) 0 + 8)).drop 8, ((readBE (s.take 4) 0 : Nat) : Int) + 8, 0) else ([], 0, 2)
    else ([], 0, 2) := by
      rw [unframe, if_pos h4]
    generalize readBE (s.take 4) 0 = n at e2 hun
    simp [e2]
    refine pendP (fun c0 => ?_) (fun c0 => ?_)
    · simp [e2, c0]
      rw [hun, if_neg (by omega)]
      simp
    · simp [e2, c0]
      refine pendP (fun c1 => ?_) (fun c1 => ?_)
      · simp [e2, c0, c1]
        rw [hun, if_neg (by omega)]
        simp
      · have hw : IntKind.i64.wrap (8 + (n : Int)) = ((n + 8 : Nat) : Int) := by rw [wrap_i64 (by omega) (by omega)]; omega
        rw [if_pos (by omega)] at hun
        simp [e2, c0, c1, hw, -Int.natCast_add]
        refine pendP (fun c2 => ?_) (fun c2 => ?_)
        · rw [if_pos c2] at hun
          simp [c2, hun]
        · rw [if_neg c2] at hun
          have hf := specFrame_eq ((s.take (n + 8)).drop 8) H (by simp; omega)
          simp [c2, hw, hf, sub, -Int.natCast_add]
          refine ⟨by omega, by omega, pendB (fun c3 => ?_) (fun c3 => ?_)⟩
          · simp at c3
            rw [if_neg c3] at hun
            simp [c3, hun]
          · simp at c3
            rw [if_pos c3] at hun
            simp [c3, hun, hw]
  · have e2 : readFixed s 4 = (0, false) := by rw [readFixed, if_neg (by omega)]
    simp [e2, unframe, h4]
end Go.Abs

/-
  CONTRACTS: differences, the reader.
-/
namespace Go.Abs
open Go Go.Proofs
set_option linter.unusedSimpArgs false
attribute [local simp] fieldAddr

@[simp] theorem zigZag_eq (n : Int) (H : Heap) : evF Tryz.prog TT 112 #[.int .i64 n] H = some (.int .i64 (zigZag n), H) := by
  refine Ret.eq ?_
  refine Ret.go rfl Tryz.func112 rfl (by decide) (by simp [Tryz.ntmps112]) (by kernel_rfl) loc112 Tryz.results112 Tryz.ntmps112 ?_
  simp
  refine pendB (fun c1 => ?_) (fun c1 => ?_)
  · have c1' := c1
    simp at c1'
    have hw : IntKind.i64.wrap (2 * n) = 2 * n := wrap_i64 (by omega) (by omega)
    simp [c1, hw]
    rw [zigZag, if_pos (by unfold maxZig; omega)]
  · have c1' := c1
    simp at c1'
    simp [c1]
    refine pendB (fun c2 => ?_) (fun c2 => ?_)
    · have c2' := c2
      simp at c2'
      have hw : IntKind.i64.wrap (-2 * n) = -2 * n := wrap_i64 (by omega) (by omega)
      have hw2 : IntKind.i64.wrap (-2 * n - 1) = -2 * n - 1 := wrap_i64 (by omega) (by omega)
      simp [c1, c2, hw, hw2]
      rw [zigZag, if_neg (by unfold maxZig; omega), if_pos (by unfold maxZig; omega)]
    · have c2' := c2
      simp at c2'
      simp [c1, c2]
      rw [zigZag, if_neg (by unfold maxZig; omega), if_neg (by unfold maxZig; omega)]
@[simp] theorem specZigZag_eq (n : Int) (H : Heap) : evF Tryz.prog TT 103 #[.int .i64 n] H = some (.int .i64 (zigZag n), H) := by
  refine Ret.eq ?_
  refine Ret.go rfl Tryz.func103 rfl (by decide) (by simp [Tryz.ntmps103]) (by kernel_rfl) loc103 Tryz.results103 Tryz.ntmps103 ?_
  simp
  refine pendB (fun c1 => ?_) (fun c1 => ?_)
  · have c1' := c1
    simp at c1'
    simp [c1]
    rw [zigZag, if_neg (by unfold maxZig; omega), if_neg (by unfold maxZig; omega)]
  · have c1' := c1
    simp at c1'
    simp [c1]
    refine pendP (fun c2 => ?_) (fun c2 => ?_)
    · have hw : IntKind.i64.wrap (-2 * n) = -2 * n := wrap_i64 (by omega) (by omega)
      have hw2 : IntKind.i64.wrap (-2 * n - 1) = -2 * n - 1 := wrap_i64 (by omega) (by omega)
      simp [c1, c2, hw, hw2]
      rw [zigZag, if_neg (by unfold maxZig; omega), if_pos (by unfold maxZig; omega)]
    · have hw : IntKind.i64.wrap (2 * n) = 2 * n := wrap_i64 (by omega) (by omega)
      simp [c1, c2, hw]
      rw [zigZag, if_pos (by unfold maxZig; omega)]
@[simp] theorem unZig_eq (z : Int) (H : Heap) : evF Tryz.prog TT 105 #[.int .i64 z] H = some (.tuple #[.int .i64 (unZig z).1, .bool (unZig z).2], H) := by
  refine Ret.eq ?_
  refine Ret.go rfl Tryz.func105 rfl (by decide) (by simp [Tryz.ntmps105]) (by kernel_rfl) loc105 Tryz.results105 Tryz.ntmps105 ?_
  simp
  refine pendB (fun c1 => ?_) (fun c1 => ?_)
  · have c1' := c1
    simp at c1'
    simp [c1]
    rw [unZig, if_neg (by unfold maxZig; omega)]
    simp
  · have c1' := c1
    simp at c1'
    have hm : z.tmod 2 = z % 2 := Int.tmod_eq_emod_of_nonneg c1'.1
    simp [c1, hm]
    have hp : 0 ≤ z ∧ z ≤ 2 * maxZig := by unfold maxZig; omega
    refine pendP (fun c2 => ?_) (fun c2 => ?_)
    · have hw : IntKind.i64.wrap (z + 1) = z + 1 := wrap_i64 (by omega) (by omega)
      have hw2 : IntKind.i64.wrap (0 - (z + 1)) = -(z + 1) := by rw [wrap_i64 (by omega) (by omega)]; omega
      have hq : (-(z + 1)).tdiv 2 = -((z + 1) / 2) := by rw [Int.neg_tdiv, Int.tdiv_eq_ediv_of_nonneg (by omega)]
      have hw3 : IntKind.i64.wrap (-((z + 1) / 2)) = -((z + 1) / 2) := wrap_i64 (by omega) (by omega)
      simp only [Int.zero_sub] at hw2
      simp [c1, c2, hm, hw, hw2, hq, hw3]
      rw [unZig, if_pos hp]
      simp [c2]
    · have hq : z.tdiv 2 = z / 2 := Int.tdiv_eq_ediv_of_nonneg (by omega)
      have hw : IntKind.i64.wrap (z / 2) = z / 2 := wrap_i64 (by omega) (by omega)
      simp [c1, c2, hm, hq, hw]
      rw [unZig, if_pos hp]
      simp [c2]
@[simp] theorem specUnZig_eq (z : Int) (H : Heap) : evF Tryz.prog TT 116 #[.int .i64 z] H = some (.tuple #[.int .i64 (unZig z).1, .bool (unZig z).2], H) := by
  refine Ret.eq ?_
  refine Ret.go rfl Tryz.func116 rfl (by decide) (by simp [Tryz.ntmps116]) (by kernel_rfl) loc116 Tryz.results116 Tryz.ntmps116 ?_
  simp
  refine pendP (fun c0 => ?_) (fun c0 => ?_)
  · simp [c0]
    rw [unZig, if_neg (by unfold maxZig; omega)]
    simp
  · simp [c0]
    refine pendP (fun c1 => ?_) (fun c1 => ?_)
    · simp [c0, c1]
      rw [unZig, if_neg (by unfold maxZig; omega)]
      simp
    · have hm : z.tmod 2 = z % 2 := Int.tmod_eq_emod_of_nonneg (by omega)
      have hq : z.tdiv 2 = z / 2 := Int.tdiv_eq_ediv_of_nonneg (by omega)
      have hw : IntKind.i64.wrap (z / 2) = z / 2 := wrap_i64 (by omega) (by omega)
      have hp : 0 ≤ z ∧ z ≤ 2 * maxZig := by unfold maxZig; omega
      simp [c0, c1, hm, hq, hw]
      refine pendP (fun c2 => ?_) (fun c2 => ?_)
      · have hw2 : IntKind.i64.wrap (0 - z / 2) = -(z / 2) := by rw [wrap_i64 (by omega) (by omega)]; omega
        have hw3 : IntKind.i64.wrap (-(z / 2) - 1) = -((z + 1) / 2) := by rw [wrap_i64 (by omega) (by omega)]; omega
        have hz : zigZag (-((z + 1) / 2)) = z := by
          rw [zigZag, if_neg (by unfold maxZig; omega), if_pos (by unfold maxZig; omega)]
          omega
        simp only [Int.zero_sub] at hw2
        simp [c0, c1, c2, hm, hq, hw, hw2, hw3, hz]
        rw [unZig, if_pos hp]
        simp [c2]
      · have hz : zigZag (z / 2) = z := by
          rw [zigZag, if_pos (by unfold maxZig; omega)]
          omega
        simp [c0, c1, c2, hm, hq, hw, hz]
        rw [unZig, if_pos hp]
        simp [c2]
@[simp] theorem zig_eq (n : Int) (H : Heap) : evF Tryz.prog TT 107 #[.int .i64 n] H = some (S (zig n), H) := by
  refine Ret.eq ?_
  refine Ret.go rfl Tryz.func107 rfl (by decide) (by simp [Tryz.ntmps107]) (by kernel_rfl) loc107 Tryz.results107 Tryz.ntmps107 ?_
  simp [zig]
@[simp] theorem l7Un_eq (z : Int) (H : Heap) : evF Tryz.prog TT 115 #[.int .i64 z] H = some (.int .i64 (unZig z).1, H) := by
  refine Ret.eq ?_
  refine Ret.go rfl Tryz.func115 rfl (by decide) (by simp [Tryz.ntmps115]) (by kernel_rfl) loc115 Tryz.results115 Tryz.ntmps115 ?_
  simp
@[simp] theorem litePrefix_eq (s p : List UInt8) (H : Heap) : evF Tryz.prog TT 111 #[S s, S p] H = some (.bool (decide (p.length ≤ s.length ∧ s.take p.length = p)), H) := by
  refine Ret.eq ?_
  refine Ret.go rfl Tryz.func111 rfl (by decide) (by simp [Tryz.ntmps111]) (by kernel_rfl) loc111 Tryz.results111 Tryz.ntmps111 ?_
  simp
  refine pendP (fun c0 => ?_) (fun c0 => ?_)
  · have h1 : (p.length : Int) ≤ s.length := by omega
    simp [c0, h1]
  · simp [c0]
@[simp] theorem hasPrefix_eq (s p : List UInt8) (H : Heap) : evF Tryz.prog TT 106 #[S s, S p] H = some (.bool (decide (p.length ≤ s.length ∧ s.take p.length = p)), H) := by
  refine Ret.eq ?_
  refine Ret.go rfl Tryz.func106 rfl (by decide) (by simp [Tryz.ntmps106]) (by kernel_rfl) loc106 Tryz.results106 Tryz.ntmps106 ?_
  simp
def began (s t : List UInt8) : Bool := decide (t ≠ []) && decide (t.length ≤ s.length ∧ s.take t.length = t)
@[simp] theorem began_eq (s t : List UInt8) (H : Heap) : evF Tryz.prog TT 96 #[S s, S t] H = some (.tuple #[.int .i64 t.length, .bool (began s t)], H) := by
  refine Ret.eq ?_
  refine Ret.go rfl Tryz.func96 rfl (by decide) (by simp [Tryz.ntmps96]) (by kernel_rfl) loc96 Tryz.results96 Tryz.ntmps96 ?_
  simp
  refine pendB (fun c0 => ?_) (fun c0 => ?_)
  · simp [c0]
    simp at c0
    simp [began, c0]
  · simp [c0]
    simp at c0
    simp [began, c0]

/-! ### The reader -/
/-- A variable of its own. -/
def RB (H : Heap) (id : Nat) : Prop := ∃ c, Box H id c
@[simp] theorem RB_set {H : Heap} {id : Nat} (h : RB H id) (d : List Value) : RB (H.set id d) id := by
  obtain ⟨c, h⟩ := h
  exact ⟨d, h.set d⟩
@[simp] theorem RB_push (H : Heap) (c : List Value) : RB (H.push c 0) H.size := ⟨c, Box.new H c⟩

@[simp] theorem gc_set2 (K : Heap) (id : Nat) (a b : List Value) (v : Value) : gc (K.set id a) v (K.set id b) = K.set id b := gc_same (show (K.set id b).size = (K.set id a).size from rfl) v
section
variable {K : Heap} {id : Nat} (hb : RB K id)
include hb
@[simp] theorem num_eq {s : List UInt8} (hs : Sm s) (ok : Bool) : evF Tryz.prog TT 25 #[.pointer (some ⟨id, 0, none⟩)] (K.set id [S s, .bool ok]) =
    some (.int .i64 (rnum s ok).1, K.set id [S (rnum s ok).2.1, .bool (rnum s ok).2.2]) := by
  obtain ⟨c, hb⟩ := hb
  have hlt := hb.lt
  have hso := hb.solo
  refine Ret.eq ?_
  refine Ret.go rfl Tryz.func25 rfl (by decide) (by simp [Tryz.ntmps25]) (by kernel_rfl) loc25 Tryz.results25 Tryz.ntmps25 ?_
  have hbd := (readVar_bound s).2.2
  simp [hlt, hs, write_set, hso]
  refine pendB (fun c1 => ?_) (fun c1 => ?_)
  · subst c1
    simp [hlt, hs, write_set, hso]
    refine pendB (fun c2 => ?_) (fun c2 => ?_)
    · simp at c2
      have e : rnum s true = (0, s, false) := by rw [rnum, if_neg (by omega)]
      simp [hlt, c2, write_set, hso, e]
    · simp at c2
      have e : rnum s true = ((readVar s).1, s.drop (readVar s).2, true) := by rw [rnum, if_pos ⟨rfl, c2⟩]
      have h1 : ((readVar s).2 : Int) ≤ s.length := by omega
      have c3 : ¬ (readVar s).2 = 0 := by omega
      simp [hlt, c2, c3, write_set, hso, e, h1]
  · subst c1
    have e : rnum s false = (0, s, false) := by rw [rnum, if_neg (by simp)]
    simp [hlt, write_set, hso, e]
@[simp] theorem bytes_eq {s : List UInt8} (ok : Bool) (n : Nat) : evF Tryz.prog TT 65 #[.pointer (some ⟨id, 0, none⟩), .int .i64 n] (K.set id [S s, .bool ok]) =
    some (S (rbytes s ok n).1, K.set id [S (rbytes s ok n).2.1, .bool (rbytes s ok n).2.2]) := by
  obtain ⟨c, hb⟩ := hb
  have hlt := hb.lt
  have hso := hb.solo
  refine Ret.eq ?_
  refine Ret.go rfl Tryz.func65 rfl (by decide) (by simp [Tryz.ntmps65]) (by kernel_rfl) loc65 Tryz.results65 Tryz.ntmps65 ?_
  simp [hlt, write_set, hso]
  refine pendB (fun c1 => ?_) (fun c1 => ?_)
  · simp at c1
    subst c1
    have e : rbytes s false n = ([], s, false) := by rw [rbytes, if_neg (by simp)]
    simp [hlt, write_set, hso, e]
  · simp at c1
    subst c1
    simp [hlt, write_set, hso]
    refine pendP (fun c2 => ?_) (fun c2 => ?_)
    · have e : rbytes s true n = ([], s, false) := by rw [rbytes, if_neg (by omega)]
      simp [hlt, write_set, hso, e, c2]
    · have e : rbytes s true n = (s.take n, s.drop n, true) := by rw [rbytes, if_pos ⟨rfl, by omega⟩]
      simp [hlt, write_set, hso, e, c2]
      omega
@[simp] theorem bytes_one {s : List UInt8} (ok : Bool) : evF Tryz.prog TT 65 #[.pointer (some ⟨id, 0, none⟩), .int .i64 1] (K.set id [S s, .bool ok]) =
    some (S (rbytes s ok 1).1, K.set id [S (rbytes s ok 1).2.1, .bool (rbytes s ok 1).2.2]) := bytes_eq hb ok 1
@[simp] theorem piece_eq {s : List UInt8} (hs : Sm s) (ok : Bool) : evF Tryz.prog TT 37 #[.pointer (some ⟨id, 0, none⟩)] (K.set id [S s, .bool ok]) =
    some (S (rpiece s ok).1, K.set id [S (rpiece s ok).2.1, .bool (rpiece s ok).2.2]) := by
  refine Ret.eq ?_
  refine Ret.go rfl Tryz.func37 rfl (by decide) (by simp [Tryz.ntmps37]) (by kernel_rfl) loc37 Tryz.results37 Tryz.ntmps37 ?_
  simp [hb, hs, rpiece]
@[simp] theorem kind_eq {s : List UInt8} (ok : Bool) : evF Tryz.prog TT 58 #[.pointer (some ⟨id, 0, none⟩)] (K.set id [S s, .bool ok]) =
    some (.int .i64 (rkind s ok).1, K.set id [S (rkind s ok).2.1, .bool (rkind s ok).2.2]) := by
  refine Ret.eq ?_
  refine Ret.go rfl Tryz.func58 rfl (by decide) (by simp [Tryz.ntmps58]) (by kernel_rfl) loc58 Tryz.results58 Tryz.ntmps58 ?_
  simp [hb, rkind]
  refine pendP (fun c1 => ?_) (fun c1 => ?_)
  · simp [c1, rkind]
  · have h0 : 0 < (rbytes s ok 1).1.length := List.length_pos_iff.2 c1
    have hw : ∀ b : UInt8, IntKind.i64.wrap (b.toNat : Int) = b.toNat := fun b => by
      have := UInt8.toNat_lt b
      exact wrap_i64 (by omega) (by omega)
    simp [c1, h0, hw, rkind]
@[simp] theorem count_eq {s : List UInt8} (hs : Sm s) (ok : Bool) (most : Int) : evF Tryz.prog TT 36 #[.pointer (some ⟨id, 0, none⟩), .int .i64 most] (K.set id [S s, .bool ok]) =
    some (.int .i64 (rcount s ok most).1, K.set id [S (rcount s ok most).2.1, .bool (rcount s ok most).2.2]) := by
  have hb' := hb
  obtain ⟨c, hbx⟩ := hb'
  have hlt := hbx.lt
  have hso := hbx.solo
  refine Ret.eq ?_
  refine Ret.go rfl Tryz.func36 rfl (by decide) (by simp [Tryz.ntmps36]) (by kernel_rfl) loc36 Tryz.results36 Tryz.ntmps36 ?_
  simp [hb, hs, hlt, write_set, hso]
  refine pendB (fun c1 => ?_) (fun c1 => ?_)
  · simp [hlt, write_set, hso, c1]
    refine pendB (fun c2 => ?_) (fun c2 => ?_)
    · simp at c2
      have e : rcount s ok most = (0, (rnum s ok).2.1, false) := by rw [rcount, if_neg (by omega)]
      have c3 : ¬ ((rnum s ok).1 : Int) ≤ most := by omega
      simp [c2, c3, e]
    · simp at c2
      have e : rcount s ok most = rnum s ok := by rw [rcount, if_pos ⟨c1, c2⟩]
      simp [c2, e, c1]
  · have e : rcount s ok most = (0, (rnum s ok).2.1, false) := by rw [rcount, if_neg (by simp [c1])]
    simp [hlt, write_set, hso, c1, e]
@[simp] theorem zag_eq {s : List UInt8} (hs : Sm s) (ok : Bool) : evF Tryz.prog TT 95 #[.pointer (some ⟨id, 0, none⟩)] (K.set id [S s, .bool ok]) =
    some (.int .i64 (rzag s ok).1, K.set id [S (rzag s ok).2.1, .bool (rzag s ok).2.2]) := by
  have hb' := hb
  obtain ⟨c, hbx⟩ := hb'
  have hlt := hbx.lt
  have hso := hbx.solo
  refine Ret.eq ?_
  refine Ret.go rfl Tryz.func95 rfl (by decide) (by simp [Tryz.ntmps95]) (by kernel_rfl) loc95 Tryz.results95 Tryz.ntmps95 ?_
  simp [hb, hs, hlt, write_set, hso]
  refine pendB (fun c1 => ?_) (fun c1 => ?_)
  · simp [hlt, write_set, hso, c1, rzag]
  · simp [hlt, write_set, hso, c1, rzag]
end
end Go.Abs

/-
  PLAIN LAWS: times, values, blocks.
-/
namespace Go.Abs
open Go
set_option linter.unusedSimpArgs false

/-- The i-th of a list of numbers. -/
def gi (l : List Int) (i : Nat) : Int := l[i]?.getD 0
theorem gi_get {l : List Int} {i : Nat} (h : i < l.length) : gi l i = l[i] := by simp [gi, h]
theorem gi_take {l : List Int} {i n : Nat} (h : i < n) : gi (l.take n) i = gi l i := by simp [gi, List.getElem?_take, h]
theorem gi_snoc {l : List Int} {x : Int} : gi (l ++ [x]) l.length = x := by simp [gi]
theorem gi_left {l r : List Int} {i : Nat} (h : i < l.length) : gi (l ++ r) i = gi l i := by simp [gi, List.getElem?_append_left h]

def maxTime : Int := 1099511627776
def tpiece (l : List Int) (i : Nat) : List UInt8 := if i = 0 then var (gi l 0) else if i = 1 then var (gi l 1 - gi l 0) else zig (gi l i - gi l (i - 1) - (gi l (i - 1) - gi l (i - 2)))
def traw (l : List Int) : Nat → List UInt8
  | 0 => []
  | n + 1 => traw l n ++ tpiece l n
def tok1 (l : List Int) (i : Nat) : Bool := decide (0 ≤ gi l i ∧ gi l i ≤ maxTime) && (decide (i = 0) || decide (gi l (i - 1) < gi l i))
def tokN (l : List Int) : Nat → Bool
  | 0 => true
  | n + 1 => tokN l n && tok1 l n
def showTimes (l : List Int) : List UInt8 := if tokN l l.length = true ∧ 1 ≤ l.length ∧ l.length ≤ 60 then traw l l.length else []

def vpiece (l : List Int) (i : Nat) : List UInt8 := zig (gi l i - (if i = 0 then 0 else gi l (i - 1)))
def vraw (l : List Int) : Nat → List UInt8
  | 0 => []
  | n + 1 => vraw l n ++ vpiece l n
def vok1 (l : List Int) (i : Nat) : Bool := decide (-maxTime ≤ gi l i ∧ gi l i ≤ maxTime)
def vokN (l : List Int) : Nat → Bool
  | 0 => true
  | n + 1 => vokN l n && vok1 l n
def showValues (l : List Int) : List UInt8 := if vokN l l.length = true ∧ 1 ≤ l.length ∧ l.length ≤ 60 then vraw l l.length else []

theorem zig_len (n : Int) : (zig n).length ≤ 7 := var_len _
theorem tpiece_len (l : List Int) (i : Nat) : (tpiece l i).length ≤ 7 := by
  unfold tpiece
  repeat' split
  · exact var_len _
  · exact var_len _
  · exact zig_len _
theorem traw_len (l : List Int) : ∀ n, (traw l n).length ≤ 7 * n
  | 0 => by simp [traw]
  | n + 1 => by have := traw_len l n; have := tpiece_len l n; simp [traw]; omega
theorem vraw_len (l : List Int) : ∀ n, (vraw l n).length ≤ 7 * n
  | 0 => by simp [vraw]
  | n + 1 => by have := vraw_len l n; have := zig_len (gi l n - (if n = 0 then 0 else gi l (n - 1))); simp [vraw, vpiece]; omega
theorem tokN_mono (l : List Int) : ∀ n k, k ≤ n → tokN l n = true → tokN l k = true
  | 0, k, h, _ => by
    obtain rfl : k = 0 := by omega
    rfl
  | n + 1, k, h, ht => by
    rw [tokN, Bool.and_eq_true] at ht
    by_cases hk : k = n + 1
    · subst hk; rw [tokN, Bool.and_eq_true]; exact ht
    · exact tokN_mono l n k (by omega) ht.1
theorem tokN_at (l : List Int) {n i : Nat} (h : tokN l n = true) (hi : i < n) : tok1 l i = true := by
  have := tokN_mono l n (i + 1) hi h
  rw [tokN, Bool.and_eq_true] at this
  exact this.2
theorem vokN_mono (l : List Int) : ∀ n k, k ≤ n → vokN l n = true → vokN l k = true
  | 0, k, h, _ => by
    obtain rfl : k = 0 := by omega
    rfl
  | n + 1, k, h, ht => by
    rw [vokN, Bool.and_eq_true] at ht
    by_cases hk : k = n + 1
    · subst hk; rw [vokN, Bool.and_eq_true]; exact ht
    · exact vokN_mono l n k (by omega) ht.1
theorem vokN_at (l : List Int) {n i : Nat} (h : vokN l n = true) (hi : i < n) : vok1 l i = true := by
  have := vokN_mono l n (i + 1) hi h
  rw [vokN, Bool.and_eq_true] at this
  exact this.2
theorem showTimes_len (l : List Int) : (showTimes l).length ≤ 420 := by
  unfold showTimes
  split
  · have := traw_len l l.length; omega
  · simp
theorem showValues_len (l : List Int) : (showValues l).length ≤ 420 := by
  unfold showValues
  split
  · have := vraw_len l l.length; omega
  · simp

/-! ### A difference is shown, and read again -/
theorem unZig_zigZag {n : Int} (h : -maxZig ≤ n ∧ n ≤ maxZig) : unZig (zigZag n) = (n, true) := by
  unfold zigZag
  unfold maxZig at h
  by_cases h1 : 0 ≤ n
  · rw [if_pos (by unfold maxZig; omega), unZig, if_pos (by unfold maxZig; omega)]
    have e : 2 * n % 2 = 0 := by omega
    rw [e, if_neg (by decide)]
    congr 1
    omega
  · rw [if_neg (by omega), if_pos (by unfold maxZig; omega), unZig, if_pos (by unfold maxZig; omega)]
    have e : (-2 * n - 1) % 2 = 1 := by omega
    rw [e, if_pos rfl]
    congr 1
    omega
theorem zigZag_ok {n : Int} (h : -maxZig ≤ n ∧ n ≤ maxZig) : 0 ≤ zigZag n ∧ zigZag n ≤ maxVar := by
  unfold zigZag maxVar
  unfold maxZig at *
  repeat' split
  all_goals omega
theorem rnum_var {n : Int} (h : 0 ≤ n ∧ n ≤ maxVar) (r : List UInt8) : rnum (var n ++ r) true = (n.toNat, r, true) := by
  have e := readVar_var h r
  have hl : 0 < (var n).length := List.length_pos_iff.2 fun hh => absurd h ((var_nil n).1 hh)
  unfold rnum
  rw [e, if_pos ⟨rfl, hl⟩]
  simp
theorem rzag_zig {n : Int} (h : -maxZig ≤ n ∧ n ≤ maxZig) (r : List UInt8) : rzag (zig n ++ r) true = (n, r, true) := by
  have hz := zigZag_ok h
  unfold rzag zig
  rw [rnum_var hz r]
  simp only
  have e : (((zigZag n).toNat : Nat) : Int) = zigZag n := Int.toNat_of_nonneg hz.1
  rw [e, unZig_zigZag h]
  rfl

/-! ### Times, read -/
structure TS where
  s : List UInt8
  ok : Bool
  step : Int
  last : Int
  out : List Int
/-- One more time is read. -/
def tstep (i : Nat) (x : TS) : TS :=
  let q : Int × List UInt8 × Bool := if i < 2 then (((rnum x.s x.ok).1 : Int), (rnum x.s x.ok).2) else (IntKind.i64.wrap (x.step + (rzag x.s x.ok).1), (rzag x.s x.ok).2)
  ⟨q.2.1, q.2.2, q.1, IntKind.i64.wrap (x.last + q.1), x.out ++ [IntKind.i64.wrap (x.last + q.1)]⟩
def tread (s : List UInt8) : Nat → TS
  | 0 => ⟨s, true, 0, 0, []⟩
  | n + 1 => tstep n (tread s n)
theorem tread_len (s : List UInt8) : ∀ n, (tread s n).out.length = n
  | 0 => rfl
  | n + 1 => by simp [tread, tstep, tread_len s n]
theorem tread_sm {s : List UInt8} (h : Sm s) : ∀ n, Sm (tread s n).s
  | 0 => h
  | n + 1 => by
    have := tread_sm h n
    simp only [tread, tstep]
    split <;> simp [this]
def beganB (s t : List UInt8) : Bool := decide (t ≠ []) && decide (t.length ≤ s.length ∧ s.take t.length = t)
def readTimes (s : List UInt8) (n : Int) : List Int × Nat :=
  if 1 ≤ n ∧ n ≤ 60 then
    if (tread s n.toNat).ok = true ∧ beganB s (showTimes (tread s n.toNat).out) = true then ((tread s n.toNat).out, (showTimes (tread s n.toNat).out).length) else ([], 0)
  else ([], 0)

structure VS where
  s : List UInt8
  ok : Bool
  last : Int
  out : List Int
def vstep (x : VS) : VS :=
  let v := IntKind.i64.wrap (x.last + (rzag x.s x.ok).1)
  ⟨(rzag x.s x.ok).2.1, (rzag x.s x.ok).2.2, v, x.out ++ [v]⟩
def vread (s : List UInt8) : Nat → VS
  | 0 => ⟨s, true, 0, []⟩
  | n + 1 => vstep (vread s n)
theorem vread_len (s : List UInt8) : ∀ n, (vread s n).out.length = n
  | 0 => rfl
  | n + 1 => by simp [vread, vstep, vread_len s n]
theorem vread_sm {s : List UInt8} (h : Sm s) : ∀ n, Sm (vread s n).s
  | 0 => h
  | n + 1 => by simp [vread, vstep, vread_sm h n]
def readValues (s : List UInt8) (n : Int) : List Int × Nat :=
  if 1 ≤ n ∧ n ≤ 60 then
    if (vread s n.toNat).ok = true ∧ beganB s (showValues (vread s n.toNat).out) = true then ((vread s n.toNat).out, (showValues (vread s n.toNat).out).length) else ([], 0)
  else ([], 0)

theorem wrap_id {n : Int} (h1 : -9223372036854775808 ≤ n) (h2 : n ≤ 9223372036854775807) : IntKind.i64.wrap n = n := by
  unfold IntKind.wrap
  simp [IntKind.bits, IntKind.signed]
  omega

theorem tok1_iff (l : List Int) (i : Nat) : tok1 l i = true ↔ (0 ≤ gi l i ∧ gi l i ≤ maxTime) ∧ (0 < i → gi l (i - 1) < gi l i) := by
  unfold tok1
  rw [Bool.and_eq_true, Bool.or_eq_true, decide_eq_true_iff, decide_eq_true_iff, decide_eq_true_iff]
  constructor
  · rintro ⟨h, k⟩; exact ⟨h, fun hi => k.resolve_left (by omega)⟩
  · rintro ⟨h, k⟩
    refine ⟨h, ?_⟩
    by_cases hi : i = 0
    · exact .inl hi
    · exact .inr (k (by omega))
/-- What is shown of times is read as they are. -/
theorem tread_show {l : List Int} (hl : tokN l l.length = true) (r : List UInt8) : ∀ (n : Nat) (w : List UInt8), n ≤ l.length → traw l l.length ++ r = traw l n ++ w →
    (tread (traw l l.length ++ r) n) = ⟨w, true, if n = 0 then 0 else if n = 1 then gi l 0 else gi l (n - 1) - gi l (n - 2), if n = 0 then 0 else gi l (n - 1), l.take n⟩
  | 0, w, _, hw => by
    simp only [traw, List.nil_append] at hw
    simp [tread, hw]
  | n + 1, w, hn, hw => by
    have hw' : traw l l.length ++ r = traw l n ++ (tpiece l n ++ w) := by rw [hw, traw, List.append_assoc]
    have ih := tread_show hl r n (tpiece l n ++ w) (by omega) hw'
    have h0 := (tok1_iff l n).1 (tokN_at l hl (by omega))
    have hmx : maxTime = 1099511627776 := rfl
    have htake : l.take (n + 1) = l.take n ++ [gi l n] := by
      rw [gi_get (by omega : n < l.length), List.take_succ_eq_append_getElem (by omega)]
    rw [tread, ih]
    unfold tstep
    by_cases hn0 : n = 0
    · subst hn0
      have hv : 0 ≤ gi l 0 ∧ gi l 0 ≤ maxVar := by unfold maxVar; omega
      have ep : tpiece l 0 = var (gi l 0) := by rw [tpiece, if_pos rfl]
      have e := rnum_var hv w
      simp only [ep, e, show (0 : Nat) < 2 from by decide, if_true]
      have e2 : (((gi l 0).toNat : Nat) : Int) = gi l 0 := Int.toNat_of_nonneg hv.1
      rw [e2, wrap_id (by omega) (by omega)]
      simp [htake]
    · by_cases hn1 : n = 1
      · subst hn1
        have h1 := (tok1_iff l 0).1 (tokN_at l hl (by omega))
        have h2 : gi l 0 < gi l 1 := h0.2 (by omega)
        have hv : 0 ≤ gi l 1 - gi l 0 ∧ gi l 1 - gi l 0 ≤ maxVar := by unfold maxVar; omega
        have ep : tpiece l 1 = var (gi l 1 - gi l 0) := by rw [tpiece, if_neg (by decide), if_pos rfl]
        have e := rnum_var hv w
        simp only [ep, e, show (1 : Nat) < 2 from by decide, if_true]
        have e2 : (((gi l 1 - gi l 0).toNat : Nat) : Int) = gi l 1 - gi l 0 := Int.toNat_of_nonneg hv.1
        simp only [e2]
        have e3 : gi l 0 + (gi l 1 - gi l 0) = gi l 1 := by omega
        simp [htake, e3]
        rw [wrap_id (by omega) (by omega)]
      · have h1 := (tok1_iff l (n - 1)).1 (tokN_at l hl (by omega))
        have h2 := (tok1_iff l (n - 2)).1 (tokN_at l hl (by omega))
        have hz : -maxZig ≤ gi l n - gi l (n - 1) - (gi l (n - 1) - gi l (n - 2)) ∧ gi l n - gi l (n - 1) - (gi l (n - 1) - gi l (n - 2)) ≤ maxZig := by unfold maxZig; omega
        have ep : tpiece l n = zig (gi l n - gi l (n - 1) - (gi l (n - 1) - gi l (n - 2))) := by rw [tpiece, if_neg hn0, if_neg hn1]
        have e := rzag_zig hz w
        simp only [ep, e, if_neg (show ¬ n < 2 by omega), if_neg hn0, if_neg hn1, if_neg (show ¬ n + 1 = 0 by omega), if_neg (show ¬ n + 1 = 1 by omega)]
        have e1 : gi l (n - 1) - gi l (n - 2) + (gi l n - gi l (n - 1) - (gi l (n - 1) - gi l (n - 2))) = gi l n - gi l (n - 1) := by omega
        rw [e1, wrap_id (n := gi l n - gi l (n - 1)) (by omega) (by omega)]
        have e2 : gi l (n - 1) + (gi l n - gi l (n - 1)) = gi l n := by omega
        rw [e2, wrap_id (by omega) (by omega), htake]
        have e3 : n + 1 - 1 = n := by omega
        have e4 : n + 1 - 2 = n - 1 := by omega
        rw [e3, e4]

theorem beganB_iff (s t : List UInt8) : beganB s t = true ↔ t ≠ [] ∧ ∃ r, s = t ++ r := by
  unfold beganB
  rw [Bool.and_eq_true, decide_eq_true_iff, decide_eq_true_iff]
  constructor
  · rintro ⟨h, h1, h2⟩
    exact ⟨h, s.drop t.length, by conv => lhs; rw [← List.take_append_drop t.length s, h2]⟩
  · rintro ⟨h, r, rfl⟩
    exact ⟨h, by simp, by simp⟩
theorem showTimes_ne {l : List Int} (h : showTimes l ≠ []) : tokN l l.length = true ∧ 1 ≤ l.length ∧ l.length ≤ 60 ∧ showTimes l = traw l l.length := by
  unfold showTimes at h ⊢
  split at h
  · rename_i hc; rw [if_pos hc]; exact ⟨hc.1, hc.2.1, hc.2.2, rfl⟩
  · exact absurd rfl h
/-- Just what begins a text as times are shown is read. -/
theorem readTimes_of {s : List UInt8} {l : List Int} {r : List UInt8} (h : showTimes l ≠ []) (hs : s = showTimes l ++ r) : readTimes s l.length = (l, (showTimes l).length) := by
  obtain ⟨h1, h2, h3, h4⟩ := showTimes_ne h
  have e := tread_show h1 r l.length r (Nat.le_refl _) rfl
  unfold readTimes
  rw [if_pos (by omega), Int.toNat_natCast]
  have hs' : s = traw l l.length ++ r := by rw [hs, h4]
  rw [hs', e]
  simp only [List.take_length]
  rw [if_pos ⟨trivial, (beganB_iff _ _).2 ⟨h, r, by rw [h4]⟩⟩]
theorem readTimes_some {s : List UInt8} {n : Int} {l : List Int} {k : Nat} (h : readTimes s n = (l, k)) (h0 : 0 < k) : (l.length : Int) = n ∧ showTimes l ≠ [] ∧ k = (showTimes l).length ∧ ∃ r, s = showTimes l ++ r := by
  unfold readTimes at h
  split at h
  · rename_i hn
    split at h
    · rename_i hc
      simp only [Prod.mk.injEq] at h
      obtain ⟨rfl, rfl⟩ := h
      obtain ⟨h1, h2⟩ := (beganB_iff _ _).1 hc.2
      exact ⟨by rw [tread_len]; omega, h1, rfl, h2⟩
    · simp at h; omega
  · simp at h; omega
theorem readTimes_zero {s : List UInt8} {n : Int} (h : (readTimes s n).2 = 0) : readTimes s n = ([], 0) := by
  unfold readTimes at h ⊢
  split at h
  · rename_i hn
    rw [if_pos hn]
    split at h
    · rename_i hc
      obtain ⟨h1, h2⟩ := (beganB_iff _ _).1 hc.2
      exact absurd (List.length_eq_zero_iff.1 h) h1
    · rename_i hc; rw [if_neg hc]
  · rename_i hn; rw [if_neg hn]

/-! ### Values, read -/
theorem vok1_iff (l : List Int) (i : Nat) : vok1 l i = true ↔ -maxTime ≤ gi l i ∧ gi l i ≤ maxTime := by
  unfold vok1
  rw [decide_eq_true_iff]
theorem vread_show {l : List Int} (hl : vokN l l.length = true) (r : List UInt8) : ∀ (n : Nat) (w : List UInt8), n ≤ l.length → vraw l l.length ++ r = vraw l n ++ w →
    (vread (vraw l l.length ++ r) n) = ⟨w, true, if n = 0 then 0 else gi l (n - 1), l.take n⟩
  | 0, w, _, hw => by
    simp only [vraw, List.nil_append] at hw
    simp [vread, hw]
  | n + 1, w, hn, hw => by
    have hw' : vraw l l.length ++ r = vraw l n ++ (vpiece l n ++ w) := by rw [hw, vraw, List.append_assoc]
    have ih := vread_show hl r n (vpiece l n ++ w) (by omega) hw'
    have h0 := (vok1_iff l n).1 (vokN_at l hl (by omega))
    have hmx : maxTime = 1099511627776 := rfl
    have htake : l.take (n + 1) = l.take n ++ [gi l n] := by
      rw [gi_get (by omega : n < l.length), List.take_succ_eq_append_getElem (by omega)]
    have hp : ∃ p : Int, p = (if n = 0 then 0 else gi l (n - 1)) ∧ -maxTime ≤ p ∧ p ≤ maxTime := by
      refine ⟨_, rfl, ?_⟩
      by_cases hn0 : n = 0
      · rw [if_pos hn0]; unfold maxTime; omega
      · rw [if_neg hn0]
        exact (vok1_iff l (n - 1)).1 (vokN_at l hl (by omega))
    obtain ⟨p, hp, hp1, hp2⟩ := hp
    have hz : -maxZig ≤ gi l n - p ∧ gi l n - p ≤ maxZig := by unfold maxZig; omega
    have e := rzag_zig hz w
    rw [vread, ih]
    unfold vstep
    simp only [vpiece, ← hp, e]
    have e1 : p + (gi l n - p) = gi l n := by omega
    rw [e1, wrap_id (by omega) (by omega), htake]
    have e3 : n + 1 - 1 = n := by omega
    simp only [e3, if_neg (show ¬ n + 1 = 0 by omega)]
theorem showValues_ne {l : List Int} (h : showValues l ≠ []) : vokN l l.length = true ∧ 1 ≤ l.length ∧ l.length ≤ 60 ∧ showValues l = vraw l l.length := by
  unfold showValues at h ⊢
  split at h
  · rename_i hc; rw [if_pos hc]; exact ⟨hc.1, hc.2.1, hc.2.2, rfl⟩
  · exact absurd rfl h
theorem readValues_of {s : List UInt8} {l : List Int} {r : List UInt8} (h : showValues l ≠ []) (hs : s = showValues l ++ r) : readValues s l.length = (l, (showValues l).length) := by
  obtain ⟨h1, h2, h3, h4⟩ := showValues_ne h
  have e := vread_show h1 r l.length r (Nat.le_refl _) rfl
  unfold readValues
  rw [if_pos (by omega), Int.toNat_natCast]
  have hs' : s = vraw l l.length ++ r := by rw [hs, h4]
  rw [hs', e]
  simp only [List.take_length]
  rw [if_pos ⟨trivial, (beganB_iff _ _).2 ⟨h, r, by rw [h4]⟩⟩]
theorem readValues_some {s : List UInt8} {n : Int} {l : List Int} {k : Nat} (h : readValues s n = (l, k)) (h0 : 0 < k) : (l.length : Int) = n ∧ showValues l ≠ [] ∧ k = (showValues l).length ∧ ∃ r, s = showValues l ++ r := by
  unfold readValues at h
  split at h
  · rename_i hn
    split at h
    · rename_i hc
      simp only [Prod.mk.injEq] at h
      obtain ⟨rfl, rfl⟩ := h
      obtain ⟨h1, h2⟩ := (beganB_iff _ _).1 hc.2
      exact ⟨by rw [vread_len]; omega, h1, rfl, h2⟩
    · simp at h; omega
  · simp at h; omega
theorem readValues_zero {s : List UInt8} {n : Int} (h : (readValues s n).2 = 0) : readValues s n = ([], 0) := by
  unfold readValues at h ⊢
  split at h
  · rename_i hn
    rw [if_pos hn]
    split at h
    · rename_i hc
      obtain ⟨h1, h2⟩ := (beganB_iff _ _).1 hc.2
      exact absurd (List.length_eq_zero_iff.1 h) h1
    · rename_i hc; rw [if_neg hc]
  · rename_i hn; rw [if_neg hn]

/-! ### Several numbers in a row -/
def varsAt (s : List UInt8) (a : Nat) : Nat → Option (List Int × Nat)
  | 0 => some ([], a)
  | n + 1 => match varsAt s a n with
    | none => none
    | some (l, p) => if p ≤ s.length ∧ 0 < (readVar (s.drop p)).2 then some (l ++ [((readVar (s.drop p)).1 : Int)], p + (readVar (s.drop p)).2) else none
theorem varsAt_len (s : List UInt8) (a : Nat) : ∀ (n : Nat) (l : List Int) (p : Nat), varsAt s a n = some (l, p) → l.length = n ∧ a ≤ p ∧ (a ≤ s.length → p ≤ s.length)
  | 0, l, p, h => by
    simp only [varsAt, Option.some.injEq, Prod.mk.injEq] at h
    obtain ⟨rfl, rfl⟩ := h
    simp
  | n + 1, l, p, h => by
    simp only [varsAt] at h
    cases hq : varsAt s a n with
    | none => rw [hq] at h; cases h
    | some x =>
      obtain ⟨l', p'⟩ := x
      rw [hq] at h
      simp only at h
      split at h
      · rename_i hc
        simp only [Option.some.injEq, Prod.mk.injEq] at h
        obtain ⟨rfl, rfl⟩ := h
        have ih := varsAt_len s a n l' p' hq
        have hb := (readVar_bound (s.drop p')).2.2
        rw [List.length_drop] at hb
        exact ⟨by simp [ih.1], by omega, fun _ => by omega⟩
      · cases h
theorem varsAt_rng (s : List UInt8) (a : Nat) : ∀ (n : Nat) (l : List Int) (p : Nat), varsAt s a n = some (l, p) → ∀ x ∈ l, 0 ≤ x ∧ x ≤ maxVar
  | 0, l, p, h => by
    simp only [varsAt, Option.some.injEq, Prod.mk.injEq] at h
    obtain ⟨rfl, rfl⟩ := h
    simp
  | n + 1, l, p, h => by
    simp only [varsAt] at h
    cases hq : varsAt s a n with
    | none => rw [hq] at h; cases h
    | some x =>
      obtain ⟨l', p'⟩ := x
      rw [hq] at h
      simp only at h
      split at h
      · simp only [Option.some.injEq, Prod.mk.injEq] at h
        obtain ⟨rfl, rfl⟩ := h
        intro x hx
        rcases List.mem_append.1 hx with hx | hx
        · exact varsAt_rng s a n l' p' hq x hx
        · rw [List.mem_singleton.1 hx]
          exact ⟨by omega, (readVar_bound _).1⟩
      · cases h
theorem varsAt_none (s : List UInt8) (a : Nat) : ∀ (n m : Nat), n ≤ m → varsAt s a n = none → varsAt s a m = none
  | n, 0, h, hn => by
    obtain rfl : n = 0 := by omega
    exact hn
  | n, m + 1, h, hn => by
    by_cases hm : n = m + 1
    · subst hm; exact hn
    · have := varsAt_none s a n m (by omega) hn
      simp only [varsAt, this]

/-- Numbers shown one behind the other. -/
def rawOf (f : Nat → Int) : Nat → List UInt8
  | 0 => []
  | n + 1 => rawOf f n ++ var (f n)
theorem rawOf_split (f : Nat → Int) : ∀ (N n : Nat), n < N → ∃ w, rawOf f N = rawOf f n ++ (var (f n) ++ w)
  | 0, n, h => by omega
  | N + 1, n, h => by
    by_cases hn : n = N
    · subst hn; exact ⟨[], by simp [rawOf]⟩
    · obtain ⟨w, hw⟩ := rawOf_split f N n (by omega)
      exact ⟨w ++ var (f N), by simp [rawOf, hw]⟩
theorem varsAt_raw {f : Nat → Int} {N : Nat} (hf : ∀ i, i < N → 0 ≤ f i ∧ f i ≤ maxVar) (r : List UInt8) : ∀ n, n ≤ N → varsAt (rawOf f N ++ r) 0 n = some ((List.range n).map f, (rawOf f n).length)
  | 0, _ => rfl
  | n + 1, h => by
    have ih := varsAt_raw hf r n (by omega)
    obtain ⟨w, hw⟩ := rawOf_split f N n (by omega)
    simp only [varsAt, ih]
    have e : (rawOf f N ++ r).drop (rawOf f n).length = var (f n) ++ (w ++ r) := by rw [hw]; simp
    have hr := readVar_var (hf n (by omega)) (w ++ r)
    have hl : 0 < (var (f n)).length := List.length_pos_iff.2 fun hh => absurd (hf n (by omega)) ((var_nil _).1 hh)
    rw [e, hr, if_pos ⟨by rw [hw]; simp, hl⟩]
    have e2 : (((f n).toNat : Nat) : Int) = f n := Int.toNat_of_nonneg (hf n (by omega)).1
    simp [rawOf, List.range_succ, e2]
/-- The numbers that times are shown by. -/
def tv (l : List Int) (i : Nat) : Int := if i = 0 then gi l 0 else if i = 1 then gi l 1 - gi l 0 else zigZag (gi l i - gi l (i - 1) - (gi l (i - 1) - gi l (i - 2)))
def vv (l : List Int) (i : Nat) : Int := zigZag (gi l i - (if i = 0 then 0 else gi l (i - 1)))
theorem traw_raw (l : List Int) : ∀ n, traw l n = rawOf (tv l) n
  | 0 => rfl
  | n + 1 => by
    rw [traw, rawOf, traw_raw l n, tpiece, tv]
    repeat' split
    all_goals rfl
theorem vraw_raw (l : List Int) : ∀ n, vraw l n = rawOf (vv l) n
  | 0 => rfl
  | n + 1 => by rw [vraw, rawOf, vraw_raw l n]; rfl
theorem tv_rng {l : List Int} (hl : tokN l l.length = true) {i : Nat} (hi : i < l.length) : 0 ≤ tv l i ∧ tv l i ≤ maxVar := by
  have h0 := (tok1_iff l i).1 (tokN_at l hl hi)
  have hmx : maxTime = 1099511627776 := rfl
  have hmv : maxVar = 562949953421311 := rfl
  unfold tv
  by_cases hi0 : i = 0
  · subst hi0; rw [if_pos rfl]; omega
  · by_cases hi1 : i = 1
    · subst hi1
      have h1 := (tok1_iff l 0).1 (tokN_at l hl (by omega))
      have h2 : gi l 0 < gi l 1 := h0.2 (by omega)
      rw [if_neg hi0, if_pos rfl]; omega
    · have h1 := (tok1_iff l (i - 1)).1 (tokN_at l hl (by omega))
      have h2 := (tok1_iff l (i - 2)).1 (tokN_at l hl (by omega))
      rw [if_neg hi0, if_neg hi1]
      exact zigZag_ok (by unfold maxZig; omega)
theorem vv_rng {l : List Int} (hl : vokN l l.length = true) {i : Nat} (hi : i < l.length) : 0 ≤ vv l i ∧ vv l i ≤ maxVar := by
  have h0 := (vok1_iff l i).1 (vokN_at l hl hi)
  have hmx : maxTime = 1099511627776 := rfl
  unfold vv
  refine zigZag_ok ?_
  by_cases hi0 : i = 0
  · subst hi0; rw [if_pos rfl]; unfold maxZig; omega
  · have h1 := (vok1_iff l (i - 1)).1 (vokN_at l hl (by omega))
    rw [if_neg hi0]; unfold maxZig; omega
theorem varsAt_times {s : List UInt8} {l : List Int} {r : List UInt8} (h : showTimes l ≠ []) (hs : s = showTimes l ++ r) : varsAt s 0 l.length = some ((List.range l.length).map (tv l), (showTimes l).length) := by
  obtain ⟨h1, h2, h3, h4⟩ := showTimes_ne h
  rw [hs, h4, traw_raw]
  exact varsAt_raw (fun i hi => tv_rng h1 hi) r _ (Nat.le_refl _)
theorem varsAt_values {s : List UInt8} {l : List Int} {r : List UInt8} (h : showValues l ≠ []) (hs : s = showValues l ++ r) : varsAt s 0 l.length = some ((List.range l.length).map (vv l), (showValues l).length) := by
  obtain ⟨h1, h2, h3, h4⟩ := showValues_ne h
  rw [hs, h4, vraw_raw]
  exact varsAt_raw (fun i hi => vv_rng h1 hi) r _ (Nat.le_refl _)
theorem readTimes_no {s : List UInt8} {n : Int} (h : ∀ l r, (l.length : Int) = n → showTimes l ≠ [] → s = showTimes l ++ r → False) : readTimes s n = ([], 0) := by
  by_cases hz : (readTimes s n).2 = 0
  · exact readTimes_zero hz
  · obtain ⟨h1, h2, h3, r, h4⟩ := readTimes_some (s := s) (n := n) (l := (readTimes s n).1) (k := (readTimes s n).2) rfl (by omega)
    exact (h _ r h1 h2 h4).elim
theorem readValues_no {s : List UInt8} {n : Int} (h : ∀ l r, (l.length : Int) = n → showValues l ≠ [] → s = showValues l ++ r → False) : readValues s n = ([], 0) := by
  by_cases hz : (readValues s n).2 = 0
  · exact readValues_zero hz
  · obtain ⟨h1, h2, h3, r, h4⟩ := readValues_some (s := s) (n := n) (l := (readValues s n).1) (k := (readValues s n).2) rfl (by omega)
    exact (h _ r h1 h2 h4).elim
theorem gi_map_range (f : Nat → Int) {n i : Nat} (h : i < n) : gi ((List.range n).map f) i = f i := by
  simp [gi, h]
theorem take_succ_gi {l : List Int} {i : Nat} (h : i < l.length) : l.take (i + 1) = l.take i ++ [gi l i] := by
  rw [gi_get h, List.take_succ_eq_append_getElem h]
theorem varsAt_pos (s : List UInt8) (a : Nat) : ∀ (n : Nat) (l : List Int) (p : Nat), varsAt s a n = some (l, p) → a + n ≤ p
  | 0, l, p, h => by
    simp only [varsAt, Option.some.injEq, Prod.mk.injEq] at h
    omega
  | n + 1, l, p, h => by
    simp only [varsAt] at h
    cases hq : varsAt s a n with
    | none => rw [hq] at h; cases h
    | some x =>
      obtain ⟨l', p'⟩ := x
      rw [hq] at h
      simp only at h
      split at h
      · simp only [Option.some.injEq, Prod.mk.injEq] at h
        have := varsAt_pos s a n l' p' hq
        omega
      · cases h
theorem readTimes_le (s : List UInt8) (n : Int) : (readTimes s n).1.length ≤ 60 := by
  unfold readTimes
  split
  · split
    · simp only [tread_len]; omega
    · simp
  · simp
end Go.Abs

