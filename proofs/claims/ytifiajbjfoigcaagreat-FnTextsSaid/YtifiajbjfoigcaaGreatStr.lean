/-
  TEXTS, AND WHAT IS STILL TO BE SHOWN: the conditions of operations come out as a row of propositions.
-/
import Derived.Test.YtifiajbjfoigcaaGreatOwn
namespace Go.Abs
open Go
set_option linter.unusedSimpArgs false

/-- A text, by its bytes. -/
def S (l : List UInt8) : Value := .string ⟨l.toArray⟩
theorem S_of (b : ByteArray) : Value.string b = S b.data.toList := by cases b; rfl
@[simp] theorem isStrV_S (l : List UInt8) : isStrV (S l) = true := rfl
@[simp] theorem isIntV_S (l : List UInt8) : isIntV (S l) = false := rfl
theorem S_inj {a b : List UInt8} (h : S a = S b) : a = b := by
  unfold S at h
  injection h with h
  injection h with h
  simpa using h

section
variable {P : Program} {T : Table}
@[simp] theorem ev_S (s : St) (b : ByteArray) : s.ev (.const (.string b)) = S b.data.toList := S_of b
@[simp] theorem empty_S : Value.string ByteArray.empty = S [] := id rfl
@[simp] theorem cells_S (l : List UInt8) : (S l).cells = #[S l] := id rfl
@[simp] theorem isLoc_S (l : List UInt8) : isLoc (S l) = false := id rfl
@[simp] theorem storable_S (l : List UInt8) : storable (S l) = true := id rfl
@[simp] theorem flat0_S (l : List UInt8) : flat0 (S l) = true := id rfl
@[simp] theorem flat1_S (l : List UInt8) : flat1 (S l) = true := id rfl
@[simp] theorem flatB_S (l : List UInt8) : flatB (S l) = true := id rfl
theorem len_S (t : TypeId) (l : List UInt8) : len P t (S l) = match P.underlying t with | some .string => some (.int .i64 l.length) | _ => none := by
  unfold len S
  cases P.underlying t with
  | none => rfl
  | some d => cases d <;> rfl
@[simp] theorem len_S' (t : TypeId) (l : List UInt8) (h : P.underlying t = some .string) : len P t (S l) = some (.int .i64 l.length) := by rw [len_S, h]
@[simp] theorem bin_add_S (t : TypeId) (a b : List UInt8) : bin P .add t (S a) (S b) = if a.length + b.length ≤ 2 ^ 62 then some (S (a ++ b)) else none := by
  show (if (ByteArray.mk a.toArray).size + (ByteArray.mk b.toArray).size ≤ 2 ^ 62 then some (Value.string (⟨a.toArray⟩ ++ ⟨b.toArray⟩)) else none) = _
  have h1 : (ByteArray.mk a.toArray).size = a.length := by simp [ByteArray.size]
  have h2 : (ByteArray.mk b.toArray).size = b.length := by simp [ByteArray.size]
  rw [h1, h2]
  split
  · exact congrArg some (by rw [S_of]; simp [ByteArray.data_append])
  · rfl
theorem mkb_inj (a b : List UInt8) : (ByteArray.mk a.toArray = ByteArray.mk b.toArray) ↔ a = b := by
  constructor
  · intro h; injection h with h; simpa using h
  · rintro rfl; rfl
@[simp] theorem bin_eql_S (t : TypeId) (a b : List UInt8) : bin P .eql t (S a) (S b) = some (.bool (decide (a = b))) := by
  show some (Value.bool (decide (ByteArray.mk a.toArray = ByteArray.mk b.toArray))) = _
  simp only [mkb_inj]
@[simp] theorem bin_neq_S (t : TypeId) (a b : List UInt8) : bin P .neq t (S a) (S b) = some (.bool (decide (a ≠ b))) := by
  show some (Value.bool (decide (ByteArray.mk a.toArray ≠ ByteArray.mk b.toArray))) = _
  simp only [ne_eq, mkb_inj]
theorem toList_mk (l : List UInt8) : (ByteArray.mk l.toArray).toList = l := by
  rw [ByteArray.toList_eq]
@[simp] theorem bin_lss_S (t : TypeId) (a b : List UInt8) : bin P .lss t (S a) (S b) = some (.bool (Op.bytesLess a b)) := by
  show some (Value.bool (Op.bytesLess (ByteArray.mk a.toArray).toList (ByteArray.mk b.toArray).toList)) = _
  rw [toList_mk, toList_mk]
@[simp] theorem bin_gtr_S (t : TypeId) (a b : List UInt8) : bin P .gtr t (S a) (S b) = some (.bool !(Op.bytesLess a b || decide (a = b))) := by
  show some (Value.bool !(Op.bytesLess (ByteArray.mk a.toArray).toList (ByteArray.mk b.toArray).toList || decide (ByteArray.mk a.toArray = ByteArray.mk b.toArray))) = _
  rw [toList_mk, toList_mk]
  simp only [mkb_inj]
@[simp] theorem bin_geq_S (t : TypeId) (a b : List UInt8) : bin P .geq t (S a) (S b) = some (.bool !(Op.bytesLess a b)) := by
  show some (Value.bool !(Op.bytesLess (ByteArray.mk a.toArray).toList (ByteArray.mk b.toArray).toList)) = _
  rw [toList_mk, toList_mk]
@[simp] theorem bin_leq_S (t : TypeId) (a b : List UInt8) : bin P .leq t (S a) (S b) = some (.bool (Op.bytesLess a b || decide (a = b))) := by
  show some (Value.bool (Op.bytesLess (ByteArray.mk a.toArray).toList (ByteArray.mk b.toArray).toList || decide (ByteArray.mk a.toArray = ByteArray.mk b.toArray))) = _
  rw [toList_mk, toList_mk]
  simp only [mkb_inj]
@[simp] theorem index_S (t : TypeId) (l : List UInt8) (kd : IntKind) (i : Int) (h : P.underlying t = some .string) : index P t (S l) (.int kd i) = if 0 ≤ i ∧ i < l.length then some (.int .u8 (l[i.toNat]?.getD 0).toNat) else none := by
  unfold index S
  rw [h]
  simp only
  by_cases h0 : 0 ≤ i
  · by_cases h1 : i < l.length
    · rw [if_pos h0, if_pos ⟨h0, h1⟩]
      have h2 : i.toNat < l.length := by omega
      have : (ByteArray.mk l.toArray)[i.toNat]? = some l[i.toNat] := by
        have hs : i.toNat < (ByteArray.mk l.toArray).size := by simp [ByteArray.size]; omega
        rw [getElem?_pos (ByteArray.mk l.toArray) i.toNat hs]
        rfl
      rw [this, List.getElem?_eq_getElem h2]
      rfl
    · rw [if_pos h0, if_neg fun h => h1 h.2]
      have : (ByteArray.mk l.toArray)[i.toNat]? = none := by
        have hs : ¬ i.toNat < (ByteArray.mk l.toArray).size := by simp [ByteArray.size]; omega
        rw [getElem?_neg (ByteArray.mk l.toArray) i.toNat hs]
      rw [this]
      rfl
  · rw [if_neg h0, if_neg fun h => h0 h.1]
/-- A part of a text. -/
def sub (l : List UInt8) (a b : Nat) : List UInt8 := (l.take b).drop a
theorem sub_length_le (l : List UInt8) (a b : Nat) : (sub l a b).length ≤ l.length := by unfold sub; simp; omega
theorem slice_S (t : TypeId) (H : Heap) (l : List UInt8) (lo hi : Option Value) (h : P.underlying t = some .string) : slice P H t (S l) lo hi none =
    match bound 0 lo, bound l.length hi with
    | some a, some b => if a ≤ b ∧ b ≤ l.length then some (S (sub l a b)) else none
    | _, _ => none := by
  unfold slice S
  simp only
  have hs : (ByteArray.mk l.toArray).size = l.length := by simp [ByteArray.size]
  rw [hs, h]
  cases bound 0 lo with
  | none => rfl
  | some a => cases bound l.length hi with
    | none => rfl
    | some b =>
      simp only [isStrD, and_true]
      split
      · congr 1
        rw [S_of]
        congr 1
        rw [ByteArray.data_extract]
        simp [sub, List.drop_take]
      · rfl
@[simp] theorem slice_S_from (t : TypeId) (H : Heap) (l : List UInt8) (k : IntKind) (i : Int) (h : P.underlying t = some .string) : slice P H t (S l) (some (.int k i)) none none = if 0 ≤ i ∧ i ≤ l.length then some (S (l.drop i.toNat)) else none := by
  rw [slice_S t H l _ _ h]
  simp only [bound]
  by_cases h0 : 0 ≤ i
  · have : (i.toNat ≤ l.length) ↔ i ≤ l.length := by omega
    simp only [h0, if_true, true_and, Nat.le_refl, and_true, this, sub, List.take_length]
  · simp only [if_neg h0, h0, false_and, if_false]
@[simp] theorem slice_S_to (t : TypeId) (H : Heap) (l : List UInt8) (k : IntKind) (i : Int) (h : P.underlying t = some .string) : slice P H t (S l) none (some (.int k i)) none = if 0 ≤ i ∧ i ≤ l.length then some (S (l.take i.toNat)) else none := by
  rw [slice_S t H l _ _ h]
  simp only [bound]
  by_cases h0 : 0 ≤ i
  · have : (i.toNat ≤ l.length) ↔ i ≤ l.length := by omega
    simp only [h0, if_true, true_and, Nat.zero_le, this, sub, List.drop_zero]
  · simp only [if_neg h0, h0, false_and, if_false]
@[simp] theorem slice_S_both (t : TypeId) (H : Heap) (l : List UInt8) (k k' : IntKind) (i j : Int) (h : P.underlying t = some .string) : slice P H t (S l) (some (.int k i)) (some (.int k' j)) none = if 0 ≤ i ∧ i ≤ j ∧ j ≤ l.length then some (S (sub l i.toNat j.toNat)) else none := by
  rw [slice_S t H l _ _ h]
  simp only [bound]
  by_cases h0 : 0 ≤ i
  · by_cases h1 : 0 ≤ j
    · have : (i.toNat ≤ j.toNat ∧ j.toNat ≤ l.length) ↔ (i ≤ j ∧ j ≤ l.length) := by omega
      simp only [h0, h1, if_true, true_and, this]
    · simp only [h0, h1, if_true, if_false, true_and]
      rw [if_neg (by omega)]
  · simp only [if_neg h0, h0, false_and, if_false]

/-! ### A byte slice becomes a text -/
def byteV (b : UInt8) : Value := .int .u8 b.toNat
def encB (b : UInt8) : List Value := [byteV b]
theorem bytesOf_bytes : ∀ l : List UInt8, bytesOf ((l.map encB).flatten) = some l
  | [] => rfl
  | b :: r => by
    have ih := bytesOf_bytes r
    show (bytesOf ((r.map encB).flatten)).map (UInt8.ofNat (b.toNat : Int).toNat :: ·) = _
    rw [ih]
    simp
theorem convert_bytes {lo : Nat} {H : Heap} {a : Option Addr} {l : List UInt8} (ho : Ow lo 1 encB H a l) {t u e : TypeId} (ht : P.underlying t = some (.slice e)) (he : P.underlying e = some (.int .u8)) (hu : P.underlying u = some .string) {K : Heap} (hp : Pe H K) {m : Nat} (hm : l.length = m) (ev : Nat → Value) (loc : Nat → List Value) (g n c : Nat) :
    convert P (St.mk ev loc g K n) t u (.slice a m c) = some (S l, K) := by
  subst hm
  unfold convert
  rw [ht, hu]
  simp only [he, isU8D, if_true]
  rcases ho.pe (by decide) hp with ⟨rfl, rfl⟩ | ⟨b, rfl, hb, hes, hc, hr⟩
  · rfl
  · simp only
    by_cases h0 : l.length = 0
    · rw [if_pos h0]
      have : l = [] := List.length_eq_zero_iff.1 h0
      subst this
      rfl
    · rw [if_neg h0, if_pos hb, hc]
      have hl := flat_len (enc := encB) (es := 1) l fun _ _ => rfl
      rw [Nat.mul_one] at hl
      rw [window_whole _ _ hl]
      simp only [Option.bind_some, bytesOf_bytes]
      rfl
/-- A literal of bytes becomes a text. -/
def byteOf : Value → UInt8 | .int .u8 n => UInt8.ofNat n.toNat | _ => 0
@[simp] theorem byteOf_int (n : Int) : byteOf (.int .u8 n) = UInt8.ofNat n.toNat := id rfl
def isB : Value → Bool | .int .u8 n => decide (0 ≤ n ∧ n < 256) | _ => false
@[simp] theorem isB_int (n : Int) : isB (.int .u8 n) = decide (0 ≤ n ∧ n < 256) := id rfl
theorem bytes_of : ∀ cells : List Value, cells.all isB = true → cells = ((cells.map byteOf).map encB).flatten
  | [], _ => rfl
  | v :: r, h => by
    rw [List.all_cons, Bool.and_eq_true] at h
    have ih := bytes_of r h.2
    cases v with
    | int k n =>
      cases k <;> first | cases h.1 | skip
      have hn := of_decide_eq_true h.1
      simp only [List.map_cons, List.flatten_cons]
      rw [← ih]
      simp only [byteOf, encB, byteV, UInt8.toNat_ofNat', List.cons_append, List.nil_append]
      congr 2
      omega
    | _ => cases h.1
@[simp] theorem convert_lit {t u e : TypeId} (ht : P.underlying t = some (.slice e)) (he : P.underlying e = some (.int .u8)) (hu : P.underlying u = some .string) (ev : Nat → Value) (loc : Nat → List Value) (g n : Nat) (L : Heap) (cells : List Value) (m c : Nat) (hm : cells.length = m) (ha : cells.all isB = true) {b : Nat} (hbs : b = L.size) :
    convert P (St.mk ev loc g (L.push cells 1) n) t u (.slice (some ⟨b, 0, none⟩) m c) = some (S (cells.map byteOf), L.push cells 1) :=
  hbs ▸ convert_bytes (lo := 0) (Ow.new (Nat.zero_le _) (cells.map byteOf) (bytes_of cells ha)) ht he hu (Pe_refl _ ▸ trivial) (by simpa using hm) ev loc g n c
@[simp] theorem encB_len (b : UInt8) : (encB b).length = 1 := rfl

/-! ### Conditions come out -/
@[simp] theorem val_if (s : St) (d : Option Tmp) (c : Prop) [Decidable c] (x : Option Value) : val s d (if c then x else none) = if c then val s d x else none := by split <;> rfl
@[simp] theorem valH_if (s : St) (d : Option Tmp) (c : Prop) [Decidable c] (x : Option (Value × Heap)) : valH s d (if c then x else none) = if c then valH s d x else none := by split <;> rfl
@[simp] theorem eDone_if (s : St) (d : Option Tmp) (c : Prop) [Decidable c] (x : Option OpR) : eDone P T s d (if c then x else none) = if c then eDone P T s d x else none := by split <;> rfl
@[simp] theorem stored_if (s : St) (d : Option Tmp) (c : Prop) [Decidable c] (x : Option St) : stored s d (if c then x else none) = if c then stored s d x else none := by split <;> rfl
@[simp] theorem bin_quo' (t : TypeId) (k : IntKind) (a b : Int) : bin P .quo t (.int k a) (.int k b) = if b ≠ 0 then some (.int k (k.wrap (a.tdiv b))) else none := by
  rw [bin_quo]
  by_cases h : b = 0 <;> simp [h]
@[simp] theorem bin_rem' (t : TypeId) (k : IntKind) (a b : Int) : bin P .rem t (.int k a) (.int k b) = if b ≠ 0 then some (.int k (a.tmod b)) else none := by
  rw [bin_rem]
  by_cases h : b = 0 <;> simp [h]
@[simp] theorem indexAddr_Sl {α : Type} {es : Nat} {enc : α → List Value} {H : Heap} {a : Option Addr} {l : List α} (h : Sl es enc H a l) {t : TypeId} {sz : Nat} {ag : Bool} {z : List Value} {e by_ : Nat} (hti : TI P t = some ⟨sz, ag, z, .slice e es by_⟩) (c : Nat) (kd : IntKind) (i : Int) :
    indexAddr P t (.slice a l.length c) (.int kd i) = if 0 ≤ i ∧ i < l.length then some (el a es i.toNat 0) else none := by
  split
  · rename_i hi; exact h.ix hti c kd i hi.1 hi.2
  · rename_i hi
    unfold indexAddr
    rw [hti]
    rcases h.2 with ⟨rfl, rfl⟩ | ⟨b, off, rfl, _⟩
    · rfl
    · simp only [if_neg hi]
end
end Go.Abs
namespace Go.Abs
open Go
/-- One element behind a slice that was made: the element stands in the newest block. -/
theorem append_one {α : Type} {P : Program} {t tx : TypeId} {sz : Nat} {ag : Bool} {z : List Value} {e_ by_ es : Nat} (hti : TI P t = some ⟨sz, ag, z, .slice e_ es by_⟩) {lo : Nat} {enc : α → List Value} {H : Heap} {a : Option Addr} {l : List α} (ho : Ow lo es enc H a l)
    (hl : ∀ x ∈ l, (enc x).length = es) (hs : l.length < 2 ^ 36) (hby : by_ + es + 1 ≤ 200 ∧ 0 < es) {u : TypeId} (hu : P.underlying tx = some (.slice u)) (e : Nat → Value) (loc : Nat → List Value) (g n : Nat) (L : Heap) (cells : List Value) (hp : Pe H (L.push cells es)) (hc : cells.length = es) {b : Nat} (hbs : b = L.size) :
    append P (St.mk e loc g (L.push cells es) n) t tx (.slice a l.length 0) (.slice (some ⟨b, 0, none⟩) 1 0) = some (.slice (some ⟨L.size + 1, 0, none⟩) (l.length + 1) 0, apH (L.push cells es) a l.length es cells) := by
  subst hbs
  refine append_Ow hti ho hl hby.2 hp (by rw [hu]; rfl) (m := 1) ?_ (by decide) ?_
  · unfold newsOf
    show (if 1 = 0 then _ else if L.size < (L.push cells es).size then Option.map (fun l => (1, l)) (window ((L.push cells es).blk L.size).cells 0 (1 * es)) else none) = _
    rw [if_neg (by decide), if_pos (by simp), push_new, Nat.one_mul, window_whole _ _ hc]
    rfl
  · have h1 : (l.length + 1) * (by_ + es + 1) ≤ 2 ^ 36 * 200 := Nat.mul_le_mul hs hby.1
    exact Nat.le_trans h1 (by decide)
theorem apH_blk {α : Type} {lo es : Nat} {enc : α → List Value} {K : Heap} {a : Option Addr} {l : List α} (ho : Ow lo es enc K a l) (len es' : Nat) (news : List Value) {i : Nat} (hi : i < K.size) (hr : (K.blk i).root < lo) : (apH K a len es' news).blk i = K.blk i := by
  rcases ho with ⟨rfl, _⟩ | ⟨b, rfl, hb, hes, hc, hr'⟩
  · exact push_old hi _ _
  · exact grow_old hi (by omega) _ _ _ _
def encI (x : Int) : List Value := [.int .i64 x]
@[simp] theorem encI_len (b : Int) : (encI b).length = 1 := rfl
def encS (x : List UInt8) : List Value := [S x]
@[simp] theorem encS_len (b : List UInt8) : (encS b).length = 1 := rfl
attribute [simp] buildSlice inOrder
/-- A slice of numbers, of texts, as a literal lays it. -/
def isI : Value → Bool | .int .i64 _ => true | _ => false
@[simp] theorem isI_int (n : Int) : isI (.int .i64 n) = true := id rfl
def intOf' : Value → Int | .int _ n => n | _ => 0
def isS : Value → Bool | .string _ => true | _ => false
@[simp] theorem isS_S (l : List UInt8) : isS (S l) = true := id rfl
def strOf' : Value → List UInt8 | .string b => b.data.toList | _ => []
theorem ints_of : ∀ cells : List Value, cells.all isI = true → cells = ((cells.map intOf').map encI).flatten
  | [], _ => rfl
  | v :: r, h => by
    rw [List.all_cons, Bool.and_eq_true] at h
    have ih := ints_of r h.2
    cases v with
    | int k n =>
      cases k <;> first | cases h.1 | skip
      simp only [List.map_cons, List.flatten_cons]
      rw [← ih]
      rfl
    | _ => cases h.1
theorem strs_of : ∀ cells : List Value, cells.all isS = true → cells = ((cells.map strOf').map encS).flatten
  | [], _ => rfl
  | v :: r, h => by
    rw [List.all_cons, Bool.and_eq_true] at h
    have ih := strs_of r h.2
    cases v with
    | string b =>
      simp only [List.map_cons, List.flatten_cons]
      rw [← ih, S_of]
      rfl
    | _ => cases h.1
/-! ### Structs held against each other -/
section
variable {P : Program}
@[simp] theorem bin_eql_agg (t : TypeId) (xs ys : Array Value) (hg : P.eqGuardType P.depth t = false) : bin P .eql t (.agg xs) (.agg ys) = (eqIn P 6 t (.agg xs) (.agg ys)).map .bool := by
  have h : eqNil P t (.agg xs) (.agg ys) = none := by
    unfold eqNil
    cases P.underlying t with
    | none => rfl
    | some d => cases d <;> rfl
  show (match eqNil P t (.agg xs) (.agg ys) with | some r => _ | none => _) = _
  rw [h]
  simp only [hg, Bool.false_eq_true, if_false]
  rfl
@[simp] theorem bin_neq_agg (t : TypeId) (xs ys : Array Value) (hg : P.eqGuardType P.depth t = false) : bin P .neq t (.agg xs) (.agg ys) = (eqIn P 6 t (.agg xs) (.agg ys)).map fun r => .bool !r := by
  have h : eqNil P t (.agg xs) (.agg ys) = none := by
    unfold eqNil
    cases P.underlying t with
    | none => rfl
    | some d => cases d <;> rfl
  show (match eqNil P t (.agg xs) (.agg ys) with | some r => _ | none => _) = _
  rw [h]
  simp only [hg, Bool.false_eq_true, if_false]
  rfl
@[simp] theorem eqIn_agg' {t : TypeId} {l : List (TypeId × Nat)} (h : eqShape P t = some l) (d : Nat) (xs ys : Array Value) : eqIn P (d + 1) t (.agg xs) (.agg ys) = eqFlds P d xs.toList ys.toList l := eqIn_agg h d xs ys
@[simp] theorem eqIn_int {t : TypeId} {kd k : IntKind} (h : P.underlying t = some (.int kd)) (d : Nat) (a b : Int) : eqIn P (d + 1) t (.int k a) (.int k b) = some (decide (a = b)) := by
  unfold eqIn
  simp [h]
@[simp] theorem eqIn_bool {t : TypeId} (h : P.underlying t = some .bool) (d : Nat) (a b : Bool) : eqIn P (d + 1) t (.bool a) (.bool b) = some (decide (a = b)) := by
  unfold eqIn
  simp [h]
@[simp] theorem eqIn_S {t : TypeId} (h : P.underlying t = some .string) (d : Nat) (a b : List UInt8) : eqIn P (d + 1) t (S a) (S b) = some (decide (a = b)) := by
  unfold S eqIn
  simp only [h, mkb_inj]
attribute [simp] eqFlds
end
end Go.Abs
