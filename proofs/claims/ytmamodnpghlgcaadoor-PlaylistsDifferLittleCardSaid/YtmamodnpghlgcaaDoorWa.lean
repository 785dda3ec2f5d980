/- Own texts that this proof leans on, part 1: Sx1, Sx2, Sx3, Sx4, Sx5, Sx6, Sx7, Sx8, Sx9, Sx10, SxE, Sx11, Sx12, Sx13, Sx14, Sx15, Sx16. -/
import Derived.WalkKit
import Derived.RowKit3
import Derived.Below
import Derived.OwnWalk
import Derived.WideLaws
import Derived.Laws.Cover3
import Derived.Deep.MidRow
import Derived.OrdersIn
import Derived.RangeFuncSeq
import Derived.Laws.MakeOwn
import Derived.Laws.OwnMore
import Derived.Orders
import Derived.Scope
import Derived.Laws.StructEq
import Derived.ChangeKeysEq
/- The states of the walks: what a state says of the slots and of memory: a plain vocabulary, no statement of the program. -/
namespace Go.Proofs.YtmamodnpghlgcaaDoor
open Go.RowKit

/-! ### What never turns again -/
structure Hp where
  cell : Nat → Nat → Option Value
  mp : Nat → Option (Array MapEntry)
  ob : Nat → Option Obj
def Hp.le (s t : Hp) : Prop := (∀ b o v, s.cell b o = some v → t.cell b o = some v) ∧ (∀ b m, s.mp b = some m → t.mp b = some m) ∧ (∀ b o, s.ob b = some o → t.ob b = some o)
theorem Hp.le_refl (s : Hp) : s.le s := ⟨fun _ _ _ h => h, fun _ _ h => h, fun _ _ h => h⟩
theorem Hp.le_trans {s t u : Hp} (h : s.le t) (k : t.le u) : s.le u := ⟨fun b o v x => k.1 b o v (h.1 b o v x), fun b m x => k.2.1 b m (h.2.1 b m x), fun b o x => k.2.2 b o (h.2.2 b o x)⟩
structure Hp.inw (s : Hp) (w : World) : Prop where
  cell : ∀ b o v, s.cell b o = some v → w.cell? ⟨b, o, none⟩ = some v
  mp : ∀ b m, s.mp b = some m → ∃ c, w.heap[b]? = some (.map m c)
  ob : ∀ b o, s.ob b = some o → w.heap[b]? = some o
/-- It knows something of block b. -/
def Hp.has (s : Hp) (b : Nat) : Prop := (∃ o v, s.cell b o = some v) ∨ (∃ m, s.mp b = some m) ∨ ∃ o, s.ob b = some o
theorem Hp.has_lt {s : Hp} {w : World} (h : s.inw w) {b : Nat} (hb : s.has b) : b < w.heap.size := by
  rcases hb with ⟨o, v, h1⟩ | ⟨m, h1⟩ | ⟨o, h1⟩
  · exact World.block_lt_of_cell? w _ (h.cell b o v h1)
  · obtain ⟨c, hc⟩ := h.mp b m h1
    exact (Array.getElem?_eq_some_iff.1 hc).1
  · exact (Array.getElem?_eq_some_iff.1 (h.ob b o h1)).1

structure Fact where
  p : Hp → Prop
  mono : ∀ s t, Hp.le s t → p s → p t
def Fact.tt : Fact := ⟨fun _ => True, fun _ _ _ _ => trivial⟩
def Fact.and (f g : Fact) : Fact := ⟨fun s => f.p s ∧ g.p s, fun s t h k => ⟨f.mono s t h k.1, g.mono s t h k.2⟩⟩
def Fact.lift (q : Prop) : Fact := ⟨fun _ => q, fun _ _ _ h => h⟩
/-- Cells that lie in a row. -/
def cellsF (b o : Nat) (cs : List Value) : Fact := ⟨fun s => ∀ j v, cs[j]? = some v → s.cell b (o + j) = some v, fun _ _ h k j v hv => h.1 _ _ _ (k j v hv)⟩
def mapF (b : Nat) (m : Array MapEntry) : Fact := ⟨fun s => s.mp b = some m, fun _ _ h k => h.2.1 _ _ k⟩
/-- A block that holds this object. -/
def obF (b : Nat) (o : Obj) : Fact := ⟨fun s => s.ob b = some o, fun _ _ h k => h.2.2 _ _ k⟩

/-! ### Values of a state -/
inductive Key where
  | l (n : Nat)
  | b (n : Nat)
  deriving DecidableEq

inductive SV where
  | v (x : Value)
  | own (k : Key) (off : Nat)
  | row (k : Key)
  | elt (k : Key) (off : Nat)
  | mp (k : Key)
  | clo (f : Fn) (cs : List SV)
  | agg (l : List SV)
  | tup (l : List SV)
  | any

structure Env where
  B : Key → Nat
  R : Key → Value

/-- The places where a function begins: those of its caller's names. -/
def Env.start : Env := ⟨fun k => match k with | .b n => n | .l _ => 0, fun _ => .bool false⟩
mutual
def SV.is (e : Env) : SV → Value → Prop
  | .v x, y => y = x
  | .own k o, y => y = .pointer (some ⟨e.B k, o, none⟩)
  | .row k, y => y = e.R k ∧ ∃ a n c, y = .slice a n c
  | .elt k o, y => ∃ n c, e.R k = .slice (some ⟨e.B k, 0, none⟩) n c ∧ y = .pointer (some ⟨e.B k, o, none⟩)
  | .mp k, y => y = .map (some (e.B k))
  | .clo f cs, y => ∃ ys : Array Value, y = .func f #[] ys ∧ SV.isL e cs ys.toList
  | .agg l, y => ∃ ys : Array Value, y = .agg ys ∧ SV.isL e l ys.toList
  | .tup l, y => ∃ ys : Array Value, y = .tuple ys ∧ SV.isL e l ys.toList
  | .any, _ => True
def SV.isL (e : Env) : List SV → List Value → Prop
  | [], ys => ys = []
  | x :: xs, ys => ∃ y ys', ys = y :: ys' ∧ SV.is e x y ∧ SV.isL e xs ys'
end

def SV.q (b : Bool) : SV := .v (.bool b)
theorem SV.q_true : SV.q true = .v (.bool true) := rfl
theorem SV.q_false : SV.q false = .v (.bool false) := rfl

theorem SV.isL_nil {e : Env} {ys : List Value} : SV.isL e [] ys ↔ ys = [] := by simp only [SV.isL]
theorem SV.isL_cons {e : Env} {x : SV} {xs : List SV} {y : Value} {ys : List Value} : SV.isL e (x :: xs) (y :: ys) ↔ x.is e y ∧ SV.isL e xs ys := by
  simp only [SV.isL]
  constructor
  · rintro ⟨y', ys', h, h1, h2⟩
    obtain ⟨rfl, rfl⟩ := List.cons.inj h
    exact ⟨h1, h2⟩
  · rintro ⟨h1, h2⟩
    exact ⟨y, ys, rfl, h1, h2⟩
theorem SV.isL_length {e : Env} : ∀ {xs : List SV} {ys : List Value}, SV.isL e xs ys → ys.length = xs.length
  | [], ys, h => by simp only [SV.isL] at h; simp [h]
  | x :: xs, ys, h => by
    simp only [SV.isL] at h
    obtain ⟨y, ys', rfl, _, h2⟩ := h
    simp [SV.isL_length h2]
theorem SV.isL_get {e : Env} : ∀ {xs : List SV} {ys : List Value}, SV.isL e xs ys → ∀ (i : Nat) (x : SV), xs[i]? = some x → ∃ y, ys[i]? = some y ∧ x.is e y
  | [], _, _, i, x, hx => by simp at hx
  | x :: xs, ys, h, i, z, hz => by
    simp only [SV.isL] at h
    obtain ⟨y, ys', rfl, h1, h2⟩ := h
    cases i with
    | zero => simp at hz; subst hz; exact ⟨y, rfl, h1⟩
    | succ i => simpa using SV.isL_get h2 i z (by simpa using hz)
theorem SV.isL_map {e : Env} : ∀ (l : List Value), SV.isL e (l.map .v) l
  | [] => by simp [SV.isL]
  | x :: l => by simp only [List.map_cons, SV.isL_cons]; exact ⟨by simp [SV.is], SV.isL_map l⟩
theorem SV.isL_map_eq {e : Env} : ∀ (l : List Value) {ys : List Value}, SV.isL e (l.map .v) ys → ys = l
  | [], ys, h => by simpa [SV.isL] using h
  | x :: l, ys, h => by
    simp only [List.map_cons, SV.isL] at h
    obtain ⟨y, ys', rfl, h1, h2⟩ := h
    simp only [SV.is] at h1
    rw [h1, SV.isL_map_eq l h2]
theorem SV.isL_append {e : Env} : ∀ {xs xs' : List SV} {ys ys' : List Value}, SV.isL e xs ys → SV.isL e xs' ys' → SV.isL e (xs ++ xs') (ys ++ ys')
  | [], xs', ys, ys', h, h' => by simp only [SV.isL] at h; subst h; simpa using h'
  | x :: xs, xs', ys, ys', h, h' => by
    simp only [SV.isL] at h
    obtain ⟨y, ys0, rfl, h1, h2⟩ := h
    simp only [List.cons_append, SV.isL_cons]
    exact ⟨h1, SV.isL_append h2 h'⟩
theorem SV.isL_take {e : Env} : ∀ (n : Nat) {xs : List SV} {ys : List Value}, SV.isL e xs ys → SV.isL e (xs.take n) (ys.take n)
  | 0, xs, ys, _ => by simp [SV.isL]
  | n + 1, [], ys, h => by simp only [SV.isL] at h; subst h; simp [SV.isL]
  | n + 1, x :: xs, ys, h => by
    simp only [SV.isL] at h
    obtain ⟨y, ys0, rfl, h1, h2⟩ := h
    simp only [List.take_succ_cons, SV.isL_cons]
    exact ⟨h1, SV.isL_take n h2⟩
theorem SV.isL_drop {e : Env} : ∀ (n : Nat) {xs : List SV} {ys : List Value}, SV.isL e xs ys → SV.isL e (xs.drop n) (ys.drop n)
  | 0, xs, ys, h => by simpa using h
  | n + 1, [], ys, h => by simp only [SV.isL] at h; subst h; simp [SV.isL]
  | n + 1, x :: xs, ys, h => by
    simp only [SV.isL] at h
    obtain ⟨y, ys0, rfl, h1, h2⟩ := h
    simpa using SV.isL_drop n h2

/-! ### Association lists -/
def fd {K A : Type} [DecidableEq K] : List (K × A) → K → Option A
  | [], _ => none
  | (k, a) :: l, i => if k = i then some a else fd l i
def up {K A : Type} [DecidableEq K] : List (K × A) → K → A → List (K × A)
  | [], i, x => [(i, x)]
  | (k, a) :: l, i, x => if k = i then (k, x) :: l else (k, a) :: up l i x
/-- Without a key. -/
def rm {K A : Type} [DecidableEq K] : List (K × A) → K → List (K × A)
  | [], _ => []
  | (k, a) :: l, i => if k = i then rm l i else (k, a) :: rm l i
section
variable {K A : Type} [DecidableEq K]
theorem fd_up (l : List (K × A)) (i j : K) (x : A) : fd (up l i x) j = if i = j then some x else fd l j := by
  induction l with
  | nil => simp [up, fd]
  | cons p l ih =>
    obtain ⟨k, a⟩ := p
    simp only [up]
    by_cases h : k = i
    · subst h
      rw [if_pos rfl]
      simp only [fd]
      by_cases h' : k = j <;> simp [h']
    · rw [if_neg h]
      simp only [fd, ih]
      by_cases h' : k = j
      · subst h'
        rw [if_pos rfl, if_neg (fun e => h e.symm), if_pos rfl]
      · rw [if_neg h', if_neg h']
theorem fd_up_same (l : List (K × A)) (i : K) (x : A) : fd (up l i x) i = some x := by rw [fd_up, if_pos rfl]
theorem fd_up_ne (l : List (K × A)) {i j : K} (x : A) (h : i ≠ j) : fd (up l i x) j = fd l j := by rw [fd_up, if_neg h]
theorem fd_rm (l : List (K × A)) (i j : K) : fd (rm l i) j = if i = j then none else fd l j := by
  induction l with
  | nil => simp [rm, fd]
  | cons p l ih =>
    obtain ⟨k, a⟩ := p
    simp only [rm]
    by_cases h : k = i
    · subst h
      rw [if_pos rfl, ih]
      simp only [fd]
      by_cases h' : k = j <;> simp [h']
    · rw [if_neg h]
      simp only [fd, ih]
      by_cases h' : k = j
      · subst h'
        rw [if_pos rfl, if_neg (fun e => h e.symm), if_pos rfl]
      · rw [if_neg h', if_neg h']
end

/-! ### Things in memory -/
inductive Thing where
  | box (cs : List SV) (t : TypeId)
  | row (t : TypeId) (size n : Nat) (xs : List Value)
  | mp (es : Array MapEntry) (c : Nat)

def Thing.holds (e : Env) (k : Key) (w : World) : Thing → Prop
  | .box cs t => ∃ ys : Array Value, w.heap[e.B k]? = some (.cells ys t (0, 0)) ∧ SV.isL e cs ys.toList
  | .row t size n xs => w.ownsRow 0 t size (e.R k) n xs ∧ ∀ g, (e.R k).ownBlock = some g → g = e.B k
  | .mp es c => w.heap[e.B k]? = some (.map es c)
/-- The block that it has, if it has one. -/
def Thing.blk (e : Env) (k : Key) : Thing → Option Nat
  | .box _ _ => some (e.B k)
  | .row _ _ _ _ => (e.R k).ownBlock
  | .mp _ _ => some (e.B k)
theorem Thing.blk_B {e : Env} {k : Key} {w : World} {t : Thing} (h : t.holds e k w) {g : Nat} (hg : t.blk e k = some g) : g = e.B k := by
  cases t with
  | box cs t => simpa [Thing.blk] using hg.symm
  | row t s n xs => exact h.2 g hg
  | mp es c => simpa [Thing.blk] using hg.symm
theorem Thing.blk_lt {e : Env} {k : Key} {w : World} {t : Thing} (h : t.holds e k w) {g : Nat} (hg : t.blk e k = some g) : g < w.heap.size := by
  cases t with
  | box cs t =>
    obtain ⟨ys, hy, _⟩ := h
    simp only [Thing.blk, Option.some.injEq] at hg
    subst hg
    exact (Array.getElem?_eq_some_iff.1 hy).1
  | row t s n xs => exact (h.1.lt g hg).2
  | mp es c =>
    simp only [Thing.blk, Option.some.injEq] at hg
    subst hg
    exact (Array.getElem?_eq_some_iff.1 h).1
/-- It holds on where its block stands. -/
theorem Thing.holds_block {e : Env} {k : Key} {w w' : World} {t : Thing} (h : t.holds e k w) (hb : ∀ g, t.blk e k = some g → w'.heap[g]? = w.heap[g]?) : t.holds e k w' := by
  cases t with
  | box cs t =>
    obtain ⟨ys, hy, hl⟩ := h
    exact ⟨ys, by rw [hb _ rfl]; exact hy, hl⟩
  | row t s n xs =>
    refine ⟨⟨h.1.1, ?_⟩, h.2⟩
    rcases h.1.2 with h2 | ⟨g, cap, cur, hv, hg, hh, r⟩
    · exact Or.inl h2
    · exact Or.inr ⟨g, cap, cur, hv, hg, by rw [hb g (by simp [Thing.blk, hv, Value.ownBlock])]; exact hh, r⟩
  | mp es c => simp only [Thing.holds] at h ⊢; rw [hb _ rfl]; exact h

/-- All that is owned: each thing holds, no two share a block, none is in what never turns. -/
structure Own (e : Env) (s : Hp) (th : List (Key × Thing)) (w : World) : Prop where
  holds : ∀ k t, fd th k = some t → t.holds e k w
  apart : ∀ k k' t t' g, fd th k = some t → fd th k' = some t' → t.blk e k = some g → t'.blk e k' = some g → k = k'
  free : ∀ k t g, fd th k = some t → t.blk e k = some g → ¬ s.has g

/-! ### The state -/
structure St where
  tm : List (Nat × SV)
  th : List (Key × Thing)
  F : Fact

structure Cx where
  w0 : World
  s0 : Hp
  nt : Nat
  bor : List (Nat × Nat)
  gv : Nat → Value
  dfs : List Deferred
/-- A slot of the activation, or one that a caller keeps. -/
def Cx.slot (cx : Cx) (a : Act) (i : Nat) : Value := if i < 1000000 then a.tmps.getD i undef else cx.gv i

structure Sat1 (cx : Cx) (st : St) (e : Env) (s : Hp) (a : Act) (w : World) : Prop where
  size : a.tmps.size = cx.nt
  ntB : cx.nt ≤ 1000000
  nodef : a.defers = cx.dfs
  tm : ∀ i x, fd st.tm i = some x → x.is e (cx.slot a i)
  own : Own e s st.th w
  fresh : ∀ k t g, fd st.th k = some t → t.blk e k = some g → cx.w0.heap.size ≤ g ∨ ∃ n, (n, g) ∈ cx.bor
  inw : s.inw w
  ge : cx.s0.le s
  new : ∀ g, s.has g → cx.s0.has g ∨ cx.w0.heap.size ≤ g ∨ ∃ n, (n, g) ∈ cx.bor
  fact : st.F.p s
  os : w.os = cx.w0.os
  tape : w.tape = cx.w0.tape
  output : w.output = cx.w0.output
  grow : cx.w0.heap.size ≤ w.heap.size
  frame : ∀ g, g < cx.w0.heap.size → (∀ n, (n, g) ∉ cx.bor) → w.heap[g]? = cx.w0.heap[g]?
  borB : ∀ n g, (n, g) ∈ cx.bor → e.B (.b n) = g
  bnB : ∀ n, e.B (.b n) = n
def Sat (cx : Cx) (st : St) (a : Act) (w : World) : Prop := ∃ e s, Sat1 cx st e s a w

def St.ev (st : St) : Operand → SV
  | .tmp t => if t < 1000000 then (fd st.tm t).getD .any else .any
  | .const v => .v v
  | .global g => .v (.pointer (some ⟨g, 0, none⟩))
  | .func f => .clo (.func f) []
theorem Sat1.ev {cx : Cx} {st : St} {e : Env} {s : Hp} {a : Act} {w : World} (h : Sat1 cx st e s a w) (x : Operand) : (st.ev x).is e (a.eval x) := by
  cases x with
  | tmp t =>
    simp only [St.ev, Act.eval]
    by_cases ht : t < 1000000
    · rw [if_pos ht]
      cases hf : fd st.tm t with
      | none => simp [SV.is]
      | some x => have := h.tm t x hf; rwa [Cx.slot, if_pos ht] at this
    · rw [if_neg ht]; simp [SV.is]
  | const v => simp [St.ev, Act.eval, SV.is]
  | global g => simp [St.ev, Act.eval, SV.is]
  | func f => simp [St.ev, Act.eval, SV.is, SV.isL]
def St.put (st : St) : Option Tmp → SV → St
  | some d, x => { st with tm := up st.tm d x }
  | none, _ => st
theorem Cx.slot_put (cx : Cx) (a : Act) {d i : Nat} {v : Value} (h : ¬ d = i) : cx.slot (a.put (some d) v) i = cx.slot a i := by
  unfold Cx.slot
  split
  · simp only [Act.put]
    rw [Array.getD_eq_getD_getElem?, Array.getElem?_setIfInBounds, if_neg h, ← Array.getD_eq_getD_getElem?]
  · rfl
theorem Sat1.put {cx : Cx} {st : St} {e : Env} {s : Hp} {a : Act} {w : World} (h : Sat1 cx st e s a w) (d : Option Tmp) {x : SV} {v : Value} (hx : x.is e v) (hd : ∀ i, d = some i → i < cx.nt) :
    Sat1 cx (st.put d x) e s (a.put d v) w := by
  cases d with
  | none => exact h
  | some d =>
    have hd := hd d rfl
    refine { h with size := by simpa [Act.put] using h.size, nodef := h.nodef, tm := ?_ }
    intro i y hy
    simp only [St.put] at hy
    rw [fd_up] at hy
    by_cases hi : d = i
    · subst hi
      rw [if_pos rfl] at hy
      obtain rfl := Option.some.inj hy
      simp only [Act.put]
      rw [Cx.slot, if_pos (Nat.lt_of_lt_of_le hd h.ntB), Array.getD_eq_getD_getElem?, Array.getElem?_setIfInBounds, if_pos rfl, if_pos (by rw [h.size]; exact hd)]
      exact hx
    · rw [if_neg hi] at hy
      have := h.tm i y hy
      rwa [Cx.slot_put cx a hi]
end Go.Proofs.YtmamodnpghlgcaaDoor
/- What one operation does to a state: as a function, without memory in it: a plain vocabulary, no statement of the program. -/
set_option linter.unusedVariables false
namespace Go.Proofs.YtmamodnpghlgcaaDoor
open Go.RowKit

/-! ### Types, read off the program's table -/
inductive TK where
  | int (k : IntKind) | bool | str
  | slice (t : TypeId) | ptr (t : TypeId) | struct (fs : List (Nat × TypeId)) | array (n : Nat) (t : TypeId)
  | map (k e : TypeId) | func | iface | other
structure TI where
  k : TK
  size : Nat
  bytes : Nat
  zero : Option (List Value)
def TK.isAgg : TK → Bool
  | .struct _ => true
  | .array _ _ => true
  | _ => false
def kindOf : TypeDesc → TK
  | .int k => .int k
  | .bool => .bool
  | .string => .str
  | .slice e => .slice e
  | .pointer e => .ptr e
  | .struct fs => .struct (fs.toList.map fun f => (f.offset, f.type))
  | .array n e => .array n e
  | .map k e => .map k e
  | .func _ _ _ => .func
  | .interface _ => .iface
  | _ => .other
def tyP (P : Program) (t : TypeId) : Option TI :=
  match P.info? t, P.underlying t with
  | some i, some d => some ⟨kindOf d, i.size, i.bytes, i.zero.map (·.cells.toList)⟩
  | _, _ => none
theorem tyP_spec {P : Program} {t : TypeId} {i : TI} (h : tyP P t = some i) : ∃ ti d, P.info? t = some ti ∧ P.underlying t = some d ∧ kindOf d = i.k ∧ ti.size = i.size ∧ ti.bytes = i.bytes ∧ ti.zero.map (·.cells.toList) = i.zero := by
  unfold tyP at h
  split at h
  · rename_i ti d h1 h2
    obtain rfl := Option.some.inj h
    exact ⟨ti, d, h1, h2, rfl, rfl, rfl, rfl⟩
  · cases h
/-- Whether a type is a struct or an array, and its cells. -/
def tq (P : Program) (t : TypeId) : Option (Bool × Nat) := match tyP P t with | some i => some (i.k.isAgg, i.size) | none => none
inductive EQ where
  | str | slice (a : Bool) (n : Nat) | array (len : Nat) (a : Bool) (n : Nat) | bad
/-- What is indexed. -/
def eqy (P : Program) (t : TypeId) : EQ :=
  match tyP P t with
  | some ⟨.str, _, _, _⟩ => .str
  | some ⟨.slice e, _, _, _⟩ => match tq P e with | some (a, n) => .slice a n | none => .bad
  | some ⟨.array len e, _, _, _⟩ => match tq P e with | some (a, n) => .array len a n | none => .bad
  | _ => .bad
def idx {A : Type} : List A → Nat → Option A
  | [], _ => none
  | x :: _, 0 => some x
  | _ :: l, n + 1 => idx l n
theorem idx_eq {A : Type} : ∀ (l : List A) (n : Nat), idx l n = l[n]?
  | [], n => by simp [idx]
  | x :: l, 0 => by simp [idx]
  | x :: l, n + 1 => by simp [idx, idx_eq l n]
/-- A field: its place, whether it is a struct or an array, its cells. -/
def fq (P : Program) (t : TypeId) (f : Nat) : Option (Nat × Bool × Nat) :=
  match tyP P t with
  | some ⟨.struct fs, _, _, _⟩ => match idx fs f with
    | some (off, ft) => match tq P ft with | some (a, n) => some (off, a, n) | none => none
    | none => none
  | _ => none
inductive KQ where
  | int (k : IntKind) | bool | str | iface | other | bad
def kq (P : Program) (t : TypeId) : KQ :=
  match tyP P t with
  | some ⟨.int k, _, _, _⟩ => .int k
  | some ⟨.bool, _, _, _⟩ => .bool
  | some ⟨.str, _, _, _⟩ => .str
  | some ⟨.iface, _, _, _⟩ => .iface
  | some _ => .other
  | none => .bad
def zq (P : Program) (t : TypeId) : Option (List Value) := (tyP P t).bind (·.zero)
def ox {A : Type} : Option A → (A → Prop) → Prop
  | some y, k => k y
  | none, _ => False

/-! ### Small functions -/
/-- A value that holds nothing of the state's own, as a plain value. -/
def vals : List SV → Option (List Value)
  | [] => some []
  | .v x :: l => (vals l).map (x :: ·)
  | _ => none
theorem vals_map (l : List Value) : vals (l.map .v) = some l := by
  induction l with
  | nil => rfl
  | cons x l ih => simp [vals, ih]
theorem vals_spec {e : Env} : ∀ {l : List SV} {vs : List Value}, vals l = some vs → l = vs.map .v
  | [], vs, h => by simp [vals] at h; simp [← h]
  | .v x :: l, vs, h => by
    simp only [vals, Option.map_eq_some_iff] at h
    obtain ⟨vs', h1, rfl⟩ := h
    rw [vals_spec (e := e) h1]
    rfl
  | .own _ _ :: _, _, h => by simp [vals] at h
  | .row _ :: _, _, h => by simp [vals] at h
  | .elt _ _ :: _, _, h => by simp [vals] at h
  | .mp _ :: _, _, h => by simp [vals] at h
  | .clo _ _ :: _, _, h => by simp [vals] at h
  | .agg _ :: _, _, h => by simp [vals] at h
  | .tup _ :: _, _, h => by simp [vals] at h
  | .any :: _, _, h => by simp [vals] at h
/-- A struct or an array of plain cells is a plain value. -/
def mkAgg (l : List SV) : SV := match vals l with
  | some vs => .v (.agg vs.toArray)
  | none => .agg l
theorem mkAgg_is {e : Env} {l : List SV} {ys : Array Value} (h : SV.isL e l ys.toList) : (mkAgg l).is e (.agg ys) := by
  unfold mkAgg
  split
  · rename_i vs hv
    rw [vals_spec (e := e) hv] at h
    have := SV.isL_map_eq vs h
    simp only [SV.is]
    rw [← this]
  · simp only [SV.is]
    exact ⟨ys, rfl, h⟩
/-- The cells of a value. -/
def cellsOf : SV → Option (List SV)
  | .agg l => some l
  | .v (.agg cs) => some (cs.toList.map .v)
  | .tup _ => none
  | .v (.tuple _) => none
  | .any => none
  | x => some [x]
theorem cellsOf_is {e : Env} {x : SV} {v : Value} {l : List SV} (h : x.is e v) (hc : cellsOf x = some l) : SV.isL e l v.cells.toList := by
  cases x with
  | agg l' =>
    simp only [cellsOf, Option.some.injEq] at hc
    subst hc
    simp only [SV.is] at h
    obtain ⟨ys, rfl, hl⟩ := h
    simpa [Value.cells] using hl
  | v x =>
    simp only [SV.is] at h
    subst h
    cases v <;> simp only [cellsOf, Option.some.injEq, reduceCtorEq] at hc <;> subst hc <;> simp [Value.cells, SV.isL, SV.is, SV.isL_map]
  | own k o =>
    simp only [cellsOf, Option.some.injEq] at hc
    subst hc
    have h' := h
    simp only [SV.is] at h'
    subst h'
    simpa [Value.cells, SV.isL] using h
  | row k =>
    simp only [cellsOf, Option.some.injEq] at hc
    subst hc
    have h' := h
    simp only [SV.is] at h'
    obtain ⟨h1, a, n, c, rfl⟩ := h'
    simpa [Value.cells, SV.isL] using h
  | elt k o =>
    simp only [cellsOf, Option.some.injEq] at hc
    subst hc
    have h' := h
    simp only [SV.is] at h'
    obtain ⟨n, c, h1, rfl⟩ := h'
    simpa [Value.cells, SV.isL] using h
  | mp k =>
    simp only [cellsOf, Option.some.injEq] at hc
    subst hc
    have h' := h
    simp only [SV.is] at h'
    subst h'
    simpa [Value.cells, SV.isL] using h
  | clo f cs =>
    simp only [cellsOf, Option.some.injEq] at hc
    subst hc
    have h' := h
    simp only [SV.is] at h'
    obtain ⟨ys, rfl, _⟩ := h'
    simpa [Value.cells, SV.isL] using h
  | tup l' => simp [cellsOf] at hc
  | any => simp [cellsOf] at hc

/-! ### Operations that leave memory alone -/
def bz (x : SV) : SV := x
theorem bz_v (b : Bool) : bz (.v (.bool b)) = SV.q b := rfl
theorem bz_q (b : Bool) : bz (SV.q b) = SV.q b := rfl
def pickx (c a b : SV) (k : SV → Prop) : Prop :=
  match c with
  | .v (.bool t) => (t = true → k a) ∧ (t = false → k b)
  | _ => False
theorem pickx_true (a b : SV) (k : SV → Prop) : pickx (.v (.bool true)) a b k = k a := by simp [pickx]
theorem pickx_false (a b : SV) (k : SV → Prop) : pickx (.v (.bool false)) a b k = k b := by simp [pickx]
theorem pickx_q (t : Bool) (a b : SV) (k : SV → Prop) : pickx (SV.q t) a b k = ((t = true → k a) ∧ (t = false → k b)) := rfl

/-- Two structs or arrays, compared. -/
def aggEq (P : Program) (t : TypeId) (xs ys : Array Value) (b : Bool) : Prop :=
  (∀ w, (Op.equal t (.agg xs) (.agg ys)).run P w = .ok b w) ∧ P.eqGuardType P.depth t = false
def slN (P : Program) (t : TypeId) : Bool := match P.underlying t with | some (.slice _) => true | _ => false
theorem slN_spec {P : Program} {t : TypeId} (h : slN P t = true) : ∃ e, P.underlying t = some (.slice e) := by
  unfold slN at h
  split at h
  · rename_i e he; exact ⟨e, he⟩
  · cases h
/-- A place where two structs are compared: to be passed by what is known of their equality. -/
def eqL (P : Program) (t : TypeId) (a b : Array Value) (k : SV → Prop) : Prop := ∃ r, aggEq P t a b r ∧ k (.q r)
def neL (P : Program) (t : TypeId) (a b : Array Value) (k : SV → Prop) : Prop := ∃ r, aggEq P t a b r ∧ k (.q (!r))
/-- A number in range. -/
def inr (i : IntKind) (c : Int) (k : SV → Prop) : Prop := (i.min ≤ c ∧ c ≤ i.max) ∧ k (.v (.int i c))
def shrI (i : IntKind) (a b : Int) : Int := a.fdiv (2 ^ min b.toNat i.bits)
def shlI (i : IntKind) (a b : Int) : Int := i.wrap (a * 2 ^ min b.toNat i.bits)
def andI (i : IntKind) (a b : Int) : Int := i.wrap ((BitVec.ofInt i.bits a &&& BitVec.ofInt i.bits b).toNat : Int)
def orI (i : IntKind) (a b : Int) : Int := i.wrap ((BitVec.ofInt i.bits a ||| BitVec.ofInt i.bits b).toNat : Int)
def binx (lit : Bool) (q : KQ) (P : Program) (t : TypeId) : BinOp → SV → SV → (SV → Prop) → Prop
  | .add, .v (.int i a), .v (.int j b), k => i = j ∧ inr i (a + b) k
  | .sub, .v (.int i a), .v (.int j b), k => i = j ∧ inr i (a - b) k
  | .mul, .v (.int i a), .v (.int j b), k => i = j ∧ inr i (a * b) k
  | .quo, .v (.int i a), .v (.int j b), k => (i = j ∧ 0 ≤ a ∧ 0 < b) ∧ inr i (a / b) k
  | .rem, .v (.int i a), .v (.int j b), k => (i = j ∧ 0 ≤ a ∧ 0 < b) ∧ k (.v (.int i (a % b)))
  | .eql, .v (.int i a), .v (.int j b), k => i = j ∧ k (.q (decide (a = b)))
  | .neq, .v (.int i a), .v (.int j b), k => i = j ∧ k (.q (decide (a ≠ b)))
  | .lss, .v (.int i a), .v (.int j b), k => i = j ∧ k (.q (decide (a < b)))
  | .leq, .v (.int i a), .v (.int j b), k => i = j ∧ k (.q (decide (a ≤ b)))
  | .gtr, .v (.int i a), .v (.int j b), k => i = j ∧ k (.q (decide (b < a)))
  | .geq, .v (.int i a), .v (.int j b), k => i = j ∧ k (.q (decide (b ≤ a)))
  | .eql, .v (.string a), .v (.string b), k => k (.q (decide (a = b)))
  | .neq, .v (.string a), .v (.string b), k => k (.q (decide (a ≠ b)))
  | .add, .v (.string a), .v (.string b), k => a.size + b.size ≤ maxLen ∧ k (.v (.string (a ++ b)))
  | .eql, .v (.bool a), .v (.bool b), k => q = .bool ∧ k (.q (a == b))
  | .neq, .v (.bool a), .v (.bool b), k => q = .bool ∧ k (.q (a != b))
  | .eql, .v (.agg a), .v (.agg b), k => eqL P t a b k
  | .neq, .v (.agg a), .v (.agg b), k => neL P t a b k
  | .eql, .v .nilIface, .v .nilIface, k => (lit = true ∧ q = .iface) ∧ k (.v (.bool true))
  | .neq, .v .nilIface, .v .nilIface, k => (lit = true ∧ q = .iface) ∧ k (.v (.bool false))
  | .eql, .v (.iface _ _), .v .nilIface, k => q = .iface ∧ k (.v (.bool false))
  | .neq, .v (.iface _ _), .v .nilIface, k => q = .iface ∧ k (.v (.bool true))
  | .eql, .v (.slice a _ _), .v (.slice none 0 0), k => slN P t = true ∧ k (.q a.isNone)
  | .neq, .v (.slice a _ _), .v (.slice none 0 0), k => slN P t = true ∧ k (.q (!a.isNone))
  | .shr, .v (.int i a), .v (.int _ b), k => 0 ≤ b ∧ k (.v (.int i (shrI i a b)))
  | .shl, .v (.int i a), .v (.int _ b), k => 0 ≤ b ∧ k (.v (.int i (shlI i a b)))
  | .and, .v (.int i a), .v (.int j b), k => i = j ∧ k (.v (.int i (andI i a b)))
  | .or, .v (.int i a), .v (.int j b), k => i = j ∧ k (.v (.int i (orI i a b)))
  | _, _, _, _ => False
def unx : UnOp → SV → (SV → Prop) → Prop
  | .not, .v (.bool b), k => k (.q (!b))
  | .neg, .v (.int i a), k => inr i (0 - a) k
  | _, _, _ => False
def extx (x : SV) (i : Nat) (k : SV → Prop) : Prop :=
  match x with
  | .tup l => ox (idx l i) k
  | .v (.tuple vs) => ox (idx (vs.toList.map .v) i) k
  | _ => False
def cvx (s t : KQ) (x : SV) (k : SV → Prop) : Prop :=
  match s, t, x with
  | .bad, _, _ => False
  | _, .int j, .v (.int _ a) => inr j a k
  | _, .str, .v (.string a) => k (.v (.string a))
  | _, _, _ => False
def partx (q : Option (Bool × Nat)) (cs : List SV) (off : Nat) (k : SV → Prop) : Prop :=
  match q with
  | some (true, n) => off + n ≤ cs.length ∧ k (mkAgg ((cs.drop off).take n))
  | some (false, _) => ox (idx cs off) k
  | none => False
def fldx (q : Option (Nat × Bool × Nat)) (x : SV) (k : SV → Prop) : Prop :=
  match q, x with
  | some (off, a, n), .agg cs => partx (some (a, n)) cs off k
  | some (off, a, n), .v (.agg cs) => partx (some (a, n)) (cs.toList.map .v) off k
  | _, _ => False
/-- The byte at a place. -/
def byt (s : ByteArray) (n : Nat) : Int := ((s.data.toList.getD n 0).toNat : Int)
def ixx (q : EQ) (x i : SV) (k : SV → Prop) : Prop :=
  match q, x, i with
  | .str, .v (.string s), .v (.int _ n) => (0 ≤ n ∧ n < s.size) ∧ k (.v (.int .u8 (byt s n.toNat)))
  | .array len a z, .v (.agg cs), .v (.int _ n) => (0 ≤ n ∧ n < len) ∧ partx (some (a, z)) (cs.toList.map .v) (n.toNat * z) k
  | .array len a z, .agg cs, .v (.int _ n) => (0 ≤ n ∧ n < len) ∧ partx (some (a, z)) cs (n.toNat * z) k
  | _, _, _ => False
/-- How many elements an own row has. -/
def rowN (th : List (Key × Thing)) (r : Key) : Option Nat := match fd th r with | some (.row _ _ n _) => some n | _ => none
def lenx (q : EQ) (th : List (Key × Thing)) (x : SV) (k : SV → Prop) : Prop :=
  match q, x with
  | .str, .v (.string s) => k (.v (.int .i64 s.size))
  | .slice _ _, .v (.slice _ n _) => k (.v (.int .i64 n))
  | .slice _ _, .row r => ox ((rowN th r).map fun (n : Nat) => SV.v (.int .i64 (n : Int))) k
  | .array n _ _, _ => k (.v (.int .i64 n))
  | _, _ => False
def maxx (x y : SV) (k : SV → Prop) : Prop :=
  match x, y with
  | .v (.int i a), .v (.int j b) => i = j ∧ k (.v (.int i (max a b)))
  | _, _ => False
def minx (x y : SV) (k : SV → Prop) : Prop :=
  match x, y with
  | .v (.int i a), .v (.int j b) => i = j ∧ k (.v (.int i (min a b)))
  | _, _ => False
/-- The place of a slice cut at its front. -/
def slA (a : Option Addr) (l c size : Nat) : Option Addr := if c = l then a else a.map (·.add (l * size))
def slx (q : EQ) (x : SV) (lo hi : Option SV) (k : SV → Prop) : Prop :=
  match q, x, lo, hi with
  | .str, .v (.string s), none, some (.v (.int _ h)) => (0 ≤ h ∧ h ≤ s.size) ∧ k (.v (.string (s.extract 0 h.toNat)))
  | .str, .v (.string s), some (.v (.int _ l)), none => (0 ≤ l ∧ l ≤ s.size) ∧ k (.v (.string (s.extract l.toNat s.size)))
  | .str, .v (.string s), some (.v (.int _ l)), some (.v (.int _ h)) => (0 ≤ l ∧ l ≤ h ∧ h ≤ s.size) ∧ k (.v (.string (s.extract l.toNat h.toNat)))
  | .slice _ z, .v (.slice a n c), none, some (.v (.int _ h)) => (0 ≤ h ∧ h ≤ c) ∧ k (.v (.slice (slA a 0 c z) h.toNat c))
  | .slice _ z, .v (.slice a n c), some (.v (.int _ l)), none => (0 ≤ l ∧ l ≤ n) ∧ k (.v (.slice (slA a l.toNat c z) (n - l.toNat) (c - l.toNat)))
  | .slice _ z, .v (.slice a n c), some (.v (.int _ l)), some (.v (.int _ h)) => (0 ≤ l ∧ l ≤ h ∧ h ≤ c) ∧ k (.v (.slice (slA a l.toNat c z) (h.toNat - l.toNat) (c - l.toNat)))
  | _, _, _, _ => False
/-- The place of a field. -/
def fax (q : Option (Nat × Bool × Nat)) (x : SV) (k : SV → Prop) : Prop :=
  match q, x with
  | some (off, _, z), .own b o => z ≠ 0 ∧ k (.own b (o + off))
  | some (off, _, z), .elt b o => z ≠ 0 ∧ k (.elt b (o + off))
  | some (off, _, z), .v (.pointer (some a)) => z ≠ 0 ∧ k (.v (.pointer (some (a.add off))))
  | _, _ => False
def iaxK (j : Int) (k : SV → Prop) (p : Int × SV) : Prop := (0 ≤ j ∧ j < p.1) ∧ k p.2
/-- The place of an element. -/
def iax (q : EQ) (F : Fact) (th : List (Key × Thing)) (x i : SV) (k : SV → Prop) : Prop :=
  match q, x, i with
  | .slice _ z, .v (.slice a n _), .v (.int _ j) => (0 ≤ j ∧ j < n) ∧ (∀ s, F.p s → a.isSome = true) ∧ k (.v (.pointer (some ((a.getD default).add (j.toNat * z)))))
  | .slice _ z, .row r, .v (.int _ j) => ox ((rowN th r).map fun (n : Nat) => ((n : Int), SV.elt r (j.toNat * z))) (iaxK j k)
  | .array len _ z, .own b o, .v (.int _ j) => (0 ≤ j ∧ j < len) ∧ k (.own b (o + j.toNat * z))
  | .array len _ z, .elt b o, .v (.int _ j) => (0 ≤ j ∧ j < len) ∧ k (.elt b (o + j.toNat * z))
  | _, _, _ => False
def mkClo (f : Go.Fn) (l : List SV) : SV := match vals l with
  | some vs => .v (.func f #[] vs.toArray)
  | none => .clo f l
theorem mkClo_is {e : Env} {f : Go.Fn} {l : List SV} {ys : Array Value} (h : SV.isL e l ys.toList) : (mkClo f l).is e (.func f #[] ys) := by
  unfold mkClo
  split
  · rename_i vs hv
    rw [vals_spec (e := e) hv] at h
    have := SV.isL_map_eq vs h
    simp only [SV.is]
    rw [← this]
  · simp only [SV.is]; exact ⟨ys, rfl, h⟩
def mfx (fn : Fn) (first captured : List SV) (k : SV → Prop) : Prop := first = [] ∧ k (mkClo fn captured)
def mix (q : KQ) (t : TypeId) (x : SV) (k : SV → Prop) : Prop :=
  match q, x with
  | .iface, _ => False
  | .bad, _ => False
  | _, .v y => k (.v (.iface t y))
  | _, _ => False
def tax (q : KQ) (x : SV) (t : TypeId) (ok : Bool) (k : SV → Prop) : Prop :=
  match q, x with
  | .iface, _ => False
  | .bad, _ => False
  | _, .v (.iface u y) => u = t ∧ k (if ok then .tup [.v y, .v (.bool true)] else .v y)
  | _, _ => False
end Go.Proofs.YtmamodnpghlgcaaDoor
/- The operations that leave memory alone do what the functions of Sx2 say. -/
set_option linter.unusedVariables false
set_option linter.unusedSimpArgs false
namespace Go.Proofs.YtmamodnpghlgcaaDoor
open Go.RowKit

theorem is_v {e : Env} {x y : Value} : SV.is e (.v x) y ↔ y = x := by simp only [SV.is]
theorem is_own {e : Env} {k : Key} {o : Nat} : SV.is e (.own k o) (.pointer (some ⟨e.B k, o, none⟩)) := by simp only [SV.is]
theorem is_elt {e : Env} {k : Key} {o n c : Nat} (h : e.R k = .slice (some ⟨e.B k, 0, none⟩) n c) : SV.is e (.elt k o) (.pointer (some ⟨e.B k, o, none⟩)) := by
  simp only [SV.is]
  exact ⟨n, c, h, trivial⟩
theorem is_q {e : Env} {b : Bool} {y : Value} : SV.is e (SV.q b) y ↔ y = .bool b := by simp only [SV.q, SV.is]

def isC : Operand → Bool
  | .const _ => true
  | _ => false

theorem iface_tyP {P : Program} {t : TypeId} {a b : Nat} {z : Option (List Value)} (h : tyP P t = some ⟨.iface, a, b, z⟩) : ∃ ms, P.underlying t = some (.interface ms) := by
  obtain ⟨ti, d, _, h2, h3, _⟩ := tyP_spec h
  cases d <;> simp [kindOf] at h3
  exact ⟨_, h2⟩
theorem bool_tyP {P : Program} {t : TypeId} {a b : Nat} {z : Option (List Value)} (h : tyP P t = some ⟨.bool, a, b, z⟩) : P.underlying t = some .bool := by
  obtain ⟨ti, d, _, h2, h3, _⟩ := tyP_spec h
  cases d <;> simp [kindOf] at h3
  exact h2
theorem str_tyP {P : Program} {t : TypeId} {a b : Nat} {z : Option (List Value)} (h : tyP P t = some ⟨.str, a, b, z⟩) : P.underlying t = some .string := by
  obtain ⟨ti, d, _, h2, h3, _⟩ := tyP_spec h
  cases d <;> simp [kindOf] at h3
  exact h2
theorem int_tyP {P : Program} {t : TypeId} {k : IntKind} {a b : Nat} {z : Option (List Value)} (h : tyP P t = some ⟨.int k, a, b, z⟩) : P.underlying t = some (.int k) := by
  obtain ⟨ti, d, _, h2, h3, _⟩ := tyP_spec h
  cases d <;> simp [kindOf] at h3
  subst h3; exact h2
theorem slice_tyP {P : Program} {t u : TypeId} {a b : Nat} {z : Option (List Value)} (h : tyP P t = some ⟨.slice u, a, b, z⟩) : P.underlying t = some (.slice u) := by
  obtain ⟨ti, d, _, h2, h3, _⟩ := tyP_spec h
  cases d <;> simp [kindOf] at h3
  subst h3; exact h2
theorem array_tyP {P : Program} {t u : TypeId} {n a b : Nat} {z : Option (List Value)} (h : tyP P t = some ⟨.array n u, a, b, z⟩) : P.underlying t = some (.array n u) := by
  obtain ⟨ti, d, _, h2, h3, _⟩ := tyP_spec h
  cases d <;> simp [kindOf] at h3
  obtain ⟨rfl, rfl⟩ := h3; exact h2
theorem struct_tyP {P : Program} {t : TypeId} {fs : List (Nat × TypeId)} {a b : Nat} {z : Option (List Value)} (h : tyP P t = some ⟨.struct fs, a, b, z⟩) :
    ∃ fa, P.underlying t = some (.struct fa) ∧ fa.toList.map (fun f => (f.offset, f.type)) = fs := by
  obtain ⟨ti, d, _, h2, h3, _⟩ := tyP_spec h
  cases d <;> simp [kindOf] at h3
  exact ⟨_, h2, h3⟩
theorem szP_run {P : Program} {t : TypeId} {i : TI} (h : tyP P t = some i) (w : World) : (sizeOf t).run P w = .ok i.size w := by
  obtain ⟨ti, d, h1, h2, h3, h4, _⟩ := tyP_spec h
  simp [sizeOf, typeInfo, h1, h4]
theorem tq_spec {P : Program} {t : TypeId} {a : Bool} {n : Nat} (h : tq P t = some (a, n)) : ∃ i, tyP P t = some i ∧ i.k.isAgg = a ∧ i.size = n := by
  unfold tq at h
  split at h
  · simp only [Option.some.injEq, Prod.mk.injEq] at h
    exact ⟨_, by assumption, h.1, h.2⟩
  · cases h
theorem isAgg_run {P : Program} {t : TypeId} {i : TI} (h : tyP P t = some i) (w : World) : (isAgg t).run P w = .ok i.k.isAgg w := by
  obtain ⟨ti, d, h1, h2, h3, h4, _⟩ := tyP_spec h
  unfold isAgg
  rw [Sem.run_bind, run_underlying h2]
  cases d <;> simp_all [kindOf] <;> rw [← h3] <;> rfl

theorem tqs_run {P : Program} {t : TypeId} {a : Bool} {n : Nat} (h : tq P t = some (a, n)) (w : World) : (sizeOf t).run P w = .ok n w := by
  obtain ⟨i, h1, h2, h3⟩ := tq_spec h
  rw [szP_run h1, h3]
theorem tqa_run {P : Program} {t : TypeId} {a : Bool} {n : Nat} (h : tq P t = some (a, n)) (w : World) : (isAgg t).run P w = .ok a w := by
  obtain ⟨i, h1, h2, h3⟩ := tq_spec h
  rw [isAgg_run h1, h2]
theorem eqy_str {P : Program} {t : TypeId} (h : eqy P t = .str) : P.underlying t = some .string := by
  unfold eqy at h
  split at h
  · exact str_tyP (by assumption)
  · split at h <;> cases h
  · split at h <;> cases h
  · cases h
theorem eqy_slice {P : Program} {t : TypeId} {a : Bool} {n : Nat} (h : eqy P t = .slice a n) : ∃ u, P.underlying t = some (.slice u) ∧ tq P u = some (a, n) := by
  unfold eqy at h
  split at h
  · cases h
  · rename_i e _ _ _ ht
    split at h
    · rename_i hq
      cases h
      exact ⟨e, slice_tyP ht, hq⟩
    · cases h
  · split at h <;> cases h
  · cases h
theorem eqy_array {P : Program} {t : TypeId} {l : Nat} {a : Bool} {n : Nat} (h : eqy P t = .array l a n) : ∃ u, P.underlying t = some (.array l u) ∧ tq P u = some (a, n) := by
  unfold eqy at h
  split at h
  · cases h
  · split at h <;> cases h
  · rename_i len e _ _ _ ht
    split at h
    · rename_i hq
      cases h
      exact ⟨e, array_tyP ht, hq⟩
    · cases h
  · cases h
theorem kq_int {P : Program} {t : TypeId} {k : IntKind} (h : kq P t = .int k) : P.underlying t = some (.int k) := by
  unfold kq at h
  split at h <;> cases h
  exact int_tyP (by assumption)
theorem kq_bool {P : Program} {t : TypeId} (h : kq P t = .bool) : P.underlying t = some .bool := by
  unfold kq at h
  split at h <;> cases h
  exact bool_tyP (by assumption)
theorem kq_str {P : Program} {t : TypeId} (h : kq P t = .str) : P.underlying t = some .string := by
  unfold kq at h
  split at h <;> cases h
  exact str_tyP (by assumption)
theorem kq_iface {P : Program} {t : TypeId} (h : kq P t = .iface) : ∃ ms, P.underlying t = some (.interface ms) := by
  unfold kq at h
  split at h <;> cases h
  exact iface_tyP (by assumption)
theorem kq_good {P : Program} {t : TypeId} (h : kq P t ≠ .bad) : ∃ d, P.underlying t = some d ∧ (kq P t ≠ .iface → ∀ ms, d ≠ .interface ms) := by
  unfold kq at h ⊢
  split at h
  · rename_i ht; exact ⟨_, int_tyP ht, fun _ ms => by simp⟩
  · rename_i ht; exact ⟨_, bool_tyP ht, fun _ ms => by simp⟩
  · rename_i ht; exact ⟨_, str_tyP ht, fun _ ms => by simp⟩
  · rename_i ht; obtain ⟨ms, hm⟩ := iface_tyP ht; exact ⟨_, hm, fun h => absurd rfl h⟩
  · rename_i i _ _ _ hni ht
    obtain ⟨ti, d, _, hd, hk, _⟩ := tyP_spec ht
    refine ⟨d, hd, fun _ ms hms => ?_⟩
    subst hms
    obtain ⟨ik, isz, ib, iz⟩ := i
    simp only [kindOf] at hk
    subst hk
    exact hni _ _ _ rfl
  · exact absurd rfl h
theorem ox_spec {A : Type} {o : Option A} {k : A → Prop} (h : ox o k) : ∃ y, o = some y ∧ k y := by
  cases o with
  | none => exact h.elim
  | some y => exact ⟨y, rfl, h⟩
theorem wrap_in {i : IntKind} {n : Int} (h : i.min ≤ n ∧ n ≤ i.max) : i.wrap n = n := by
  cases i <;> simp [IntKind.min, IntKind.max, IntKind.signed, IntKind.bits] at h
  · exact IntWalk.i8_in n (by omega)
  · exact IntWalk.i16_in n (by omega)
  · exact IntWalk.i32_in n (by omega)
  · exact IntWalk.i64_in n (by omega)
  · exact IntWalk.u8_in n (by omega)
  · exact IntWalk.u16_in n (by omega)
  · exact IntWalk.u32_in n (by omega)
  · exact IntWalk.u64_in n (by omega)

theorem toList_eq_iff (a b : ByteArray) : (a.toList == b.toList) = decide (a = b) := by
  rw [ByteArray.toList_eq, ByteArray.toList_eq]
  by_cases h : a = b
  · subst h; simp
  · have h2 : ¬ a.data = b.data := fun h' => h (by cases a; cases b; simp_all)
    simp [h, Array.toList_inj, h2]

theorem equalIn_bool {P : Program} {t : TypeId} (ht : P.underlying t = some .bool) (a b : Bool) (w : World) : (Op.equal t (.bool a) (.bool b)).run P w = .ok (a == b) w := by
  show (Op.equalIn (9999 + 1) t (.bool a) (.bool b)).run P w = _
  unfold Op.equalIn
  rw [Sem.run_bind, run_underlying ht]
  rfl
theorem equalIn_nil {P : Program} {t : TypeId} {ms : Array (String × TypeId)} (ht : P.underlying t = some (.interface ms)) (w : World) : (Op.equal t .nilIface .nilIface).run P w = .ok true w := by
  show (Op.equalIn (9999 + 1) t .nilIface .nilIface).run P w = _
  unfold Op.equalIn
  rw [Sem.run_bind, run_underlying ht]
  rfl
theorem equalIn_some {P : Program} {t : TypeId} {ms : Array (String × TypeId)} (ht : P.underlying t = some (.interface ms)) (u : TypeId) (v : Value) (w : World) : (Op.equal t (.iface u v) .nilIface).run P w = .ok false w := by
  show (Op.equalIn (9999 + 1) t (.iface u v) .nilIface).run P w = _
  unfold Op.equalIn
  rw [Sem.run_bind, run_underlying ht]
  rfl

theorem binx_run {P : Program} {e : Env} {op : BinOp} {t : TypeId} {o1 o2 : Operand} {x y : SV} {vx vy : Value} {k : SV → Prop} (hx : x.is e vx) (hy : y.is e vy) (h : binx (isC o1 || isC o2) (kq P t) P t op x y k) :
    ∃ z v, k z ∧ z.is e v ∧ ∀ w, ((do eqGuard op t o1 o2 vx vy; Go.binOp op t vx vy) : Sem Value).run P w = .ok v w := by
  unfold binx at h
  split at h <;> (try (simp only [is_v] at hx hy; subst hx; subst hy))
  · obtain ⟨rfl, h1, h2⟩ := h
    exact ⟨_, _, h2, is_v.2 rfl, fun w => by simp [eqGuard, Go.binOp, Op.intArith, wrap_in h1]⟩
  · obtain ⟨rfl, h1, h2⟩ := h
    exact ⟨_, _, h2, is_v.2 rfl, fun w => by simp [eqGuard, Go.binOp, Op.intArith, wrap_in h1]⟩
  · obtain ⟨rfl, h1, h2⟩ := h
    exact ⟨_, _, h2, is_v.2 rfl, fun w => by simp [eqGuard, Go.binOp, Op.intArith, wrap_in h1]⟩
  · rename_i i a j b
    obtain ⟨⟨rfl, ha, hb⟩, h1, h2⟩ := h
    have hb0 : b ≠ 0 := by omega
    exact ⟨_, _, h2, is_v.2 rfl, fun w => by simp [eqGuard, Go.binOp, Op.intDiv, hb0, Int.tdiv_eq_ediv_of_nonneg ha, wrap_in h1]⟩
  · rename_i i a j b
    obtain ⟨⟨rfl, ha, hb⟩, h2⟩ := h
    have hb0 : b ≠ 0 := by omega
    exact ⟨_, _, h2, is_v.2 rfl, fun w => by simp [eqGuard, Go.binOp, Op.intDiv, hb0, Int.tmod_eq_emod_of_nonneg ha]⟩
  · rename_i i a j b
    obtain ⟨rfl, h2⟩ := h
    exact ⟨_, _, h2, is_q.2 rfl, fun w => by simp [eqGuard, Go.binOp, Op.intCmp]; exact Bool.beq_eq_decide_eq _ _⟩
  · rename_i i a j b
    obtain ⟨rfl, h2⟩ := h
    exact ⟨_, _, h2, is_q.2 rfl, fun w => by simp [eqGuard, Go.binOp, Op.intCmp]; rfl⟩
  · obtain ⟨rfl, h2⟩ := h
    exact ⟨_, _, h2, is_q.2 rfl, fun w => by simp [eqGuard, Go.binOp, Op.intCmp]⟩
  · obtain ⟨rfl, h2⟩ := h
    exact ⟨_, _, h2, is_q.2 rfl, fun w => by simp [eqGuard, Go.binOp, Op.intCmp]⟩
  · obtain ⟨rfl, h2⟩ := h
    exact ⟨_, _, h2, is_q.2 rfl, fun w => by simp [eqGuard, Go.binOp, Op.intCmp]⟩
  · obtain ⟨rfl, h2⟩ := h
    exact ⟨_, _, h2, is_q.2 rfl, fun w => by simp [eqGuard, Go.binOp, Op.intCmp]⟩
  · rename_i a b
    exact ⟨_, _, h, is_q.2 rfl, fun w => by simp [eqGuard, Go.binOp, Op.stringOp, toList_eq_iff]⟩
  · rename_i a b
    exact ⟨_, _, h, is_q.2 rfl, fun w => by simp [eqGuard, Go.binOp, Op.stringOp, toList_eq_iff]⟩
  · rename_i a b
    obtain ⟨h1, h2⟩ := h
    have hm : ¬ (((a.size + b.size : Nat) : Int) > IntKind.i64.max) := by
      simp only [maxLen] at h1
      simp only [IntKind.max, IntKind.signed, IntKind.bits]
      omega
    refine ⟨_, _, h2, is_v.2 rfl, fun w => ?_⟩
    simp only [eqGuard, Go.binOp, Op.stringOp]
    rw [if_neg hm]
    simp
  · rename_i a b
    obtain ⟨h1, h2⟩ := h
    exact ⟨_, _, h2, is_q.2 rfl, fun w => by simp [eqGuard, Go.binOp, equalIn_bool (kq_bool h1)]⟩
  · rename_i a b
    obtain ⟨h1, h2⟩ := h
    exact ⟨_, _, h2, is_q.2 rfl, fun w => by simp [eqGuard, Go.binOp, equalIn_bool (kq_bool h1)]; cases a <;> cases b <;> rfl⟩
  · rename_i a b
    obtain ⟨r, ⟨h1, hg⟩, h2⟩ := h
    exact ⟨_, _, h2, is_q.2 rfl, fun w => by simp [eqGuard, Go.binOp, program, Sem.run, hg, h1]⟩
  · rename_i a b
    obtain ⟨r, ⟨h1, hg⟩, h2⟩ := h
    exact ⟨_, _, h2, is_q.2 rfl, fun w => by simp [eqGuard, Go.binOp, program, Sem.run, hg, h1]⟩
  · obtain ⟨⟨hl, h1⟩, h2⟩ := h
    obtain ⟨ms, hm⟩ := kq_iface h1
    refine ⟨_, _, h2, is_v.2 rfl, fun w => ?_⟩
    cases o1 <;> cases o2 <;> simp [isC] at hl <;> simp [eqGuard, Go.binOp, equalIn_nil hm]
  · obtain ⟨⟨hl, h1⟩, h2⟩ := h
    obtain ⟨ms, hm⟩ := kq_iface h1
    refine ⟨_, _, h2, is_v.2 rfl, fun w => ?_⟩
    cases o1 <;> cases o2 <;> simp [isC] at hl <;> simp [eqGuard, Go.binOp, equalIn_nil hm]
  · obtain ⟨h1, h2⟩ := h
    obtain ⟨ms, hm⟩ := kq_iface h1
    exact ⟨_, _, h2, is_v.2 rfl, fun w => by simp [eqGuard, Go.binOp, equalIn_some hm]⟩
  · obtain ⟨h1, h2⟩ := h
    obtain ⟨ms, hm⟩ := kq_iface h1
    exact ⟨_, _, h2, is_v.2 rfl, fun w => by simp [eqGuard, Go.binOp, equalIn_some hm]⟩
  · obtain ⟨h1, h2⟩ := h
    obtain ⟨el, he⟩ := slN_spec h1
    exact ⟨_, _, h2, is_q.2 rfl, fun w => by simp [eqGuard, Go.binOp, run_equal_slice_nil w t el _ _ _ he]⟩
  · obtain ⟨h1, h2⟩ := h
    obtain ⟨el, he⟩ := slN_spec h1
    exact ⟨_, _, h2, is_q.2 rfl, fun w => by simp [eqGuard, Go.binOp, run_equal_slice_nil w t el _ _ _ he]⟩
  · rename_i i a j b
    obtain ⟨h1, h2⟩ := h
    exact ⟨_, _, h2, is_v.2 rfl, fun w => by simp [eqGuard, Go.binOp, Op.shift, Int.not_lt.2 h1, shrI]⟩
  · rename_i i a j b
    obtain ⟨h1, h2⟩ := h
    exact ⟨_, _, h2, is_v.2 rfl, fun w => by simp [eqGuard, Go.binOp, Op.shift, Int.not_lt.2 h1, shlI]⟩
  · obtain ⟨rfl, h2⟩ := h
    exact ⟨_, _, h2, is_v.2 rfl, fun w => by simp [eqGuard, Go.binOp, Op.intBits, andI]⟩
  · obtain ⟨rfl, h2⟩ := h
    exact ⟨_, _, h2, is_v.2 rfl, fun w => by simp [eqGuard, Go.binOp, Op.intBits, orI]⟩
  · exact h.elim

theorem unx_run {P : Program} {e : Env} {op : UnOp} {x : SV} {vx : Value} {k : SV → Prop} (hx : x.is e vx) (h : unx op x k) :
    ∃ z v, k z ∧ z.is e v ∧ ∀ w, (Op.unary op vx).run P w = .ok v w := by
  unfold unx at h
  split at h <;> (try (simp only [is_v] at hx; subst hx))
  · exact ⟨_, _, h, is_q.2 rfl, fun w => by simp [Op.unary]⟩
  · obtain ⟨h1, h2⟩ := h
    exact ⟨_, _, h2, is_v.2 rfl, fun w => by simp [Op.unary, Op.intArith]; simpa using wrap_in h1⟩
  · exact h.elim
theorem extx_run {P : Program} {e : Env} {x : SV} {i : Nat} {vx : Value} {k : SV → Prop} (hx : x.is e vx) (h : extx x i k) :
    ∃ z v, k z ∧ z.is e v ∧ ∀ w, (Instr.extract vx i).run P w = .ok v w := by
  have core : ∀ (l : List SV) (ys : Array Value), SV.isL e l ys.toList → ox (idx l i) k → ∃ z v, k z ∧ z.is e v ∧ ∀ w, (Instr.extract (.tuple ys) i).run P w = .ok v w := by
    intro l ys hl ho
    obtain ⟨y, hy, hk⟩ := ox_spec ho
    rw [idx_eq] at hy
    obtain ⟨v, hv, hi⟩ := SV.isL_get hl i y hy
    refine ⟨_, _, hk, hi, fun w => ?_⟩
    rw [Array.getElem?_toList] at hv
    simp [Instr.extract, hv]
  unfold extx at h
  split at h
  · rename_i l
    simp only [SV.is] at hx
    obtain ⟨ys, rfl, hl⟩ := hx
    exact core _ _ hl h
  · rename_i vs
    simp only [is_v] at hx
    subst hx
    exact core _ _ (SV.isL_map _) h
  · exact h.elim
theorem cvx_run {P : Program} {e : Env} {s t : TypeId} {x : SV} {vx : Value} {k : SV → Prop} (hx : x.is e vx) (h : cvx (kq P s) (kq P t) x k) :
    ∃ z v, k z ∧ z.is e v ∧ ∀ w, (Go.convert s t vx).run P w = .ok v w := by
  unfold cvx at h
  split at h <;> (try (simp only [is_v] at hx; subst hx))
  · exact h.elim
  · rename_i j i0 a h2 hb
    obtain ⟨h3, h4⟩ := h
    obtain ⟨d, hd, _⟩ := kq_good (P := P) (t := s) hb
    refine ⟨_, _, h4, is_v.2 rfl, fun w => ?_⟩
    simp [Go.convert, run_underlying hd, run_underlying (kq_int h2), Conv.intToInt, wrap_in h3]
  · rename_i a h2 hb
    obtain ⟨d, hd, _⟩ := kq_good (P := P) (t := s) hb
    refine ⟨_, _, h, is_v.2 rfl, fun w => ?_⟩
    simp [Go.convert, run_underlying hd, run_underlying (kq_str h2)]
  · exact h.elim
theorem partx_run {P : Program} {e : Env} {t : TypeId} {cs : List SV} {ys : Array Value} {off : Nat} {k : SV → Prop} (hx : SV.isL e cs ys.toList) {q : Option (Bool × Nat)} (hq : q = tq P t) (h : partx q cs off k) :
    ∃ z v, k z ∧ z.is e v ∧ ∀ w, (part t ys off).run P w = .ok v w := by
  unfold partx at h
  split at h
  · rename_i n
    obtain ⟨h1, h2⟩ := h
    refine ⟨_, .agg (ys.extract off (off + n)), h2, mkAgg_is ?_, fun w => ?_⟩
    · have := SV.isL_take n (SV.isL_drop off hx)
      rw [Array.toList_extract, List.extract_eq_take_drop, Nat.add_sub_cancel_left]
      exact this
    · simp [part, tqa_run hq.symm, tqs_run hq.symm]
  · rename_i n
    obtain ⟨y, hy, hk⟩ := ox_spec h
    rw [idx_eq] at hy
    obtain ⟨v, hv, hi'⟩ := SV.isL_get hx off y hy
    rw [Array.getElem?_toList] at hv
    refine ⟨_, _, hk, hi', fun w => ?_⟩
    simp [part, tqa_run hq.symm, hv]
  · exact h.elim
theorem idx_map {A B : Type} (f : A → B) (l : List A) (n : Nat) : idx (l.map f) n = (idx l n).map f := by simp [idx_eq]
theorem fq_spec {P : Program} {t : TypeId} {f off n : Nat} {a : Bool} (h : fq P t f = some (off, a, n)) : ∃ fa fl, P.underlying t = some (.struct fa) ∧ fa[f]? = some fl ∧ fl.offset = off ∧ tq P fl.type = some (a, n) := by
  unfold fq at h
  split at h
  · rename_i fs _ _ _ ht
    obtain ⟨fa, hfa, hfs⟩ := struct_tyP ht
    split at h
    · rename_i off' ft hf
      split at h
      · rename_i a' n' hq
        simp only [Option.some.injEq, Prod.mk.injEq] at h
        obtain ⟨rfl, rfl, rfl⟩ := h
        rw [← hfs, idx_eq, List.getElem?_map, Option.map_eq_some_iff] at hf
        obtain ⟨fl, hfd, he⟩ := hf
        rw [Array.getElem?_toList] at hfd
        simp only [Prod.mk.injEq] at he
        obtain ⟨rfl, rfl⟩ := he
        exact ⟨fa, fl, hfa, hfd, rfl, hq⟩
      · cases h
    · cases h
  · cases h
theorem fldx_run {P : Program} {e : Env} {t : TypeId} {x : SV} {f : Nat} {vx : Value} {k : SV → Prop} (hx : x.is e vx) (h : fldx (fq P t f) x k) :
    ∃ z v, k z ∧ z.is e v ∧ ∀ w, (Instr.field t vx f).run P w = .ok v w := by
  unfold fldx at h
  split at h
  · rename_i off a n cs hq
    obtain ⟨fa, fl, h1, h2, rfl, h4⟩ := fq_spec hq
    simp only [SV.is] at hx
    obtain ⟨ys, rfl, hl⟩ := hx
    obtain ⟨z, v, h5, h6, h7⟩ := partx_run hl h4.symm h
    exact ⟨z, v, h5, h6, fun w => by simp [Instr.field, run_underlying h1, h2, asAgg, h7]⟩
  · rename_i off a n cs hq
    obtain ⟨fa, fl, h1, h2, rfl, h4⟩ := fq_spec hq
    simp only [is_v] at hx
    subst hx
    obtain ⟨z, v, h5, h6, h7⟩ := partx_run (e := e) (SV.isL_map cs.toList) h4.symm h
    exact ⟨z, v, h5, h6, fun w => by simp [Instr.field, run_underlying h1, h2, asAgg, h7]⟩
  · exact h.elim
theorem byt_at (s : ByteArray) (n : Nat) (h : n < s.size) : ∃ h' : n < s.size, ((s[n]'h').toNat : Int) = byt s n := by
  refine ⟨h, ?_⟩
  unfold byt
  rw [List.getD_eq_getElem?_getD, List.getElem?_eq_getElem (by simpa using h)]
  rfl
theorem getElem?_byte (s : ByteArray) (n : Nat) (h : n < s.size) : s[n]? = some (s[n]'h) := by
  simp [h]
theorem ixx_run {P : Program} {e : Env} {t : TypeId} {x i : SV} {vx vi : Value} {k : SV → Prop} (hx : x.is e vx) (hi : i.is e vi) (h : ixx (eqy P t) x i k) :
    ∃ z v, k z ∧ z.is e v ∧ ∀ w, (Instr.index t vx vi).run P w = .ok v w := by
  unfold ixx at h
  split at h
  · rename_i s ik n ht
    simp only [is_v] at hx hi
    subst hx; subst hi
    obtain ⟨⟨h1, h2⟩, h3⟩ := h
    refine ⟨_, _, h3, is_v.2 rfl, fun w => ?_⟩
    obtain ⟨h', e'⟩ := byt_at s n.toNat (by omega)
    simp [Instr.index, asIntOf, run_underlying (eqy_str ht), h1, getElem?_byte s n.toNat h', ← e']
  · rename_i len aa z cs ik n ht
    simp only [is_v] at hx hi
    subst hx; subst hi
    obtain ⟨u, hu, hq⟩ := eqy_array ht
    obtain ⟨⟨h1, h2⟩, h3⟩ := h
    obtain ⟨z, v, h4, h5, h6⟩ := partx_run (e := e) (SV.isL_map cs.toList) hq.symm h3
    refine ⟨z, v, h4, h5, fun w => ?_⟩
    simp [Instr.index, asIntOf, run_underlying hu, h1, h2, tqs_run hq, h6]
  · rename_i len aa z cs ik n ht
    simp only [is_v, SV.is] at hx hi
    obtain ⟨ys, rfl, hl⟩ := hx
    subst hi
    obtain ⟨u, hu, hq⟩ := eqy_array ht
    obtain ⟨⟨h1, h2⟩, h3⟩ := h
    obtain ⟨z, v, h4, h5, h6⟩ := partx_run hl hq.symm h3
    refine ⟨z, v, h4, h5, fun w => ?_⟩
    simp [Instr.index, asIntOf, run_underlying hu, h1, h2, tqs_run hq, h6]
  · exact h.elim
/-- What an own row is. -/
theorem Sat1.rowIs {cx : Cx} {st : St} {e : Env} {s : Hp} {a : Act} {w : World} (hs : Sat1 cx st e s a w) {r : Key} {n : Nat} {v : Value} (hx : SV.is e (.row r) v) (hn : rowN st.th r = some n) :
    ∃ b c, v = .slice b n c ∧ (0 < n → b = some ⟨e.B r, 0, none⟩) ∧ v = e.R r := by
  unfold rowN at hn
  split at hn
  · rename_i t' sz n' xs hf
    obtain rfl := Option.some.inj hn
    have hh := hs.own.holds _ _ hf
    simp only [SV.is] at hx
    obtain ⟨rfl, a, n'', c, hv⟩ := hx
    rcases hh.1.2 with ⟨h1, h2⟩ | ⟨g, cap, cur, h1, _⟩
    · subst h2
      exact ⟨none, 0, h1, fun h => absurd h (Nat.lt_irrefl 0), rfl⟩
    · have hg := hh.2 g (by rw [h1]; rfl)
      subst hg
      exact ⟨_, cap, h1, fun _ => rfl, rfl⟩
  · cases hn
theorem lenx_run {P : Program} {cx : Cx} {st : St} {e : Env} {s : Hp} {a : Act} {w0 : World} (hs : Sat1 cx st e s a w0) {t ty : TypeId} {x : SV} {vx : Value} {k : SV → Prop} (hx : x.is e vx) (h : lenx (eqy P t) st.th x k) :
    ∃ z v, k z ∧ z.is e v ∧ ∀ w, (Builtin.len_ #[t] ty #[vx]).run P w = .ok v w := by
  unfold lenx at h
  split at h
  · rename_i s ht
    simp only [is_v] at hx
    subst hx
    exact ⟨_, _, h, is_v.2 rfl, fun w => by simp [Builtin.len_, run_underlying (eqy_str ht), goInt]⟩
  · rename_i _ _ a n c ht
    simp only [is_v] at hx
    subst hx
    obtain ⟨u, hu, hq⟩ := eqy_slice ht
    exact ⟨_, _, h, is_v.2 rfl, fun w => by simp [Builtin.len_, run_underlying hu, goInt]⟩
  · rename_i _ _ r ht
    obtain ⟨y, hy, hk⟩ := ox_spec h
    rw [Option.map_eq_some_iff] at hy
    obtain ⟨n, hn, rfl⟩ := hy
    obtain ⟨b, c, rfl, _⟩ := hs.rowIs hx hn
    obtain ⟨u, hu, hq⟩ := eqy_slice ht
    exact ⟨_, _, hk, is_v.2 rfl, fun w => by simp [Builtin.len_, run_underlying hu, goInt]⟩
  · rename_i n _ _ _ ht
    obtain ⟨u, hu, hq⟩ := eqy_array ht
    refine ⟨_, _, h, is_v.2 rfl, fun w => ?_⟩
    simp only [Builtin.len_]
    simp [run_underlying hu, goInt]
  · exact h.elim
theorem maxx_run {P : Program} {e : Env} {ts : Array TypeId} {ty : TypeId} {x y : SV} {vx vy : Value} {k : SV → Prop} (hx : x.is e vx) (hy : y.is e vy) (h : maxx x y k) :
    ∃ z v, k z ∧ z.is e v ∧ ∀ w, (Builtin.max_ ts ty #[vx, vy]).run P w = .ok v w := by
  unfold maxx at h
  split at h
  · rename_i i a j b
    simp only [is_v] at hx hy
    subst hx; subst hy
    obtain ⟨rfl, h⟩ := h
    refine ⟨_, _, h, is_v.2 rfl, fun w => ?_⟩
    simp [Builtin.max_, Builtin.max2]
    omega
  · exact h.elim
theorem minx_run {P : Program} {e : Env} {ts : Array TypeId} {ty : TypeId} {x y : SV} {vx vy : Value} {k : SV → Prop} (hx : x.is e vx) (hy : y.is e vy) (h : minx x y k) :
    ∃ z v, k z ∧ z.is e v ∧ ∀ w, (Builtin.min_ ts ty #[vx, vy]).run P w = .ok v w := by
  unfold minx at h
  split at h
  · rename_i i a j b
    simp only [is_v] at hx hy
    subst hx; subst hy
    obtain ⟨rfl, h⟩ := h
    refine ⟨_, _, h, is_v.2 rfl, fun w => ?_⟩
    simp [Builtin.min_, Builtin.min2]
    omega
  · exact h.elim
theorem slx_run {P : Program} {e : Env} {t : TypeId} {x : SV} {vx : Value} {lo hi : Option SV} {vlo vhi : Option Value} {k : SV → Prop} (hx : x.is e vx)
    (hlo : match lo, vlo with | none, none => True | some l, some v => l.is e v | _, _ => False) (hhi : match hi, vhi with | none, none => True | some l, some v => l.is e v | _, _ => False) (h : slx (eqy P t) x lo hi k) :
    ∃ z v, k z ∧ z.is e v ∧ ∀ w, (Instr.sliceAt t vx vlo vhi none).run P w = .ok v w := by
  unfold slx at h
  split at h
  · rename_i s ih hh ht
    simp only [is_v] at hx
    subst hx
    cases vlo <;> simp only at hlo
    cases vhi <;> simp only [is_v] at hhi
    subst hhi
    obtain ⟨⟨h1, h2⟩, h3⟩ := h
    refine ⟨_, _, h3, is_v.2 rfl, fun w => ?_⟩
    simp [Instr.sliceAt, Instr.slice, run_underlying (eqy_str ht), Instr.sliceBounds, Instr.sliceBound, asIntOf, h1, h2]
  · rename_i s il l ht
    simp only [is_v] at hx
    subst hx
    cases vhi <;> simp only at hhi
    cases vlo <;> simp only [is_v] at hlo
    subst hlo
    obtain ⟨⟨h1, h2⟩, h3⟩ := h
    refine ⟨_, _, h3, is_v.2 rfl, fun w => ?_⟩
    simp [Instr.sliceAt, Instr.slice, run_underlying (eqy_str ht), Instr.sliceBounds, Instr.sliceBound, asIntOf, h1, h2]
  · rename_i s il l ih hh ht
    simp only [is_v] at hx
    subst hx
    cases vhi <;> simp only [is_v] at hhi
    cases vlo <;> simp only [is_v] at hlo
    subst hlo; subst hhi
    obtain ⟨⟨h1, h2, h4⟩, h3⟩ := h
    refine ⟨_, _, h3, is_v.2 rfl, fun w => ?_⟩
    have h5 : 0 ≤ hh := by omega
    have h6 : l ≤ (hh.toNat : Int) := by omega
    have h7 : ¬ max hh 0 < l := by omega
    simp [Instr.sliceAt, Instr.slice, run_underlying (eqy_str ht), Instr.sliceBounds, Instr.sliceBound, asIntOf, h1, h5, h4, h6]
    exact fun h => absurd h h7
  · rename_i aa z a n c ih hh ht
    obtain ⟨u, hu, hq⟩ := eqy_slice ht
    simp only [is_v] at hx
    subst hx
    cases vlo <;> simp only at hlo
    cases vhi <;> simp only [is_v] at hhi
    subst hhi
    obtain ⟨⟨h1, h2⟩, h3⟩ := h
    refine ⟨_, _, h3, is_v.2 rfl, fun w => ?_⟩
    simp [Instr.sliceAt, Instr.slice, run_underlying hu, Instr.sliceBounds, Instr.sliceBound, asIntOf, h1, h2, tqs_run hq, slA]
  · rename_i aa z a n c il l ht
    obtain ⟨u, hu, hq⟩ := eqy_slice ht
    simp only [is_v] at hx
    subst hx
    cases vhi <;> simp only at hhi
    cases vlo <;> simp only [is_v] at hlo
    subst hlo
    obtain ⟨⟨h1, h2⟩, h3⟩ := h
    refine ⟨_, _, h3, is_v.2 rfl, fun w => ?_⟩
    simp [Instr.sliceAt, Instr.slice, run_underlying hu, Instr.sliceBounds, Instr.sliceBound, asIntOf, h1, h2, tqs_run hq, slA]
  · rename_i aa z a n c il l ih hh ht
    obtain ⟨u, hu, hq⟩ := eqy_slice ht
    simp only [is_v] at hx
    subst hx
    cases vhi <;> simp only [is_v] at hhi
    cases vlo <;> simp only [is_v] at hlo
    subst hlo; subst hhi
    obtain ⟨⟨h1, h2, h4⟩, h3⟩ := h
    refine ⟨_, _, h3, is_v.2 rfl, fun w => ?_⟩
    have h5 : 0 ≤ hh := by omega
    have h7 : ¬ max hh 0 < l := by omega
    simp [Instr.sliceAt, Instr.slice, run_underlying hu, Instr.sliceBounds, Instr.sliceBound, asIntOf, h1, h5, h4, tqs_run hq, slA]
    exact fun h => absurd h h7
  · exact h.elim
theorem fax_run {P : Program} {e : Env} {t : TypeId} {x : SV} {f : Nat} {vx : Value} {k : SV → Prop} (hx : x.is e vx) (h : fax (fq P t f) x k) :
    ∃ z v, k z ∧ z.is e v ∧ ∀ w, (Instr.fieldAt t vx f).run P w = .ok v w := by
  have key : ∀ (off n : Nat) (aa : Bool) (hq : fq P t f = some (off, aa, n)) (hne : n ≠ 0) (ad : Addr) (w : World), (Instr.fieldAt t (.pointer (some ad)) f).run P w = .ok (.pointer (some (ad.add off))) w := by
    intro off n aa hq hne ad w
    obtain ⟨fa, fl, h1, h2, rfl, h4⟩ := fq_spec hq
    simp [Instr.fieldAt, run_underlying h1, h2, Instr.sureAddr, fieldPlace, tqs_run h4, hne]
  unfold fax at h
  split at h
  · rename_i off aa n b o hq
    simp only [SV.is] at hx
    subst hx
    refine ⟨_, _, h.2, is_own, fun w => ?_⟩
    rw [key off n aa hq h.1, Addr.add_mid]
  · rename_i off aa n b o hq
    simp only [SV.is] at hx
    obtain ⟨m, c, hr, rfl⟩ := hx
    refine ⟨_, .pointer (some ⟨e.B b, o + off, none⟩), h.2, is_elt hr, fun w => ?_⟩
    rw [key off n aa hq h.1, Addr.add_mid]
  · rename_i off aa n ad hq
    simp only [is_v] at hx
    subst hx
    exact ⟨_, _, h.2, is_v.2 rfl, fun w => key off n aa hq h.1 _ w⟩
  · exact h.elim
theorem iax_run {P : Program} {cx : Cx} {st : St} {e : Env} {s : Hp} {a : Act} {w0 : World} (hs : Sat1 cx st e s a w0) {t : TypeId} {x i : SV} {vx vi : Value} {k : SV → Prop} (hx : x.is e vx) (hi : i.is e vi) (h : iax (eqy P t) st.F st.th x i k) :
    ∃ z v, k z ∧ z.is e v ∧ ∀ w, (Instr.indexAt t vx vi).run P w = .ok v w := by
  unfold iax at h
  split at h
  · rename_i aa z ad n c ik j ht
    simp only [is_v] at hx hi
    subst hx; subst hi
    obtain ⟨u, hu, hq⟩ := eqy_slice ht
    obtain ⟨⟨h1, h2⟩, h3, h4⟩ := h
    have hsome := h3 s hs.fact
    cases ad with
    | none => cases hsome
    | some ad =>
      refine ⟨_, _, h4, is_v.2 rfl, fun w => ?_⟩
      simp [Instr.indexAt, asIntOf, run_underlying hu, h1, h2, tqs_run hq]
  · rename_i aa z r ik j ht
    simp only [is_v] at hi
    subst hi
    obtain ⟨u, hu, hq⟩ := eqy_slice ht
    obtain ⟨y, hy, hk⟩ := ox_spec h
    rw [Option.map_eq_some_iff] at hy
    obtain ⟨n, hn, rfl⟩ := hy
    obtain ⟨⟨h1, h2⟩, h4⟩ := hk
    simp only at h2 h4
    obtain ⟨b, c, rfl, hb, hr⟩ := hs.rowIs hx hn
    have hb := hb (by omega)
    subst hb
    refine ⟨_, .pointer (some ⟨e.B r, j.toNat * z, none⟩), h4, is_elt hr.symm, fun w => ?_⟩
    simp [Instr.indexAt, asIntOf, run_underlying hu, h1, h2, tqs_run hq, Addr.add_mid]
  · rename_i len aa z b o ik j ht
    simp only [SV.is, is_v] at hx hi
    subst hx; subst hi
    obtain ⟨u, hu, hq⟩ := eqy_array ht
    obtain ⟨⟨h1, h2⟩, h4⟩ := h
    refine ⟨_, _, h4, is_own, fun w => ?_⟩
    simp [Instr.indexAt, asIntOf, run_underlying hu, h1, h2, tqs_run hq, Addr.add_mid, Instr.sureAddr]
  · rename_i len aa z b o ik j ht
    simp only [SV.is, is_v] at hx hi
    obtain ⟨n, c, hr, rfl⟩ := hx
    subst hi
    obtain ⟨u, hu, hq⟩ := eqy_array ht
    obtain ⟨⟨h1, h2⟩, h4⟩ := h
    refine ⟨_, .pointer (some ⟨e.B b, o + j.toNat * z, none⟩), h4, is_elt hr, fun w => ?_⟩
    simp [Instr.indexAt, asIntOf, run_underlying hu, h1, h2, tqs_run hq, Addr.add_mid, Instr.sureAddr]
  · exact h.elim
theorem mix_run {P : Program} {e : Env} {t : TypeId} {x : SV} {vx : Value} {k : SV → Prop} (hx : x.is e vx) (h : mix (kq P t) t x k) :
    ∃ z v, k z ∧ z.is e v ∧ ∀ w, (Instr.makeInterface t vx).run P w = .ok v w := by
  unfold mix at h
  split at h
  · exact h.elim
  · exact h.elim
  · rename_i y hi hb
    simp only [is_v] at hx
    subst hx
    obtain ⟨d, hd, hn⟩ := kq_good (t := t) hb
    have hn := hn hi
    refine ⟨_, _, h, is_v.2 rfl, fun w => ?_⟩
    simp only [Instr.makeInterface, Sem.run_bind, run_underlying hd, Result.andThen_ok]
    cases d <;> first | rfl | exact absurd rfl (hn _)
  · exact h.elim
theorem tax_run {P : Program} {e : Env} {x : SV} {xt t : TypeId} {ok : Bool} {vx : Value} {k : SV → Prop} (hx : x.is e vx) (h : tax (kq P t) x t ok k) :
    ∃ z v, k z ∧ z.is e v ∧ ∀ w, (Instr.typeAssert vx xt t ok).run P w = .ok v w := by
  unfold tax at h
  split at h
  · exact h.elim
  · exact h.elim
  · rename_i u y hi hb
    simp only [is_v] at hx
    subst hx
    obtain ⟨d, hd, hn⟩ := kq_good (t := t) hb
    have hn := hn hi
    obtain ⟨rfl, h⟩ := h
    cases ok with
    | true =>
      refine ⟨_, .tuple #[y, .bool true], h, by simp [SV.is, SV.isL], fun w => ?_⟩
      simp only [Instr.typeAssert, Sem.run_bind, run_underlying hd, Result.andThen_ok]
      cases d <;> first | (simp; done) | exact absurd rfl (hn _)
    | false =>
      refine ⟨_, y, h, by simp [SV.is], fun w => ?_⟩
      simp only [Instr.typeAssert, Sem.run_bind, run_underlying hd, Result.andThen_ok]
      cases d <;> first | (simp; done) | exact absurd rfl (hn _)
  · exact h.elim
end Go.Proofs.YtmamodnpghlgcaaDoor
/- Operations on memory of the state's own: new boxes, loads, stores. -/
set_option linter.unusedVariables false
set_option linter.unusedSimpArgs false
namespace Go.Proofs.YtmamodnpghlgcaaDoor
open Go.RowKit

/-! ### A key that nothing mentions -/
mutual
def SV.nm (q : Key) : SV → Prop
  | .v _ => True
  | .own k _ => k ≠ q
  | .row k => k ≠ q
  | .elt k _ => k ≠ q
  | .mp k => k ≠ q
  | .clo _ l => SV.nmL q l
  | .agg l => SV.nmL q l
  | .tup l => SV.nmL q l
  | .any => True
def SV.nmL (q : Key) : List SV → Prop
  | [] => True
  | x :: l => SV.nm q x ∧ SV.nmL q l
end
theorem SV.nmL_map (q : Key) (l : List Value) : SV.nmL q (l.map .v) = True := by
  induction l with
  | nil => simp [SV.nmL]
  | cons x l ih => simp [SV.nmL, SV.nm, ih]
def nmA (q : Key) : List (Nat × SV) → Prop
  | [] => True
  | (_, x) :: l => x.nm q ∧ nmA q l
def nmB (q : Key) : List (Key × Thing) → Prop
  | [] => True
  | (_, .box cs _) :: l => SV.nmL q cs ∧ nmB q l
  | (_, .row _ _ _ _) :: l => nmB q l
  | (_, .mp _ _) :: l => nmB q l
theorem nmA_spec {q : Key} : ∀ {l : List (Nat × SV)}, nmA q l → ∀ i x, fd l i = some x → x.nm q
  | [], _, i, x, h => by simp [fd] at h
  | (j, y) :: l, h, i, x, hx => by
    simp only [nmA] at h
    simp only [fd] at hx
    split at hx
    · obtain rfl := Option.some.inj hx; exact h.1
    · exact nmA_spec h.2 i x hx
theorem nmB_spec {q : Key} : ∀ {l : List (Key × Thing)}, nmB q l → ∀ k cs t, fd l k = some (.box cs t) → SV.nmL q cs
  | [], _, k, cs, t, h => by simp [fd] at h
  | (j, .box cs' t') :: l, h, k, cs, t, hx => by
    simp only [nmB] at h
    simp only [fd] at hx
    split at hx
    · simp only [Option.some.injEq, Thing.box.injEq] at hx
      rw [← hx.1]; exact h.1
    · exact nmB_spec h.2 k cs t hx
  | (j, .row _ _ _ _) :: l, h, k, cs, t, hx => by
    simp only [nmB] at h
    simp only [fd] at hx
    split at hx
    · simp at hx
    · exact nmB_spec h k cs t hx
  | (j, .mp _ _) :: l, h, k, cs, t, hx => by
    simp only [nmB] at h
    simp only [fd] at hx
    split at hx
    · simp at hx
    · exact nmB_spec h k cs t hx

/-- The environment, turned at one key. -/
def Env.set (e : Env) (q : Key) (b : Nat) (r : Value) : Env := ⟨fun k => if k = q then b else e.B k, fun k => if k = q then r else e.R k⟩
theorem Env.set_B (e : Env) (q : Key) (b : Nat) (r : Value) : (e.set q b r).B q = b := by simp [Env.set]
theorem Env.set_R (e : Env) (q : Key) (b : Nat) (r : Value) : (e.set q b r).R q = r := by simp [Env.set]
theorem Env.set_B' (e : Env) {q k : Key} (b : Nat) (r : Value) (h : k ≠ q) : (e.set q b r).B k = e.B k := by simp [Env.set, h]
theorem Env.set_R' (e : Env) {q k : Key} (b : Nat) (r : Value) (h : k ≠ q) : (e.set q b r).R k = e.R k := by simp [Env.set, h]
mutual
theorem SV.is_set (e : Env) (q : Key) (b : Nat) (r : Value) : ∀ (x : SV) (y : Value), x.nm q → x.is e y → x.is (e.set q b r) y
  | .v x, y, _, h => by simpa [SV.is] using h
  | .own k o, y, hk, h => by
    simp only [SV.nm] at hk
    simp only [SV.is] at h ⊢
    rw [Env.set_B' e b r hk]; exact h
  | .row k, y, hk, h => by
    simp only [SV.nm] at hk
    simp only [SV.is] at h ⊢
    rw [Env.set_R' e b r hk]; exact h
  | .elt k o, y, hk, h => by
    simp only [SV.nm] at hk
    simp only [SV.is] at h ⊢
    rw [Env.set_R' e b r hk, Env.set_B' e b r hk]; exact h
  | .mp k, y, hk, h => by
    simp only [SV.nm] at hk
    simp only [SV.is] at h ⊢
    rw [Env.set_B' e b r hk]; exact h
  | .clo f l, y, hk, h => by
    simp only [SV.nm] at hk
    simp only [SV.is] at h ⊢
    obtain ⟨ys, h1, h2⟩ := h
    exact ⟨ys, h1, SV.isL_set e q b r l _ hk h2⟩
  | .agg l, y, hk, h => by
    simp only [SV.nm] at hk
    simp only [SV.is] at h ⊢
    obtain ⟨ys, h1, h2⟩ := h
    exact ⟨ys, h1, SV.isL_set e q b r l _ hk h2⟩
  | .tup l, y, hk, h => by
    simp only [SV.nm] at hk
    simp only [SV.is] at h ⊢
    obtain ⟨ys, h1, h2⟩ := h
    exact ⟨ys, h1, SV.isL_set e q b r l _ hk h2⟩
  | .any, y, _, _ => by simp [SV.is]
theorem SV.isL_set (e : Env) (q : Key) (b : Nat) (r : Value) : ∀ (l : List SV) (ys : List Value), SV.nmL q l → SV.isL e l ys → SV.isL (e.set q b r) l ys
  | [], ys, _, h => by simpa [SV.isL] using h
  | x :: l, ys, hk, h => by
    simp only [SV.nmL] at hk
    simp only [SV.isL] at h ⊢
    obtain ⟨y, ys', h1, h2, h3⟩ := h
    exact ⟨y, ys', h1, SV.is_set e q b r x y hk.1 h2, SV.isL_set e q b r l ys' hk.2 h3⟩
end

theorem Thing.holds_set {e : Env} {q k : Key} {b : Nat} {r : Value} {w : World} {t : Thing} (hk : k ≠ q) (hn : ∀ cs ty, t = .box cs ty → SV.nmL q cs) (h : t.holds e k w) : t.holds (e.set q b r) k w := by
  cases t with
  | box cs ty =>
    obtain ⟨ys, hy, hl⟩ := h
    exact ⟨ys, by rw [Env.set_B' e b r hk]; exact hy, SV.isL_set e q b r cs _ (hn _ _ rfl) hl⟩
  | row ty s n xs => simp only [Thing.holds] at h ⊢; rw [Env.set_B' e b r hk, Env.set_R' e b r hk]; exact h
  | mp es c => simp only [Thing.holds] at h ⊢; rw [Env.set_B' e b r hk]; exact h
theorem Thing.blk_set {e : Env} {q k : Key} {b : Nat} {r : Value} {t : Thing} (hk : k ≠ q) : t.blk (e.set q b r) k = t.blk e k := by
  cases t <;> simp [Thing.blk, Env.set_B' e b r hk, Env.set_R' e b r hk]

/-- A thing that is new, or turned: at a key that nothing else mentions. -/
theorem Own.put {e : Env} {s : Hp} {th : List (Key × Thing)} {w w' : World} (h : Own e s th w) (q : Key) (b : Nat) (r : Value) (t : Thing)
    (hn : ∀ k cs ty, k ≠ q → fd th k = some (.box cs ty) → SV.nmL q cs)
    (ht : t.holds (e.set q b r) q w')
    (hb : ∀ k u g, k ≠ q → fd th k = some u → u.blk e k = some g → w'.heap[g]? = w.heap[g]? ∧ t.blk (e.set q b r) q ≠ some g)
    (hf : ∀ g, t.blk (e.set q b r) q = some g → ¬ s.has g) : Own (e.set q b r) s (up th q t) w' := by
  refine ⟨fun k u hu => ?_, fun k k' u u' g hu hu' hg hg' => ?_, fun k u g hu hg => ?_⟩
  · rw [fd_up] at hu
    split at hu
    · rename_i hq
      subst hq
      obtain rfl := Option.some.inj hu
      exact ht
    · rename_i hq
      exact Thing.holds_set (Ne.symm hq) (fun cs ty e' => hn k cs ty (Ne.symm hq) (e' ▸ hu)) (Thing.holds_block (h.holds k u hu) fun g hg => (hb k u g (Ne.symm hq) hu hg).1)
  · rw [fd_up] at hu hu'
    split at hu <;> split at hu'
    · rename_i h1 h2; rw [← h1, ← h2]
    · rename_i h1 h2
      subst h1
      obtain rfl := Option.some.inj hu
      rw [Thing.blk_set (Ne.symm h2)] at hg'
      exact absurd hg (hb k' u' g (Ne.symm h2) hu' hg').2
    · rename_i h1 h2
      subst h2
      obtain rfl := Option.some.inj hu'
      rw [Thing.blk_set (Ne.symm h1)] at hg
      exact absurd hg' (hb k u g (Ne.symm h1) hu hg).2
    · rename_i h1 h2
      rw [Thing.blk_set (Ne.symm h1)] at hg
      rw [Thing.blk_set (Ne.symm h2)] at hg'
      exact h.apart k k' u u' g hu hu' hg hg'
  · rw [fd_up] at hu
    split at hu
    · rename_i h1
      subst h1
      obtain rfl := Option.some.inj hu
      exact hf g hg
    · rename_i h1
      rw [Thing.blk_set (Ne.symm h1)] at hg
      exact h.free k u g hu hg
theorem Env.set_self (e : Env) (q : Key) : e.set q (e.B q) (e.R q) = e := by
  unfold Env.set
  congr 1 <;> funext k <;> by_cases h : k = q <;> simp [h]
/-- A thing that is turned in place. -/
theorem Own.turn {e : Env} {s : Hp} {th : List (Key × Thing)} {w w' : World} (h : Own e s th w) (q : Key) {t0 t : Thing} (h0 : fd th q = some t0) (ht : t.holds e q w')
    (hbl : t.blk e q = t0.blk e q) (hb : ∀ k u g, k ≠ q → fd th k = some u → u.blk e k = some g → w'.heap[g]? = w.heap[g]?) : Own e s (up th q t) w' := by
  refine ⟨fun k u hu => ?_, fun k k' u u' g hu hu' hg hg' => ?_, fun k u g hu hg => ?_⟩
  · rw [fd_up] at hu
    split at hu
    · rename_i hq
      subst hq
      obtain rfl := Option.some.inj hu
      exact ht
    · rename_i hq
      exact Thing.holds_block (h.holds k u hu) fun g hg => hb k u g (Ne.symm hq) hu hg
  · rw [fd_up] at hu hu'
    split at hu <;> split at hu'
    · rename_i h1 h2; rw [← h1, ← h2]
    · rename_i h1 h2
      subst h1
      obtain rfl := Option.some.inj hu
      rw [hbl] at hg
      exact h.apart _ _ _ _ g h0 hu' hg hg'
    · rename_i h1 h2
      subst h2
      obtain rfl := Option.some.inj hu'
      rw [hbl] at hg'
      exact h.apart _ _ _ _ g hu h0 hg hg'
    · exact h.apart k k' u u' g hu hu' hg hg'
  · rw [fd_up] at hu
    split at hu
    · rename_i h1
      subst h1
      obtain rfl := Option.some.inj hu
      rw [hbl] at hg
      exact h.free _ _ g h0 hg
    · exact h.free k u g hu hg

/-! ### The state behind a new block -/
theorem Hp.inw_of {s : Hp} {w w' : World} (h : s.inw w) (hb : ∀ g, s.has g → w'.heap[g]? = w.heap[g]?) : s.inw w' := by
  refine ⟨fun b o v hv => ?_, fun b m hm => ?_, fun b o ho => ?_⟩
  · rw [← h.cell b o v hv]
    exact World.cell?_of_block (hb b (.inl ⟨o, v, hv⟩))
  · rw [hb b (.inr (.inl ⟨m, hm⟩))]; exact h.mp b m hm
  · rw [hb b (.inr (.inr ⟨o, ho⟩))]; exact h.ob b o ho

theorem Sat1.newThing {cx : Cx} {st : St} {e : Env} {s : Hp} {a : Act} {w : World} (h : Sat1 cx st e s a w) {q : Key} (hq : fd st.th q = none) (hA : nmA q st.tm) (hB : nmB q st.th) (hbor : ∀ n, q ≠ .b n)
    (o : Obj) (t : Thing) (r : Value) (ht : t.holds (e.set q w.heap.size r) q (w.alloc o)) (hbl : ∀ g, t.blk (e.set q w.heap.size r) q = some g → g = w.heap.size) :
    Sat1 cx { st with th := up st.th q t } (e.set q w.heap.size r) s a (w.alloc o) := by
  have hold : ∀ g, g < w.heap.size → (w.alloc o).heap[g]? = w.heap[g]? := fun g hg => Below.heap_alloc w o g hg
  refine { size := h.size, ntB := h.ntB, nodef := h.nodef, tm := ?_, own := ?_, fresh := ?_, inw := ?_, ge := h.ge, new := h.new, fact := h.fact, os := h.os, tape := h.tape, output := h.output, grow := ?_, frame := ?_, borB := ?_, bnB := fun n => by rw [Env.set_B' e _ _ (Ne.symm (hbor n))]; exact h.bnB n }
  · intro i x hx
    exact SV.is_set e q _ _ x _ (nmA_spec hA i x hx) (h.tm i x hx)
  · refine h.own.put q _ _ t (fun k cs ty _ hk => nmB_spec hB k cs ty hk) ht (fun k u g hk hu hg => ?_) (fun g hg => ?_)
    · have hlt := Thing.blk_lt (h.own.holds k u hu) hg
      refine ⟨hold g hlt, fun hc => ?_⟩
      have := hbl g hc
      omega
    · have := hbl g hg
      subst this
      intro hs
      exact Nat.lt_irrefl _ (Hp.has_lt h.inw hs)
  · intro k u g hu hg
    rw [fd_up] at hu
    split at hu
    · rename_i h1
      subst h1
      obtain rfl := Option.some.inj hu
      have := hbl g hg
      subst this
      exact .inl h.grow
    · rename_i h1
      rw [Thing.blk_set (Ne.symm h1)] at hg
      exact h.fresh k u g hu hg
  · exact Hp.inw_of h.inw fun g hg => hold g (Hp.has_lt h.inw hg)
  · simp only [World.size_alloc]; exact Nat.le_succ_of_le h.grow
  · intro g hg hb
    rw [hold g (Nat.lt_of_lt_of_le hg h.grow)]
    exact h.frame g hg hb
  · intro k g hk
    rw [Env.set_B' e _ _ (Ne.symm (hbor k))]
    exact h.borB k g hk
end Go.Proofs.YtmamodnpghlgcaaDoor
/- Every operation, as a function of the state; and that it does so. -/
set_option linter.unusedVariables false
set_option linter.unusedSimpArgs false
namespace Go.Proofs.YtmamodnpghlgcaaDoor
open Go.RowKit

/-! ### What an operation is to be -/
def Abort (cx : Cx) (Qp : Value → St → Prop) : Exit → Act → World → Prop
  | .panic c, a, w => ∃ v st, c = [{ v := v, recovered := false }] ∧ Qp v st ∧ Sat cx st a w
  | .outgrown, _, _ => False
  | _, _, _ => False
def Then (cx : Cx) (k : SV → St → Prop) (d : Option Tmp) (a : Act) (w : World) : Prop := ∃ x st e s v a0, k x st ∧ Sat1 cx st e s a0 w ∧ x.is e v ∧ a = a0.put d v
/-- One operation, as a machine of any kind takes it: calls of a loop's yield too. -/
def wpr (P : Program) (o : Oper) (a : Act) (w : World) (next : Act → World → Prop) (Q : Exit → Act → World → Prop) : Prop := o.wpIn Fence.wide 0 P a w next Q
theorem wide_no : ¬ (Fence.wide.depth.isSome = true) := by simp [Fence.wide]
theorem rowsIn_wide {n : Nat} {P : Program} {row : String} {args : Array Value} {w : World} {R : Value → World → Prop} (h : Rows P row args w R) : RowsIn Fence.wide n P row args w R :=
  fun c cs _ => let ⟨v, w', hr, hs⟩ := h c cs; ⟨v, w', hr, stepsIn_wide.2 hs⟩
theorem wpr_of_wp {P : Program} {o : Oper} {a : Act} {w : World} {next : Act → World → Prop} {Q : Exit → Act → World → Prop} (h : o.wp P a w next Q) : wpr P o a w next Q := by
  refine ⟨fun _ _ => trivial, ?_⟩
  show o.uponIn Fence.wide 0 P a next Q ((execOp a.eval o).run P w)
  unfold Oper.wp at h
  generalize (execOp a.eval o).run P w = r at *
  cases r with
  | ok n w' =>
    cases n <;> simp only [Oper.upon, Oper.uponIn] at h ⊢ <;>
      first
        | exact h
        | exact ⟨fun h => absurd h wide_no, callsIn_wide.2 h⟩
        | exact ⟨fun h => absurd h wide_no, rowsIn_wide h⟩
        | exact h.elim
  | halt x w' => cases x <;> simp only [Oper.upon, Oper.uponIn] at h ⊢ <;> first | exact h | exact h.elim
theorem wpr_run {P : Program} {o : Oper} {a : Act} {w : World} {next : Act → World → Prop} {Q : Exit → Act → World → Prop} (h : o.uponIn Fence.wide 0 P a next Q ((execOp a.eval o).run P w)) : wpr P o a w next Q := ⟨fun _ _ => trivial, h⟩
def OpOK (P : Program) (cx : Cx) (o : Oper) (st : St) (k : SV → St → Prop) (Qp : Value → St → Prop) : Prop :=
  ∀ e s a w, Sat1 cx st e s a w → wpr P o a w (Then cx k o.dst) (Abort cx Qp)

theorem opOK_val {P : Program} {cx : Cx} {o : Oper} {st : St} {k : SV → St → Prop} {Qp : Value → St → Prop}
    (h : ∀ e s a w, Sat1 cx st e s a w → ∃ x v st' e' s' w', k x st' ∧ x.is e' v ∧ Sat1 cx st' e' s' a w' ∧ (execOp a.eval o).run P w = .ok (.value v) w') : OpOK P cx o st k Qp := by
  intro e s a w hs
  obtain ⟨x, v, st', e', s', w', h1, h2, h3, h4⟩ := h e s a w hs
  refine wpr_of_wp ?_
  unfold Oper.wp
  rw [h4, Oper.upon_value]
  exact ⟨x, st', e', s', v, a, h1, h3, h2, rfl⟩
theorem opOK_pure {P : Program} {cx : Cx} {o : Oper} {st : St} {k : SV → St → Prop} {Qp : Value → St → Prop}
    (h : ∀ e s a w, Sat1 cx st e s a w → ∃ x v, k x st ∧ x.is e v ∧ (execOp a.eval o).run P w = .ok (.value v) w) : OpOK P cx o st k Qp :=
  opOK_val fun e s a w hs => let ⟨x, v, h1, h2, h3⟩ := h e s a w hs; ⟨x, v, st, e, s, w, h1, h2, hs, h3⟩
theorem opOK_skip {P : Program} {cx : Cx} {o : Oper} {st : St} {k : SV → St → Prop} {Qp : Value → St → Prop}
    (h : ∀ e s a w, Sat1 cx st e s a w → ∃ st' e' s' w', k .any st' ∧ Sat1 cx st' e' s' a w' ∧ (execOp a.eval o).run P w = .ok .skip w') : OpOK P cx o st k Qp := by
  intro e s a w hs
  obtain ⟨st', e', s', w', h1, h3, h4⟩ := h e s a w hs
  refine wpr_of_wp ?_
  unfold Oper.wp
  rw [h4, Oper.upon_skip]
  exact ⟨.any, st', e', s', undef, a, h1, h3, by simp [SV.is], rfl⟩

/-! ### Loads and stores -/
def boxC (th : List (Key × Thing)) (b : Key) : Option (List SV) := match fd th b with | some (.box cs _) => some cs | _ => none
def rowX (th : List (Key × Thing)) (r : Key) : Option (List SV) := match fd th r with | some (.row _ _ _ xs) => some (xs.map .v) | _ => none
def atA (s : Hp) (ad : Addr) (cs : List Value) : Prop := ad.spot = none ∧ ∀ j v, cs[j]? = some v → s.cell ad.block (ad.off + j) = some v
/-- A load out of what never turns: to be passed by what is known of it. -/
def loadF (q : Option (Bool × Nat)) (F : Fact) (ad : Addr) (k : SV → Prop) : Prop :=
  match q with
  | some (true, n) => ∃ cs : List Value, cs.length = n ∧ (∀ s, F.p s → atA s ad cs) ∧ k (.v (.agg cs.toArray))
  | some (false, _) => ∃ c, (∀ s, F.p s → atA s ad [c]) ∧ k (.v c)
  | none => False
def ldK (q : Option (Bool × Nat)) (o : Nat) (k : SV → Prop) (cs : List SV) : Prop := partx q cs o k
def loadx (q : Option (Bool × Nat)) (st : St) (x : SV) (k : SV → Prop) : Prop :=
  match x with
  | .own b o => ox (boxC st.th b) (ldK q o k)
  | .elt r o => ox (rowX st.th r) (ldK q o k)
  | .v (.pointer (some ad)) => loadF q st.F ad k
  | _ => False

theorem cell_box {w : World} {b : Nat} {ys : Array Value} {t : TypeId} {fr : Nat × Nat} (h : w.heap[b]? = some (.cells ys t fr)) (j : Nat) : w.cell? ⟨b, j, none⟩ = ys[j]? := by simp [World.cell?, h]
theorem run_loadC {P : Program} {w : World} {b : Nat} {ys : Array Value} {bt : TypeId} {fr : Nat × Nat} (hb : w.heap[b]? = some (.cells ys bt fr)) {e : Env} {cs : List SV} (hl : SV.isL e cs ys.toList)
    {t : TypeId} {o : Nat} {k : SV → Prop} (h : partx (tq P t) cs o k) : ∃ z v, k z ∧ z.is e v ∧ (Instr.loadAt t (.pointer (some ⟨b, o, none⟩))).run P w = .ok v w := by
  unfold partx at h
  split at h
  · rename_i n hq
    obtain ⟨h1, h2⟩ := h
    have hlen := SV.isL_length hl
    refine ⟨_, .agg (ys.toList.drop o |>.take n).toArray, h2, mkAgg_is (by simpa using SV.isL_take n (SV.isL_drop o hl)), ?_⟩
    have hcs : w.rangeAt b o ((ys.toList.drop o).take n) := by
      intro j v hv
      rw [cell_box hb]
      rw [List.getElem?_take] at hv
      split at hv
      · rw [List.getElem?_drop, Array.getElem?_toList] at hv; exact hv
      · cases hv
    have hl2 : (loadCells ⟨b, o, none⟩ ((ys.toList.drop o).take n).length).run P w = .ok ((ys.toList.drop o).take n).toArray w :=
      run_loadCells_list (P := P) w ⟨b, o, none⟩ _ (fun j v hv => by rw [Addr.add_mid]; exact hcs j v hv)
    have hl3 : ((ys.toList.drop o).take n).length = n := by simp at hlen h1 ⊢; omega
    rw [hl3] at hl2
    simp only [Instr.loadAt, Instr.sureAddr, loadVar, Sem.run_bind, Sem.run_pure, Result.andThen_ok, tqa_run hq, tqs_run hq, if_true, hl2]
  · rename_i n hq
    obtain ⟨y, hy, hk⟩ := ox_spec h
    rw [idx_eq] at hy
    obtain ⟨v, hv, hi⟩ := SV.isL_get hl o y hy
    rw [Array.getElem?_toList] at hv
    refine ⟨_, v, hk, hi, ?_⟩
    have hc : w.cell? ⟨b, o, none⟩ = some v := by rw [cell_box hb]; exact hv
    simp [Instr.loadAt, Instr.sureAddr, loadVar, tqa_run hq, load, Sem.run, hc]
  · exact h.elim
theorem loadx_run {P : Program} {cx : Cx} {st : St} {e : Env} {s : Hp} {a : Act} {w : World} (hs : Sat1 cx st e s a w) {t : TypeId} {x : SV} {vx : Value} {k : SV → Prop} (hx : x.is e vx) (h : loadx (tq P t) st x k) :
    ∃ z v, k z ∧ z.is e v ∧ (Instr.loadAt t vx).run P w = .ok v w := by
  unfold loadx at h
  split at h
  · rename_i b o
    simp only [SV.is] at hx
    subst hx
    obtain ⟨cs, hc, hk⟩ := ox_spec h
    unfold boxC at hc
    split at hc
    · rename_i cs' bt hf
      obtain rfl := Option.some.inj hc
      obtain ⟨ys, hy, hl⟩ := hs.own.holds _ _ hf
      exact run_loadC hy hl hk
    · cases hc
  · rename_i r o
    simp only [SV.is] at hx
    obtain ⟨n', c', hr, rfl⟩ := hx
    obtain ⟨cs, hc, hk⟩ := ox_spec h
    unfold rowX at hc
    split at hc
    · rename_i t' sz n xs hf
      obtain rfl := Option.some.inj hc
      have hh := hs.own.holds _ _ hf
      rcases hh.1.2 with ⟨h1, h2⟩ | ⟨g, cap, cur, h1, _, hg, _, _, _, htk⟩
      · rw [hr] at h1; cases h1
      · rw [hr] at h1
        simp only [Value.slice.injEq, Option.some.injEq, Addr.mk.injEq] at h1
        obtain ⟨⟨rfl, _⟩, _⟩ := h1
        have hl : SV.isL e (cur.toList.map .v) cur.toList := SV.isL_map _
        refine run_loadC hg hl ?_
        -- what lies in the row's front lies in the whole
        have hxs : xs = cur.toList.take xs.length := by
          rw [← htk]; simp
        unfold ldK partx at hk
        unfold partx
        split
        · rename_i m hq
          rw [hq] at hk
          obtain ⟨h3, h4⟩ := hk
          simp only [List.length_map] at h3
          have hle : xs.length ≤ cur.toList.length := by rw [hxs]; simp only [List.length_take]; exact Nat.min_le_right _ _
          refine ⟨by simp only [List.length_map]; omega, ?_⟩
          have : ((cur.toList.map SV.v).drop o).take m = ((xs.map SV.v).drop o).take m := by
            rw [hxs, List.map_take, List.drop_take, List.take_take, Nat.min_eq_left (by omega)]
          rw [this]; exact h4
        · rename_i m hq
          rw [hq] at hk
          obtain ⟨y, hy, hk⟩ := ox_spec hk
          have : idx (cur.toList.map SV.v) o = some y := by
            rw [idx_eq] at hy ⊢
            rw [hxs] at hy
            rw [List.map_take, List.getElem?_take] at hy
            split at hy
            · exact hy
            · cases hy
          rw [this]; exact hk
        · rename_i hq
          rw [hq] at hk; exact hk.elim
    · cases hc
  · rename_i ad
    simp only [is_v] at hx
    subst hx
    unfold loadF at h
    split at h
    · rename_i n hq
      obtain ⟨cs, h1, h2, h3⟩ := h
      obtain ⟨hsp, hc⟩ := h2 s hs.fact
      refine ⟨_, _, h3, is_v.2 rfl, ?_⟩
      obtain ⟨b, o, sp⟩ := ad
      simp only at hsp hc
      subst hsp
      have hl2 : (loadCells ⟨b, o, none⟩ cs.length).run P w = .ok cs.toArray w :=
        run_loadCells_list (P := P) w ⟨b, o, none⟩ _ (fun j v hv => by rw [Addr.add_mid]; exact hs.inw.cell _ _ _ (hc j v hv))
      rw [h1] at hl2
      simp only [Instr.loadAt, Instr.sureAddr, loadVar, Sem.run_bind, Sem.run_pure, Result.andThen_ok, tqa_run hq, tqs_run hq, if_true, hl2]
    · rename_i n hq
      obtain ⟨c, h2, h3⟩ := h
      obtain ⟨hsp, hc⟩ := h2 s hs.fact
      refine ⟨_, _, h3, is_v.2 rfl, ?_⟩
      obtain ⟨b, o, sp⟩ := ad
      simp only at hsp hc
      subst hsp
      have hc : w.cell? ⟨b, o, none⟩ = some c := hs.inw.cell _ _ _ (by simpa using hc 0 c rfl)
      simp [Instr.loadAt, Instr.sureAddr, loadVar, tqa_run hq, load, Sem.run, hc]
    · exact h.elim
  · exact h.elim

def oneS : SV → Prop
  | .v x => x.oneCell' = true
  | .own _ _ => True
  | .row _ => True
  | .elt _ _ => True
  | .mp _ => True
  | .clo _ _ => True
  | _ => False
def oneL : List SV → Prop
  | [] => True
  | x :: l => oneS x ∧ oneL l
theorem oneS_is {e : Env} {x : SV} {v : Value} (h : oneS x) (hx : x.is e v) : v.oneCell' = true := by
  cases x with
  | v y => simp only [is_v] at hx; subst hx; exact h
  | own k o => simp only [SV.is] at hx; subst hx; rfl
  | row k => simp only [SV.is] at hx; obtain ⟨_, a, n, c, rfl⟩ := hx; rfl
  | elt k o => simp only [SV.is] at hx; obtain ⟨n, c, _, rfl⟩ := hx; rfl
  | mp k => simp only [SV.is] at hx; subst hx; rfl
  | clo f cs => simp only [SV.is] at hx; obtain ⟨ys, rfl, _⟩ := hx; rfl
  | agg l => exact h.elim
  | tup l => exact h.elim
  | any => exact h.elim
theorem oneL_is {e : Env} : ∀ {l : List SV} {ys : List Value}, oneL l → SV.isL e l ys → ∀ y ∈ ys, y.oneCell' = true
  | [], ys, _, h, y, hy => by simp only [SV.isL] at h; subst h; cases hy
  | x :: l, ys, h1, h, y, hy => by
    simp only [SV.isL] at h
    obtain ⟨z, zs, rfl, h2, h3⟩ := h
    simp only [oneL] at h1
    rcases List.mem_cons.1 hy with rfl | hy
    · exact oneS_is h1.1 h2
    · exact oneL_is h1.2 h3 y hy
def repl {A : Type} : List A → Nat → List A → List A
  | cs, _, [] => cs
  | [], _, _ :: _ => []
  | _ :: cs, 0, x :: l => x :: repl cs 0 l
  | c :: cs, n + 1, x :: l => c :: repl cs n (x :: l)
theorem repl_eq {A : Type} : ∀ (cs : List A) (o : Nat) (l : List A), o + l.length ≤ cs.length → repl cs o l = cs.take o ++ l ++ cs.drop (o + l.length)
  | cs, o, [], _ => by cases cs <;> simp [repl]
  | [], o, x :: l, h => by simp at h
  | c :: cs, 0, x :: l, h => by
    simp only [List.length_cons, Nat.zero_add] at h
    have := repl_eq cs 0 l (by omega)
    simp only [repl, this]
    simp
  | c :: cs, n + 1, x :: l, h => by
    simp only [List.length_cons] at h
    have := repl_eq cs n (x :: l) (by simp only [List.length_cons]; omega)
    simp only [repl, this]
    simp only [List.take_succ_cons, List.length_cons, List.cons_append]
    rw [show n + 1 + (l.length + 1) = (n + (l.length + 1)) + 1 from by omega, List.drop_succ_cons]
/-- The cells, some of them turned. -/
def putc {A : Type} (cs : List A) (o : Nat) (l : List A) : List A := if o = 0 ∧ l.length = cs.length then l else repl cs o l
theorem putc_eq {A : Type} (cs : List A) (o : Nat) (l : List A) (h : o + l.length ≤ cs.length) : putc cs o l = cs.take o ++ l ++ cs.drop (o + l.length) := by
  unfold putc
  split
  · rename_i h'
    obtain ⟨rfl, h2⟩ := h'
    simp [h2]
  · exact repl_eq cs o l h
def stB (t : Option Thing) (b : Key) (o : Nat) (l : List SV) (st : St) (k : SV → St → Prop) : Prop :=
  match t with
  | some (.box cs bt) => o + l.length ≤ cs.length ∧ k .any { st with th := up st.th b (.box (putc cs o l) bt) }
  | _ => False
def stR (t : Option Thing) (b : Key) (o : Nat) (l : Option (List Value)) (st : St) (k : SV → St → Prop) : Prop :=
  match t, l with
  | some (.row rt sz n xs), some l => o + l.length ≤ xs.length ∧ k .any { st with th := up st.th b (.row rt sz n (putc xs o l)) }
  | _, _ => False
def stK (n : Nat) (b : Key) (o : Nat) (st : St) (k : SV → St → Prop) (l : List SV) : Prop := (l.length = n ∧ oneL l) ∧ stB (fd st.th b) b o l st k
def stE (n : Nat) (b : Key) (o : Nat) (st : St) (k : SV → St → Prop) (l : List SV) : Prop := (l.length = n ∧ oneL l) ∧ stR (fd st.th b) b o (vals l) st k
def storx (q : Option (Bool × Nat)) (st : St) (x y : SV) (k : SV → St → Prop) : Prop :=
  match q, x with
  | some (_, n), .own b o => ox (cellsOf y) (stK n b o st k)
  | some (_, n), .elt b o => ox (cellsOf y) (stE n b o st k)
  | _, _ => False

/-- A store into a block that a thing has. -/
theorem Sat1.stored {cx : Cx} {st : St} {e : Env} {s : Hp} {a : Act} {w : World} (h : Sat1 cx st e s a w) {q : Key} {t0 t : Thing} (h0 : fd st.th q = some t0) {g : Nat} (hg : t0.blk e q = some g)
    {cur new : Array Value} {ty : TypeId} (hc : w.heap[g]? = some (.cells cur ty (0, 0))) (ht : t.holds e q (w.setRow g new)) (hb : t.blk e q = t0.blk e q) :
    Sat1 cx { st with th := up st.th q t } e s a (w.setRow g new) := by
  have hother : ∀ g', g' ≠ g → (w.setRow g new).heap[g']? = w.heap[g']? := fun g' hne => setRow_other w g g' new hne
  refine { size := h.size, ntB := h.ntB, nodef := h.nodef, tm := h.tm, own := ?_, fresh := ?_, inw := ?_, ge := h.ge, new := h.new, fact := h.fact, os := h.os, tape := h.tape, output := h.output, grow := ?_, frame := ?_, borB := h.borB, bnB := h.bnB }
  · refine h.own.turn q h0 ht hb fun k u g' hk hu hg' => hother g' fun he => ?_
    subst he
    exact hk (h.own.apart k q u t0 g' hu h0 hg' hg)
  · intro k u g' hu hg'
    rw [fd_up] at hu
    split at hu
    · rename_i hq
      subst hq
      obtain rfl := Option.some.inj hu
      rw [hb] at hg'
      exact h.fresh _ _ g' h0 hg'
    · exact h.fresh k u g' hu hg'
  · refine Hp.inw_of h.inw fun g' hs => hother g' fun he => ?_
    subst he
    exact h.own.free q t0 g' h0 hg hs
  · have : (w.setRow g new).heap.size = w.heap.size := by simp [World.setRow]
    rw [this]; exact h.grow
  · intro g' hg' hbor
    rw [hother g' fun he => ?_]
    · exact h.frame g' hg' hbor
    · subst he
      rcases h.fresh q t0 g' h0 hg with h1 | ⟨n, h1⟩
      · exact absurd hg' (by omega)
      · exact hbor n h1
theorem storx_run {P : Program} {cx : Cx} {st : St} {e : Env} {s : Hp} {a : Act} {w : World} (hs : Sat1 cx st e s a w) {t : TypeId} {x y : SV} {vx vy : Value} {k : SV → St → Prop} (hx : x.is e vx) (hy : y.is e vy) (h : storx (tq P t) st x y k) :
    ∃ st' w', k .any st' ∧ Sat1 cx st' e s a w' ∧ (Instr.storeAt t vx vy).run P w = .ok () w' := by
  unfold storx at h
  split at h
  · rename_i aa n b o hq
    simp only [SV.is] at hx
    subst hx
    obtain ⟨l, hl, ⟨hn, h1⟩, h2⟩ := ox_spec h
    have hcl := cellsOf_is hy hl
    unfold stB at h2
    split at h2
    · rename_i cs bt hf
      obtain ⟨hle, hk⟩ := h2
      obtain ⟨ys, hys, hyl⟩ := hs.own.holds _ _ hf
      have hlen := SV.isL_length hyl
      have hlen2 := SV.isL_length hcl
      have hst := run_storeCells_at P (e.B b) o bt vy.cells.toList 0 ys w hys (by simp only [Array.length_toList] at hlen hlen2 ⊢; omega) (oneL_is h1 hcl)
      refine ⟨_, _, hk, hs.stored (new := (ys.toList.take (o + 0) ++ vy.cells.toList ++ ys.toList.drop (o + 0 + vy.cells.toList.length)).toArray) hf rfl hys ?_ rfl, ?_⟩
      · refine ⟨_, setRow_heap w _ ys _ bt _ hys, ?_⟩
        rw [putc_eq cs o l hle]
        simp only [Nat.add_zero]
        rw [hlen2]
        exact SV.isL_append (SV.isL_append (SV.isL_take o hyl) hcl) (SV.isL_drop _ hyl)
      · simp only [Array.length_toList] at hlen2
        have : ¬ vy.cells.size ≠ n := by omega
        simp only [Instr.storeAt, Instr.sureAddr, storeVar, Sem.run_bind, Sem.run_pure, Result.andThen_ok, tqs_run hq, this, if_false, hst]
    · exact h2.elim
  · rename_i aa n b o hq
    simp only [SV.is] at hx
    obtain ⟨n', c', hr, rfl⟩ := hx
    obtain ⟨l, hl, ⟨hn, h1⟩, h2⟩ := ox_spec h
    have hcl := cellsOf_is hy hl
    unfold stR at h2
    split at h2
    · rename_i rt sz m xs vs hf hv
      obtain ⟨hle, hk⟩ := h2
      have hvl := vals_spec (e := e) hv
      rw [hvl] at hcl
      have hvy := SV.isL_map_eq vs hcl
      have hh := hs.own.holds _ _ hf
      rcases hh.1.2 with ⟨h3, _⟩ | ⟨g, cap, cur, h3, _, hg, hmc, hcm, hsz, htk⟩
      · rw [hr] at h3; cases h3
      · have h3' := h3
        rw [hr] at h3
        simp only [Value.slice.injEq, Option.some.injEq, Addr.mk.injEq] at h3
        obtain ⟨⟨rfl, _⟩, rfl, rfl⟩ := h3
        have hxl : xs.length = n' * sz := hh.1.1
        have hcl2 : n' * sz ≤ cur.size := by rw [hsz]; exact Nat.mul_le_mul_right _ hmc
        have hfit : o + 0 + vy.cells.toList.length ≤ cur.size := by rw [hvy]; omega
        have hst := run_storeCells_at P (e.B b) o rt vy.cells.toList 0 cur w hg hfit (oneL_is (e := e) h1 (by rw [hvl, hvy]; exact SV.isL_map _))
        refine ⟨_, _, hk, hs.stored (new := (cur.toList.take (o + 0) ++ vy.cells.toList ++ cur.toList.drop (o + 0 + vy.cells.toList.length)).toArray) hf (g := e.B b) (by simp [Thing.blk, h3', Value.ownBlock]) hg ?_ rfl, ?_⟩
        · refine ⟨⟨by rw [putc_eq xs o vs hle]; simp only [List.length_append, List.length_take, List.length_drop]; omega, .inr ⟨e.B b, c', _, h3', Nat.zero_le _, setRow_heap w _ cur _ rt _ hg, hmc, hcm, ?_, ?_⟩⟩, hh.2⟩
          · simp only [List.size_toArray, List.length_append, List.length_take, List.length_drop, Array.length_toList, hvy]
            omega
          · rw [putc_eq xs o vs hle, hvy]
            simp only [Nat.add_zero]
            rw [← htk]
            apply List.ext_getElem?
            intro i
            simp only [List.getElem?_append, List.getElem?_take, List.getElem?_drop, List.length_take, List.length_append, Array.length_toList]
            have e1 : min o cur.size = o := by omega
            have e2 : min o (min (n' * sz) cur.size) = o := by omega
            rw [e1, e2]
            by_cases i1 : i < n' * sz
            · rw [if_pos i1]
              by_cases i2 : i < o + vs.length
              · rw [if_pos i2, if_pos i2]
                by_cases i3 : i < o
                · simp [i3, i1]
                · simp [i3]
              · rw [if_neg i2, if_neg i2, if_pos (by omega)]
            · rw [if_neg i1, if_neg (by omega)]
              rw [if_neg (by omega)]
        · simp only [hvl, List.length_map] at hn
          have : ¬ vy.cells.size ≠ n := by
            have := congrArg List.length hvy
            simp only [Array.length_toList] at this
            omega
          simp only [Instr.storeAt, Instr.sureAddr, storeVar, Sem.run_bind, Sem.run_pure, Result.andThen_ok, tqs_run hq, this, if_false, hst]
    · exact h2.elim
  · exact h.elim
end Go.Proofs.YtmamodnpghlgcaaDoor
/- New boxes, structs, slices; append. -/
set_option linter.unusedVariables false
set_option linter.unusedSimpArgs false
namespace Go.Proofs.YtmamodnpghlgcaaDoor
open Go.RowKit

theorem Sat1.same {cx : Cx} {st : St} {e : Env} {s : Hp} {a : Act} {w w' : World} (h : Sat1 cx st e s a w) (hh : w'.heap = w.heap) (ho : w'.os = w.os) (ht : w'.tape = w.tape) (hu : w'.output = w.output) : Sat1 cx st e s a w' := by
  refine { size := h.size, ntB := h.ntB, nodef := h.nodef, tm := h.tm, own := ?_, fresh := h.fresh, inw := ?_, ge := h.ge, new := h.new, fact := h.fact, os := ho.trans h.os, tape := ht.trans h.tape, output := hu.trans h.output, grow := by rw [hh]; exact h.grow, frame := fun g h1 h2 => by rw [hh]; exact h.frame g h1 h2, borB := h.borB, bnB := h.bnB }
  · exact ⟨fun k t hk => Thing.holds_block (h.own.holds k t hk) fun g _ => by rw [hh], h.own.apart, h.own.free⟩
  · exact Hp.inw_of h.inw fun g _ => by rw [hh]
theorem Sat1.drew {cx : Cx} {st : St} {e : Env} {s : Hp} {a : Act} {w : World} (h : Sat1 cx st e s a w) : Sat1 cx st e s a w.drew := h.same rfl rfl rfl rfl

/-! ### New boxes -/
def newBox (q : Key) (cs : List SV) (t : TypeId) (st : St) (k : SV → St → Prop) : Prop :=
  (fd st.th q = none ∧ nmA q st.tm ∧ nmB q st.th ∧ SV.nmL q cs) ∧ k (.own q 0) { st with th := up st.th q (.box cs t) }
def allx (z : Option (List Value)) (d : Option Tmp) (t : TypeId) (st : St) (k : SV → St → Prop) : Prop :=
  match z, d with
  | some z, some d => newBox (.l d) (z.map .v) t st k
  | _, _ => False
def bxx (d : Option Tmp) (t : TypeId) (x : SV) (st : St) (k : SV → St → Prop) : Prop :=
  match cellsOf x, d with
  | some l, some d => newBox (.l d) l t st k
  | _, _ => False
theorem newBox_run {cx : Cx} {st : St} {e : Env} {s : Hp} {a : Act} {w : World} (hs : Sat1 cx st e s a w) {d : Nat} {cs : List SV} {ys : Array Value} (hl : SV.isL e cs ys.toList) {t : TypeId} {k : SV → St → Prop} (h : newBox (.l d) cs t st k) :
    ∃ x st' e' s', k x st' ∧ x.is e' (.pointer (some ⟨w.heap.size, 0, none⟩)) ∧ Sat1 cx st' e' s' a (w.alloc (.cells ys t)) := by
  obtain ⟨⟨h1, h2, h3, h5⟩, h4⟩ := h
  refine ⟨_, _, _, _, h4, ?_, hs.newThing h1 h2 h3 (fun n => by simp) (.cells ys t) (.box cs t) (.bool false) ⟨ys, ?_, SV.isL_set e _ _ _ cs _ h5 hl⟩ (fun g hg => ?_)⟩
  · simp only [SV.is, Env.set_B]
  · rw [Env.set_B]; exact heap_alloc_new w _
  · simpa [Thing.blk, Env.set_B] using hg.symm
theorem tyP_zero {P : Program} {t : TypeId} {z : List Value} (h : zq P t = some z) (w : World) : ∃ v, (zeroValue t).run P w = .ok v w ∧ v.cells.toList = z := by
  unfold zq at h
  cases hq : tyP P t with
  | none => rw [hq] at h; cases h
  | some i =>
    rw [hq] at h
    obtain ⟨ti, d, h1, h2, h3, h4, h5, h6⟩ := tyP_spec hq
    simp only [Option.bind_some] at h
    rw [h, Option.map_eq_some_iff] at h6
    obtain ⟨v, hv, hc⟩ := h6
    exact ⟨v, by simp [zeroValue, typeInfo, h1, hv], hc⟩
theorem allx_run {P : Program} {cx : Cx} {st : St} {e : Env} {s : Hp} {a : Act} {w : World} (hs : Sat1 cx st e s a w) {d : Option Tmp} {t : TypeId} {k : SV → St → Prop} (h : allx (zq P t) d t st k) :
    ∃ x v st' e' s' w', k x st' ∧ x.is e' v ∧ Sat1 cx st' e' s' a w' ∧ (Instr.alloc t true (.tuple #[])).run P w = .ok v w' := by
  unfold allx at h
  split at h
  · rename_i z d hz
    obtain ⟨v, hv, hc⟩ := tyP_zero hz w
    obtain ⟨x, st', e', s', h1, h2, h3⟩ := newBox_run hs (ys := v.cells) (cs := z.map .v) (by rw [hc]; exact SV.isL_map _) h
    exact ⟨x, _, st', e', s', _, h1, h2, h3, by simp [Instr.alloc, hv, newVar, newRow]⟩
  · exact h.elim
theorem bxx_run {P : Program} {cx : Cx} {st : St} {e : Env} {s : Hp} {a : Act} {w : World} (hs : Sat1 cx st e s a w) {d : Option Tmp} {t : TypeId} {x : SV} {vx : Value} (hx : x.is e vx) {k : SV → St → Prop} (h : bxx d t x st k) :
    ∃ x v st' e' s' w', k x st' ∧ x.is e' v ∧ Sat1 cx st' e' s' a w' ∧ (Instr.box t vx).run P w = .ok v w' := by
  unfold bxx at h
  split at h
  · rename_i l d hl
    obtain ⟨x, st', e', s', h1, h2, h3⟩ := newBox_run hs (ys := vx.cells) (cellsOf_is hx hl) h
    exact ⟨x, _, st', e', s', _, h1, h2, h3, by simp [Instr.box, newVar, newRow]⟩
  · exact h.elim

/-! ### Structs that are built -/
def fillK (q : Option (Nat × Bool × Nat)) (l : Option (List SV)) (cs : List SV) (k : List SV → Prop) : Prop :=
  match q, l with
  | some (off, _, n), some l => (l.length = n ∧ off + l.length ≤ cs.length) ∧ k (putc cs off l)
  | _, _ => False
def fillF (P : Program) (t : TypeId) : List (Nat × SV) → (List SV → Prop) → List SV → Prop
  | [], k, cs => k cs
  | (i, x) :: r, k, cs => fillK (fq P t i) (cellsOf x) cs (fillF P t r k)
def fillA (a : Bool) (n : Nat) : List (Nat × SV) → (List SV → Prop) → List SV → Prop
  | [], k, cs => k cs
  | (i, x) :: r, k, cs => fillK (some (i * n, a, n)) (cellsOf x) cs (fillA a n r k)
def bdK (k : SV → Prop) (cs : List SV) : Prop := k (mkAgg cs)
inductive BQ where
  | struct | array (a : Bool) (n : Nat) | bad
def placesOf (P : Program) (fa : Array Field) : Option (List (Nat × Nat)) := fa.toList.mapM (fun f => (P.info? f.type).map fun i => (f.offset, i.size))
def bq (P : Program) (t : TypeId) : BQ :=
  match P.underlying t with
  | some (.struct fa) => if (placesOf P fa).isSome then .struct else .bad
  | some (.array _ e) => match tq P e with | some (a, n) => .array a n | none => .bad
  | _ => .bad
def bdx (P : Program) (t : TypeId) (q : BQ) (z : Option (List Value)) (parts : List (Nat × SV)) (k : SV → Prop) : Prop :=
  match q, z with
  | .struct, some z => fillF P t parts (bdK k) (z.map .v)
  | .array a n, some z => fillA a n parts (bdK k) (z.map .v)
  | _, _ => False

/-- Parts, as they are and as the state has them. -/
def partsIs (e : Env) : List (Nat × SV) → List (Nat × Value) → Prop
  | [], ps => ps = []
  | (i, x) :: r, ps => ∃ v ps', ps = (i, v) :: ps' ∧ x.is e v ∧ partsIs e r ps'
theorem foldl_set (off : Nat) : ∀ (l : List Value) (i : Nat) (cs : Array Value), off + i + l.length ≤ cs.size →
    ((l.zipIdx i).foldl (fun cs (c, j) => cs.setIfInBounds (off + j) c) cs).toList = cs.toList.take (off + i) ++ l ++ cs.toList.drop (off + i + l.length)
  | [], i, cs, _ => by simp
  | x :: l, i, cs, h => by
    simp only [List.length_cons] at h
    rw [List.zipIdx_cons, List.foldl_cons]
    have := foldl_set off l (i + 1) (cs.setIfInBounds (off + i) x) (by simp; omega)
    rw [this]
    simp only [Array.toList_setIfInBounds, List.length_cons]
    have e1 : off + (i + 1) + l.length = off + i + (l.length + 1) := by omega
    have e2 : off + (i + 1) = off + i + 1 := by omega
    rw [e1, e2, List.drop_set_of_lt (by omega), List.set_eq_take_append_cons_drop, if_pos (by simp; omega)]
    have e3 : (cs.toList.take (off + i)).length = off + i := by simp; omega
    rw [List.take_append, e3, List.take_of_length_le (by omega), show off + i + 1 - (off + i) = 1 from by omega]
    simp
theorem fill_run {e : Env} (place : Nat → Option (Nat × Nat)) : ∀ (parts : List (Nat × SV)) (ps : List (Nat × Value)) (F : List (Nat × SV) → (List SV → Prop) → List SV → Prop) (k : List SV → Prop) (cs : List SV) (ys : Array Value),
    partsIs e parts ps → SV.isL e cs ys.toList → F parts k cs → (∀ cs, F [] k cs → k cs) → (∀ i x r cs, F ((i, x) :: r) k cs → ∃ off n l, place i = some (off, n) ∧ cellsOf x = some l ∧ l.length = n ∧ off + l.length ≤ cs.length ∧ F r k (putc cs off l)) →
    ∃ cs' zs, k cs' ∧ Instr.fill place ys ps = some zs ∧ SV.isL e cs' zs.toList
  | [], ps, F, k, cs, ys, hp, hl, hF, h0, h1 => by
    simp only [partsIs] at hp
    subst hp
    exact ⟨cs, ys, h0 cs hF, rfl, hl⟩
  | (i, x) :: r, ps, F, k, cs, ys, hp, hl, hF, h0, h1 => by
    simp only [partsIs] at hp
    obtain ⟨v, ps', rfl, hx, hr⟩ := hp
    obtain ⟨off, n, l, hpl, hcl, hn, hle, hF'⟩ := h1 i x r cs hF
    have hcv := cellsOf_is hx hcl
    have hlen := SV.isL_length hl
    have hlen2 := SV.isL_length hcv
    simp only [Array.length_toList] at hlen hlen2
    have hfs := foldl_set off v.cells.toList 0 ys (by simp only [Array.length_toList]; omega)
    have hz : SV.isL e (putc cs off l) ((v.cells.toList.zipIdx 0).foldl (fun cs (c, j) => cs.setIfInBounds (off + j) c) ys).toList := by
      rw [hfs, putc_eq cs off l hle]
      simp only [Nat.add_zero, Array.length_toList, hlen2]
      exact SV.isL_append (SV.isL_append (SV.isL_take off hl) hcv) (SV.isL_drop _ hl)
    obtain ⟨cs', zs, k1, k2, k3⟩ := fill_run place r ps' F k (putc cs off l) _ hr hz hF' h0 h1
    refine ⟨cs', zs, k1, ?_, k3⟩
    have c1 : ¬ (v.cells.size ≠ n || off + v.cells.size > ys.size) = true := by simp; omega
    simp only [Instr.fill, hpl, c1, if_false, Bool.false_eq_true]
    rw [← k2]
    congr 1
    rw [← Array.foldl_toList, Array.toList_zipIdx]

theorem mapM_get {A B : Type} (f : A → Option B) : ∀ (l : List A) (r : List B), l.mapM f = some r → ∀ (i : Nat), r[i]? = l[i]?.bind f
  | [], r, h, i => by simp at h; subst h; simp
  | x :: l, r, h, i => by
    simp only [List.mapM_cons, Option.bind_eq_bind, Option.pure_def, Option.bind_eq_some_iff, Option.some.injEq] at h
    obtain ⟨y, hy, r', hr, rfl⟩ := h
    cases i with
    | zero => simp [hy]
    | succ i => simpa using mapM_get f l r' hr i
theorem bdx_run {P : Program} {e : Env} {t : TypeId} {parts : List (Nat × SV)} {ps : List (Nat × Value)} {k : SV → Prop} (hp : partsIs e parts ps) (h : bdx P t (bq P t) (zq P t) parts k) :
    ∃ z v, k z ∧ z.is e v ∧ ∀ w, (Instr.build t ps.toArray).run P w = .ok v w := by
  have zfact : ∀ z, zq P t = some z → ∃ it zv, P.info? t = some it ∧ it.zero = some zv ∧ zv.cells.toList = z := by
    intro z hz
    unfold zq at hz
    cases hq : tyP P t with
    | none => rw [hq] at hz; cases hz
    | some i =>
      rw [hq] at hz
      obtain ⟨ti, d, h1, h2, h3, h4, h5, h6⟩ := tyP_spec hq
      simp only [Option.bind_some] at hz
      rw [hz, Option.map_eq_some_iff] at h6
      obtain ⟨v, hv, hc⟩ := h6
      exact ⟨ti, v, h1, hv, hc⟩
  unfold bdx at h
  split at h
  · rename_i z hb hz
    obtain ⟨it, zv, hit, hzv, hzc⟩ := zfact z hz
    unfold bq at hb
    split at hb
    · rename_i fa hfa
      split at hb
      · rename_i hpl
        obtain ⟨places, hpl⟩ := Option.isSome_iff_exists.1 hpl
        obtain ⟨cs', zs, h1, h2, h3⟩ := fill_run (e := e) (places.toArray[·]?) parts ps (fillF P t) (bdK k) (z.map .v) zv.cells hp (by rw [hzc]; exact SV.isL_map _) h (fun cs h => h) (fun i x r cs hc => by
          simp only [fillF, fillK] at hc
          split at hc
          · rename_i off a n l hq hl
            obtain ⟨⟨h4, h5⟩, h6⟩ := hc
            obtain ⟨fa', fl, h7, h8, h9, h10⟩ := fq_spec hq
            rw [hfa] at h7
            cases h7
            obtain ⟨ti, h11, h12, h13⟩ := tq_spec h10
            obtain ⟨ti', d, h14, h15, h16, h17, _⟩ := tyP_spec h11
            refine ⟨off, n, l, ?_, hl, h4, h5, h6⟩
            have := mapM_get _ _ _ hpl i
            simp only [List.getElem?_toArray]
            rw [this, Array.getElem?_toList, h8]
            simp only [Option.bind_some, h14, Option.map_some, h9, h17, h13]
          · exact hc.elim)
        refine ⟨_, .agg zs, h1, mkAgg_is h3, fun w => run_build w t _ zs ?_⟩
        unfold Program.built
        unfold placesOf at hpl
        simp only [hit, hfa, hzv, hpl]
        exact h2
      · cases hb
    · split at hb <;> cases hb
    · cases hb
  · rename_i a n z hb hz
    obtain ⟨it, zv, hit, hzv, hzc⟩ := zfact z hz
    unfold bq at hb
    split at hb
    · split at hb <;> cases hb
    · rename_i len el hfa
      split at hb
      · rename_i a' n' hq
        cases hb
        obtain ⟨ti, h11, h12, h13⟩ := tq_spec hq
        obtain ⟨ti', d, h14, h15, h16, h17, _⟩ := tyP_spec h11
        obtain ⟨cs', zs, h1, h2, h3⟩ := fill_run (e := e) (fun i => some (i * n, n)) parts ps (fillA a n) (bdK k) (z.map .v) zv.cells hp (by rw [hzc]; exact SV.isL_map _) h (fun cs h => h) (fun i x r cs hc => by
          simp only [fillA, fillK] at hc
          split at hc
          · rename_i off a2 n2 l hq' hl
            simp only [Option.some.injEq, Prod.mk.injEq] at hq'
            obtain ⟨rfl, rfl, rfl⟩ := hq'
            obtain ⟨⟨h4, h5⟩, h6⟩ := hc
            exact ⟨_, _, l, rfl, hl, h4, h5, h6⟩
          · exact hc.elim)
        refine ⟨_, .agg zs, h1, mkAgg_is h3, fun w => run_build w t _ zs ?_⟩
        unfold Program.built
        have : ti'.size = n := by omega
        simp only [hit, hfa, hzv, h14, this]
        exact h2
      · cases hb
    · cases hb
  · exact h.elim
end Go.Proofs.YtmamodnpghlgcaaDoor
/- Slices of the state's own: made, appended to. -/
set_option linter.unusedVariables false
set_option linter.unusedSimpArgs false
namespace Go.Proofs.YtmamodnpghlgcaaDoor
open Go.RowKit

structure SQ where
  e : TypeId
  sz : Nat
  by' : Nat
  z : List Value
def sq (P : Program) (t : TypeId) : Option SQ :=
  match P.underlying t with
  | some (.slice e) => match tyP P e with
    | some ⟨_, sz, by', some z⟩ => if z.length = sz ∧ 0 < sz then some ⟨e, sz, by', z⟩ else none
    | _ => none
  | _ => none
theorem sq_spec {P : Program} {t : TypeId} {q : SQ} (h : sq P t = some q) : P.underlying t = some (.slice q.e) ∧ ∃ ti zv, P.info? q.e = some ti ∧ ti.size = q.sz ∧ ti.bytes = q.by' ∧ ti.zero = some zv ∧ zv.cells.toList = q.z ∧ q.z.length = q.sz ∧ 0 < q.sz := by
  unfold sq at h
  split at h
  · rename_i e hu
    split at h
    · rename_i k sz by' z ht
      split at h
      · rename_i hc
        obtain rfl := Option.some.inj h
        obtain ⟨ti, d, h1, h2, h3, h4, h5, h6⟩ := tyP_spec ht
        simp only [Option.map_eq_some_iff] at h6
        obtain ⟨zv, h7, h8⟩ := h6
        exact ⟨hu, ti, zv, h1, h4, h5, h7, h8, hc.1, hc.2⟩
      · cases h
    · cases h
  · cases h

def zrep (z : List Value) : Nat → List Value
  | 0 => []
  | n + 1 => z ++ zrep z n
theorem zrep_length (z : List Value) : ∀ n, (zrep z n).length = n * z.length
  | 0 => by simp [zrep]
  | n + 1 => by simp [zrep, zrep_length z n, Nat.add_mul]; omega
theorem zrep_get (z : List Value) : ∀ n i, i < n * z.length → (zrep z n)[i]? = z[i % z.length]?
  | 0, i, h => by simp at h
  | n + 1, i, h => by
    simp only [zrep]
    rw [List.getElem?_append]
    split
    · rename_i hi; rw [Nat.mod_eq_of_lt hi]
    · rename_i hi
      rw [Nat.add_mul, Nat.one_mul] at h
      rw [zrep_get z n (i - z.length) (by omega)]
      congr 1
      exact (Nat.mod_eq_sub_mod (by omega)).symm
theorem made_eq (z : Array Value) (n : Nat) (hz : 0 < z.size) : ((Array.range (n * z.size)).map (fun i => z[i % z.size]!)).toList = zrep z.toList n := by
  apply List.ext_getElem?
  intro i
  by_cases hi : i < n * z.size
  · rw [zrep_get z.toList n i (by simpa using hi)]
    have hm : i % z.size < z.size := Nat.mod_lt _ hz
    simp [hi, hm]
  · rw [List.getElem?_eq_none (by simpa using hi), List.getElem?_eq_none (by rw [zrep_length]; simpa using hi)]

/-! ### A new row -/
def newRow (q : Key) (et : TypeId) (sz n : Nat) (xs : List Value) (st : St) (k : SV → St → Prop) : Prop :=
  (fd st.th q = none ∧ nmA q st.tm ∧ nmB q st.th) ∧ k (.row q) { st with th := up st.th q (.row et sz n xs) }
theorem newRow_run {cx : Cx} {st : St} {e : Env} {s : Hp} {a : Act} {w : World} (hs : Sat1 cx st e s a w) {d : Nat} {et : TypeId} {sz n : Nat} {xs : List Value} {cs : Array Value} {k : SV → St → Prop} (h : newRow (.l d) et sz n xs st k)
    {c : Nat} (hc : n ≤ c) (hm : c ≤ maxLen) (hsz : cs.size = c * sz) (hxs : cs.toList.take (n * sz) = xs) :
    ∃ x st' e' s', k x st' ∧ x.is e' (.slice (some ⟨w.heap.size, 0, none⟩) n c) ∧ Sat1 cx st' e' s' a (w.alloc (.cells cs et)) := by
  obtain ⟨⟨h1, h2, h3⟩, h4⟩ := h
  refine ⟨_, _, _, _, h4, ?_, hs.newThing h1 h2 h3 (fun n => by simp) (.cells cs et) (.row et sz n xs) (.slice (some ⟨w.heap.size, 0, none⟩) n c) ⟨⟨?_, .inr ⟨w.heap.size, c, cs, ?_, Nat.zero_le _, heap_alloc_new w _, hc, hm, hsz, hxs⟩⟩, fun g hg => ?_⟩ (fun g hg => ?_)⟩
  · simp only [SV.is, Env.set_R]
    exact ⟨trivial, _, _, _, rfl⟩
  · rw [← hxs, List.length_take, Array.length_toList, hsz]
    exact Nat.min_eq_left (Nat.mul_le_mul_right _ hc)
  · rw [Env.set_R]
  · rw [Env.set_R] at hg
    rw [Env.set_B]
    simpa [Value.ownBlock] using hg.symm
  · simp only [Thing.blk, Env.set_R, Value.ownBlock, Option.some.injEq] at hg
    exact hg.symm
/-- What never turns, and a new block of cells. -/
def Hp.plus (s : Hp) (b : Nat) (xs : List Value) : Hp := ⟨fun g o => if g = b then xs[o]? else s.cell g o, s.mp, s.ob⟩
theorem Sat1.plus {cx : Cx} {st : St} {e : Env} {s : Hp} {a : Act} {w : World} (h : Sat1 cx st e s a w) (cs : Array Value) (et : TypeId) :
    Sat1 cx { st with F := st.F.and (cellsF w.heap.size 0 cs.toList) } e (s.plus w.heap.size cs.toList) a (w.alloc (.cells cs et)) := by
  have hold : ∀ g, g < w.heap.size → (w.alloc (.cells cs et)).heap[g]? = w.heap[g]? := fun g hg => Below.heap_alloc w _ g hg
  have hhas : ∀ g, (s.plus w.heap.size cs.toList).has g → s.has g ∨ g = w.heap.size := by
    rintro g (⟨o, v, hv⟩ | hm)
    · simp only [Hp.plus] at hv
      split at hv
      · rename_i hg; exact .inr hg
      · exact .inl (.inl ⟨o, v, hv⟩)
    · exact .inl (.inr hm)
  have hle : s.le (s.plus w.heap.size cs.toList) := by
    refine ⟨fun g o v hv => ?_, fun _ _ hm => hm, fun _ _ hm => hm⟩
    have hlt := Hp.has_lt h.inw (.inl ⟨o, v, hv⟩)
    simp only [Hp.plus]
    rw [if_neg (by omega)]
    exact hv
  refine { size := h.size, ntB := h.ntB, nodef := h.nodef, tm := h.tm, own := ⟨fun k t hk => Thing.holds_block (h.own.holds k t hk) fun g hg => hold g (Thing.blk_lt (h.own.holds k t hk) hg), h.own.apart, fun k t g hk hg hs => ?_⟩, fresh := h.fresh, inw := ⟨fun g o v hv => ?_, fun g m hm => ?_, fun g o ho => ?_⟩, ge := Hp.le_trans h.ge hle, new := fun g hg => ?_, fact := ⟨st.F.mono _ _ hle h.fact, fun j v hv => ?_⟩, os := h.os, tape := h.tape, output := h.output, grow := ?_, frame := fun g hg hb => ?_, borB := h.borB, bnB := h.bnB }
  · rcases hhas g hs with h1 | h1
    · exact h.own.free k t g hk hg h1
    · have := Thing.blk_lt (h.own.holds k t hk) hg; omega
  · simp only [Hp.plus] at hv
    split at hv
    · rename_i hg
      subst hg
      rw [World.cell?_alloc_new, ← Array.getElem?_toList]
      exact hv
    · rw [World.cell?_of_block (hold g (Hp.has_lt h.inw (.inl ⟨o, v, hv⟩)))]
      exact h.inw.cell g o v hv
  · rw [hold g (Hp.has_lt h.inw (.inr (.inl ⟨m, hm⟩)))]; exact h.inw.mp g m hm
  · rw [hold g (Hp.has_lt h.inw (.inr (.inr ⟨o, ho⟩)))]; exact h.inw.ob g o ho
  · rcases hhas g hg with h1 | h1
    · exact h.new g h1
    · exact .inr (.inl (by rw [h1]; exact h.grow))
  · rw [Nat.zero_add]
    simp only [Hp.plus, if_true]
    exact hv
  · simp only [World.size_alloc]; exact Nat.le_succ_of_le h.grow
  · rw [hold g (Nat.lt_of_lt_of_le hg h.grow)]; exact h.frame g hg hb
/-- A new row: the state's own, or, where the state bears the mark, one that never turns again. -/
def bsF (m : Option SV) (d : Nat) (et : TypeId) (sz len : Nat) (xs : List Value) (st : St) (k : SV → St → Prop) : Prop :=
  match m with
  | none => newRow (.l d) et sz len xs st k
  | some _ => ∀ b : Nat, k (.v (.slice (some ⟨b, 0, none⟩) len len)) { st with F := st.F.and (cellsF b 0 xs) }
theorem bsF_none (d : Nat) (et : TypeId) (sz len : Nat) (xs : List Value) (st : St) (k : SV → St → Prop) : bsF none d et sz len xs st k = newRow (.l d) et sz len xs st k := rfl
theorem bsF_some (m : SV) (d : Nat) (et : TypeId) (sz len : Nat) (xs : List Value) (st : St) (k : SV → St → Prop) : bsF (some m) d et sz len xs st k = ∀ b : Nat, k (.v (.slice (some ⟨b, 0, none⟩) len len)) { st with F := st.F.and (cellsF b 0 xs) } := rfl
def bsV (l : Option (List Value)) (d : Nat) (et : TypeId) (sz len : Nat) (st : St) (k : SV → St → Prop) : Prop :=
  match l with
  | some xs => bsF (fd st.tm 2000000) d et sz len xs st k
  | none => False
def bsK (d : Nat) (et : TypeId) (sz len : Nat) (st : St) (k : SV → St → Prop) (cs : List SV) : Prop := bsV (vals cs) d et sz len st k
def bsx (q : Option SQ) (d : Option Tmp) (len : Nat) (parts : List (Nat × SV)) (st : St) (k : SV → St → Prop) : Prop :=
  match q, d with
  | some ⟨e, sz, _, z⟩, some d => len * sz ≤ 16777216 ∧ fillA false sz parts (bsK d e sz len st k) ((zrep z len).map .v)
  | _, _ => False
theorem bsx_run {P : Program} {cx : Cx} {st : St} {e : Env} {s : Hp} {a : Act} {w : World} (hs : Sat1 cx st e s a w) {d : Option Tmp} {t : TypeId} {len : Nat} {parts : List (Nat × SV)} {ps : List (Nat × Value)} {k : SV → St → Prop}
    (hp : partsIs e parts ps) (h : bsx (sq P t) d len parts st k) :
    ∃ x v st' e' s' w', k x st' ∧ x.is e' v ∧ Sat1 cx st' e' s' a w' ∧ (Instr.buildSlice t len ps.toArray).run P w = .ok v w' := by
  unfold bsx at h
  split at h
  · rename_i et sz by' z d hq
    obtain ⟨hu, ti, zv, h1, h2, h3, h4, h5, h6, h7⟩ := sq_spec hq
    simp only at hu h1 h2 h3 h5 h6 h7
    obtain ⟨hle, hF⟩ := h
    have hzs : zv.cells.size = sz := by rw [← h6, ← h5]; simp
    have hmade : ((Array.range (len * sz)).map (fun i => zv.cells[i % zv.cells.size]!)).toList = zrep z len := by
      have := made_eq zv.cells len (by omega)
      rw [hzs] at this ⊢
      rw [this, h5]
    obtain ⟨cs', zs, k1, k2, k3⟩ := fill_run (e := e) (fun i => some (i * sz, sz)) parts ps (fillA false sz) (bsK d et sz len st k) _ ((Array.range (len * sz)).map (fun i => zv.cells[i % zv.cells.size]!)) hp (by rw [hmade]; exact SV.isL_map _) hF (fun cs h => h) (fun i x r cs hc => by
      simp only [fillA, fillK] at hc
      split at hc
      · rename_i off a2 n2 l hq' hl
        simp only [Option.some.injEq, Prod.mk.injEq] at hq'
        obtain ⟨rfl, rfl, rfl⟩ := hq'
        obtain ⟨⟨h4, h5⟩, h6⟩ := hc
        exact ⟨_, _, l, rfl, hl, h4, h5, h6⟩
      · exact hc.elim)
    unfold bsK bsV at k1
    split at k1
    · rename_i xs hv
      rw [vals_spec (e := e) hv] at k3
      have hzx := SV.isL_map_eq xs k3
      have hfl : ∀ (pl : Nat → Option (Nat × Nat)) (ps : List (Nat × Value)) (ys zs : Array Value), Instr.fill pl ys ps = some zs → zs.size = ys.size := by
        intro pl ps
        induction ps with
        | nil => intro ys zs h; simp only [Instr.fill, Option.some.injEq] at h; rw [h]
        | cons p r ih =>
          intro ys zs h
          obtain ⟨i, v⟩ := p
          simp only [Instr.fill] at h
          split at h
          · cases h
          · split at h
            · cases h
            · rw [ih _ _ h]
              have : ∀ (l : List (Value × Nat)) (off : Nat) (c : Array Value), (l.foldl (fun cs (x : Value × Nat) => cs.setIfInBounds (off + x.2) x.1) c).size = c.size := by
                intro l off
                induction l with
                | nil => intro c; rfl
                | cons x l ih => intro c; simp only [List.foldl_cons]; rw [ih]; simp
              rw [← Array.foldl_toList]
              exact this _ _ _
      have hsize : zs.size = len * sz := by rw [hfl _ _ _ _ k2]; simp
      have hlm : len ≤ maxLen := by
        have := Nat.le_mul_of_pos_right len h7
        simp only [maxLen]; omega
      obtain ⟨x, st', e', s', r1, r2, r3⟩ : ∃ x st' e' s', k x st' ∧ x.is e' (.slice (some ⟨w.heap.size, 0, none⟩) len len) ∧ Sat1 cx st' e' s' a (w.alloc (.cells zs et)) := by
        unfold bsF at k1
        split at k1
        · exact newRow_run hs (cs := zs) k1 (Nat.le_refl _) hlm hsize (by rw [hzx] ; exact List.take_of_length_le (by rw [← hzx]; simp [hsize]))
        · refine ⟨_, _, e, s.plus w.heap.size zs.toList, k1 w.heap.size, is_v.2 rfl, ?_⟩
          have := hs.plus zs et
          rw [hzx] at this
          rw [hzx]
          exact this
      refine ⟨x, _, st', e', s', _, r1, r2, r3, ?_⟩
      have hn : ¬ (len * sz > 2 ^ 24) := by omega
      have k2' : Instr.fill (fun i => some (i * sz, sz)) ((Array.range (len * sz)).map (fun i => zv.cells[i % sz]!)) ps = some zs := by rw [← k2, hzs]
      by_cases hz0 : len * sz = 0
      · have : (Array.range (len * sz)).map (fun i => zv.cells[i % sz]!) = #[] := by rw [hz0]; simp
        rw [this] at k2'
        have hr0 : Array.map (fun (_ : Nat) => (default : Value)) (Array.range 0) = #[] := by simp
        simp [Instr.buildSlice, run_underlying hu, sizeOf, typeInfo, h1, h2, hn, hz0, hr0, k2', Go.newRow]
      · simp only [Instr.buildSlice, Sem.run_bind, run_underlying hu, Result.andThen_ok, sizeOf, typeInfo, program, Sem.run, h1, Sem.run_pure, h2, hn, if_false, hz0]
        simp [zeroValue, typeInfo, h1, h4, hzs, k2', Go.newRow]
    · exact k1.elim
  · exact h.elim

/-! ### make -/
def msx (q : Option SQ) (d : Option Tmp) (l c : SV) (st : St) (k : SV → St → Prop) : Prop :=
  match q, d, l, c with
  | some ⟨e, sz, by', z⟩, some d, .v (.int _ n), .v (.int _ m) => (n = m ∧ 0 ≤ n ∧ n ≤ maxLen ∧ by' * n ≤ 281474976710656) ∧ newRow (.l d) e sz n.toNat (zrep z n.toNat) st k
  | _, _, _, _ => False
theorem msx_run {P : Program} {cx : Cx} {st : St} {e : Env} {s : Hp} {a : Act} {w : World} (hs : Sat1 cx st e s a w) {d : Option Tmp} {t : TypeId} {l c : SV} {vl vc : Value} {k : SV → St → Prop} (hl : l.is e vl) (hc : c.is e vc) (h : msx (sq P t) d l c st k) :
    ∃ x v st' e' s' w', k x st' ∧ x.is e' v ∧ Sat1 cx st' e' s' a w' ∧ (Instr.makeSlice t vl vc).run P w = .ok v w' := by
  unfold msx at h
  split at h
  · rename_i et sz by' z d i1 n i2 m hq
    simp only [is_v] at hl hc
    subst hl; subst hc
    obtain ⟨hu, ti, zv, h1, h2, h3, h4, h5, h6, h7⟩ := sq_spec hq
    simp only at hu h1 h2 h3 h5 h6 h7
    obtain ⟨⟨rfl, hn, hm, hb⟩, hk⟩ := h
    obtain ⟨n, rfl⟩ := Int.eq_ofNat_of_zero_le hn
    simp only [Int.toNat_natCast] at hk
    have hm' : n ≤ maxLen := by omega
    have hb' : ti.bytes * n ≤ 281474976710656 := by
      rw [h3]
      have : ((by' * n : Nat) : Int) ≤ 281474976710656 := by rw [Int.natCast_mul]; exact hb
      omega
    have hb2 : (ti.bytes : Int) * (n : Int) ≤ 281474976710656 := by
      have : ((ti.bytes * n : Nat) : Int) ≤ 281474976710656 := by omega
      rwa [Int.natCast_mul] at this
    have hr := run_make (P := P) w t et ti zv hu h1 h4 i1 i2 n n (by omega) (Int.le_refl _) hb2 (by simp only [maxLen] at hm'; omega)
    simp only [Int.toNat_natCast] at hr
    have hzs : zv.cells.size = sz := by rw [← h6, ← h5]; simp
    have hmade : (madeCells zv.cells (n * sz)).toList = zrep z n := by
      have := made_eq zv.cells n (by omega)
      rw [hzs] at this
      unfold madeCells
      rw [hzs, this, h5]
    rw [h2] at hr
    obtain ⟨x, st', e', s', r1, r2, r3⟩ := newRow_run hs (cs := madeCells zv.cells (n * sz)) hk (Nat.le_refl _) hm' (size_madeCells _ _) (by rw [hmade]; exact List.take_of_length_le (by rw [zrep_length, h6]; exact Nat.le_refl _))
    exact ⟨x, _, st', e', s', _, r1, r2, r3, hr⟩
  · exact h.elim

/-! ### append -/
/-- What is appended, read in a world. -/
structure Src (P : Program) (u : TypeId) (x : Value) (sz m : Nat) (news : List Value) (w : World) : Prop where
  ty : ∃ d, P.underlying u = some d ∧ ∀ k, d ≠ .int k
  len : ∀ w, (Builtin.lenOf x).run P w = .ok m w
  cells : (Builtin.firstCells sz m x).run P w = .ok news.toArray w
  drew : (Builtin.firstCells sz m x).run P w.drew = .ok news.toArray w.drew

theorem append_run {P : Program} {w : World} {t u ty : TypeId} {q : SQ} (hq : sq P t = some q) {v x : Value} {n m : Nat} {xs news : List Value} (hown : w.ownsRow 0 q.e q.sz v n xs) (hsrc : Src P u x q.sz m news w)
    (hl : news.length = m * q.sz) (h1 : ∀ y ∈ news, y.oneCell' = true) (hm : n + m ≤ maxLen) (hb : (n + m) * q.by' ≤ 140737488355328) :
    ∃ v' w', (Builtin.append_ #[t, u] ty #[v, x]).run P w = .ok v' w' ∧ w'.ownsRow 0 q.e q.sz v' (n + m) (xs ++ news) ∧
      ((v' = v ∧ w' = w) ∨ (∃ g cur new, v.ownBlock = some g ∧ v'.ownBlock = some g ∧ w.heap[g]? = some (.cells cur q.e (0, 0)) ∧ w' = w.setRow g new) ∨ (∃ o, v'.ownBlock = some w.heap.size ∧ w' = w.drew.alloc o)) := by
  obtain ⟨hu, ti, zv, i1, i2, i3, i4, i5, i6, i7⟩ := sq_spec hq
  obtain ⟨du, hdu, hdk⟩ := hsrc.ty
  have hzs : zv.cells.size = q.sz := by rw [← i6, ← i5]; simp
  have hlen : (xs ++ news).length = (n + m) * q.sz := by rw [List.length_append, hown.1, hl, Nat.add_mul]
  have hzero : ∀ w, ((do pure ((← underlying u) matches .int _)) : Sem Bool).run P w = .ok false w := by
    intro w
    rw [Sem.run_bind, run_underlying hdu]
    cases du <;> first | rfl | exact absurd rfl (hdk _)
  have hns : ¬ (((n + m : Nat) : Int) > IntKind.i64.max ∧ q.by' = 0) := by
    simp only [IntKind.max, IntKind.signed, IntKind.bits]
    simp only [maxLen] at hm
    omega
  -- the growing arm, for whatever was there before
  have grow : ∀ (old : Nat) (base : Option Addr) (hv : v = .slice base n old), old < n + m → (Builtin.firstCells q.sz n v).run P w.drew = .ok xs.toArray w.drew →
      ∃ v' w', (Builtin.append_ #[t, u] ty #[v, x]).run P w = .ok v' w' ∧ w'.ownsRow 0 q.e q.sz v' (n + m) (xs ++ news) ∧ (∃ o, v'.ownBlock = some w.heap.size ∧ w' = w.drew.alloc o) := by
    intro old base hv ho hfc
    have hg := growslice_fits (bytes := q.by') ho hb
    have hg' : ¬ (Builtin.nextslicecap (n + m) old * ti.bytes > 2 ^ 48) := by rw [i3]; omega
    have hge := grownCap_ge w (n + m) old q.e
    have hcm := grownCap_le_maxLen w (n + m) old q.e hm
    refine ⟨.slice (some ⟨w.heap.size, 0, none⟩) (n + m) (grownCap w (n + m) old q.e), w.drew.alloc (.cells (xs.toArray ++ news.toArray ++ Builtin.zeroCells zv.cells (grownCap w (n + m) old q.e - (n + m))) q.e), ?_, ⟨hlen, .inr ⟨w.heap.size, _, _, rfl, Nat.zero_le _, heap_alloc_new w.drew _, hge, hcm, ?_, ?_⟩⟩, _, rfl, rfl⟩
    · subst hv
      have hn' : ¬ (n + m ≤ old) := by omega
      have hn2 : ¬ (((n + m : Nat) : Int) > IntKind.i64.max ∧ (false = true ∨ ti.bytes = 0)) := by
        simp only [IntKind.max, IntKind.signed, IntKind.bits]
        simp only [maxLen] at hm
        omega
      simp only [Builtin.append_, Sem.run_bind, List.getElem?_toArray, List.getElem?_cons_zero, List.getElem?_cons_succ, run_underlying hu, run_underlying hdu, Result.andThen_ok]
      have hsz : ∀ w, (sizeOf q.e).run P w = .ok q.sz w := fun w => by simp [sizeOf, typeInfo, i1, i2]
      have hti : ∀ w, (typeInfo q.e).run P w = .ok ti w := fun w => by simp [typeInfo, i1]
      have hze : ∀ w, (zeroValue q.e).run P w = .ok zv w := fun w => by simp [zeroValue, typeInfo, i1, i4]
      simp only [hsz, Result.andThen_ok, Sem.run_pure, Bool.false_eq_true, if_false, Sem.run_bind, hsrc.len, hn', hti, hn2, hg']
      have h63' : ¬ (9223372036854775807 < ((n : Int) + (m : Int))) := by simp only [maxLen] at hm; omega
      have h48' : ¬ (281474976710656 < Builtin.nextslicecap (n + m) old * ti.bytes) := by omega
      simp [choose, Sem.run, Question.forced, hfc, hsrc.drew, hze, hti, Go.newRow, grownCap, h63', h48', ← Array.append_assoc]
    · simp only [Array.size_append, List.size_toArray, size_zeroCells, hzs, hown.1, hl, ← Nat.add_mul]
      congr 1
      omega
    · simp only [Array.toList_append, List.append_assoc]
      rw [← List.append_assoc, ← hlen]
      exact List.take_left
  rcases hown.2 with ⟨rfl, rfl⟩ | ⟨g, cap, cur, rfl, hbg, hg, hnc, hcm, hcs, htk⟩
  · have hx0 : xs = [] := List.eq_nil_of_length_eq_zero (by simpa using hown.1)
    subst hx0
    by_cases hm0 : m = 0
    · subst hm0
      have hn0 : news = [] := List.eq_nil_of_length_eq_zero (by simpa using hl)
      subst hn0
      refine ⟨.slice none 0 0, w, ?_, World.ownsRow_nil w 0 q.e q.sz, .inl ⟨rfl, rfl⟩⟩
      have hsz : ∀ w, (sizeOf q.e).run P w = .ok q.sz w := fun w => by simp [sizeOf, typeInfo, i1, i2]
      simp only [Builtin.append_, Sem.run_bind, List.getElem?_toArray, List.getElem?_cons_zero, List.getElem?_cons_succ, run_underlying hu, run_underlying hdu, Result.andThen_ok]
      simp [hsz, hsrc.len, hsrc.cells]
    · obtain ⟨v', w', r1, r2, r3⟩ := grow 0 none rfl (by omega) (run_firstCells_none w.drew _ _ _ _)
      exact ⟨v', w', r1, r2, .inr (.inr r3)⟩
  · have hold : ∀ (w1 : World), w1.heap = w.heap → (Builtin.firstCells q.sz n (.slice (some ⟨g, 0, none⟩) n cap)).run P w1 = .ok xs.toArray w1 := by
      intro w1 hw1
      refine run_firstCells_some w1 q.sz n ⟨g, 0, none⟩ n cap xs hown.1 fun j u hu => ?_
      have := hown.cells (g := g) rfl j u hu
      rw [← this]
      exact World.cell?_of_block (by rw [hw1])
    by_cases hroom : n + m ≤ cap
    · have hfit : n * q.sz + 0 + news.length ≤ cur.size := by rw [hl, hcs, Nat.add_zero, ← Nat.add_mul]; exact Nat.mul_le_mul_right _ hroom
      have hst := run_storeCells_at P g (n * q.sz) q.e news 0 cur w hg hfit h1
      refine ⟨.slice (some ⟨g, 0, none⟩) (n + m) cap, w.setRow g (cur.toList.take (n * q.sz + 0) ++ news ++ cur.toList.drop (n * q.sz + 0 + news.length)).toArray, ?_, ⟨hlen, .inr ⟨g, cap, _, rfl, Nat.zero_le _, setRow_heap w g cur _ q.e _ hg, hroom, hcm, ?_, ?_⟩⟩, .inr (.inl ⟨g, cur, _, rfl, rfl, hg, rfl⟩)⟩
      · have hsz : ∀ w, (sizeOf q.e).run P w = .ok q.sz w := fun w => by simp [sizeOf, typeInfo, i1, i2]
        simp only [Builtin.append_, Sem.run_bind, List.getElem?_toArray, List.getElem?_cons_zero, List.getElem?_cons_succ, run_underlying hu, run_underlying hdu, Result.andThen_ok]
        simp [hsz, hsrc.len, hsrc.cells, hroom, Addr.add_lit, hst]
      · simp only [List.size_toArray, List.length_append, List.length_take, List.length_drop, Array.length_toList]
        omega
      · simp only [Nat.add_zero]
        rw [htk, ← hlen]
        exact List.take_left
    · obtain ⟨v', w', r1, r2, r3⟩ := grow cap (some ⟨g, 0, none⟩) rfl (by omega) (hold w.drew rfl)
      exact ⟨v', w', r1, r2, .inr (.inr r3)⟩
end Go.Proofs.YtmamodnpghlgcaaDoor
/- append, as a function of the state; every operation in one. -/
set_option linter.unusedVariables false
set_option linter.unusedSimpArgs false
namespace Go.Proofs.YtmamodnpghlgcaaDoor
open Go.RowKit

theorem Sat1.newRowAt {cx : Cx} {st : St} {e : Env} {s : Hp} {a : Act} {w w' : World} (h : Sat1 cx st e s a w) {d : Nat} {th0 : List (Key × Thing)} (hsub : ∀ k t, fd th0 k = some t → fd st.th k = some t)
    (hA : nmA (.l d) st.tm) (hB : nmB (.l d) th0) {et : TypeId} {sz n : Nat} {v : Value} {xs : List Value} (hrow : w'.ownsRow 0 et sz v n xs) (hsl : ∃ b m c, v = .slice b m c)
    (hkeep : ∀ g, g < w.heap.size → v.ownBlock ≠ some g → w'.heap[g]? = w.heap[g]?)
    (hnew : ∀ g, v.ownBlock = some g → w.heap.size ≤ g ∨ ∃ r t0, fd st.th r = some t0 ∧ t0.blk e r = some g ∧ fd th0 r = none)
    (ho : w'.os = w.os) (ht : w'.tape = w.tape) (hu : w'.output = w.output) (hg : w.heap.size ≤ w'.heap.size) :
    ∃ e', Sat1 cx { st with th := up th0 (.l d) (.row et sz n xs) } e' s a w' ∧ SV.is e' (.row (.l d)) v ∧ ∀ k u, Key.l d ≠ k → Thing.blk e' k u = Thing.blk e k u := by
  have hn1 : ∀ k t g, fd th0 k = some t → t.blk e k = some g → v.ownBlock ≠ some g := by
    intro k t g hk hgk hv
    have hlt := Thing.blk_lt (h.own.holds k t (hsub k t hk)) hgk
    rcases hnew g hv with h1 | ⟨r, t0, h1, h2, h3⟩
    · omega
    · have := h.own.apart k r t t0 g (hsub k t hk) h1 hgk h2
      subst this
      rw [h3] at hk
      cases hk
  have hs1 : ∀ g, s.has g → v.ownBlock ≠ some g := by
    intro g hgs hv
    have hlt := Hp.has_lt h.inw hgs
    rcases hnew g hv with h1 | ⟨r, t0, h1, h2, h3⟩
    · omega
    · exact h.own.free r t0 g h1 h2 hgs
  refine ⟨e.set (.l d) (v.ownBlock.getD 0) v, { size := h.size, ntB := h.ntB, nodef := h.nodef, tm := ?_, own := ?_, fresh := ?_, inw := ?_, ge := h.ge, new := h.new, fact := h.fact, os := ho.trans h.os, tape := ht.trans h.tape, output := hu.trans h.output, grow := Nat.le_trans h.grow hg, frame := ?_, borB := ?_, bnB := fun n => by rw [Env.set_B' e _ _ (by simp)]; exact h.bnB n }, ?_⟩
  · intro i x hx
    exact SV.is_set e _ _ _ x _ (nmA_spec hA i x hx) (h.tm i x hx)
  · have h0 : Own e s th0 w := ⟨fun k t hk => h.own.holds k t (hsub k t hk), fun k k' t t' g hk hk' => h.own.apart k k' t t' g (hsub _ _ hk) (hsub _ _ hk'), fun k t g hk => h.own.free k t g (hsub _ _ hk)⟩
    refine h0.put (.l d) _ _ _ (fun k cs ty _ hk => nmB_spec hB k cs ty hk) ⟨by rw [Env.set_R]; exact hrow, fun g hg' => ?_⟩ (fun k u g _ hk hg' => ⟨hkeep g (Thing.blk_lt (h.own.holds k u (hsub k u hk)) hg') (hn1 k u g hk hg'), ?_⟩) (fun g hg' => ?_)
    · rw [Env.set_R] at hg'; rw [Env.set_B, hg']; rfl
    · simp only [Thing.blk, Env.set_R]; exact hn1 k u g hk hg'
    · simp only [Thing.blk, Env.set_R] at hg'
      exact fun hs => hs1 g hs hg'
  · intro k u g hk hg'
    rw [fd_up] at hk
    split at hk
    · rename_i h1
      subst h1
      obtain rfl := Option.some.inj hk
      simp only [Thing.blk, Env.set_R] at hg'
      rcases hnew g hg' with h2 | ⟨r, t0, h2, h3, _⟩
      · exact .inl (Nat.le_trans h.grow h2)
      · exact h.fresh r t0 g h2 h3
    · rename_i h1
      rw [Thing.blk_set (Ne.symm h1)] at hg'
      exact h.fresh k u g (hsub k u hk) hg'
  · exact Hp.inw_of h.inw fun g hgs => hkeep g (Hp.has_lt h.inw hgs) (hs1 g hgs)
  · intro g hg' hb
    have hlt : g < w.heap.size := Nat.lt_of_lt_of_le hg' h.grow
    rw [← h.frame g hg' hb]
    refine hkeep g hlt fun hv => ?_
    rcases hnew g hv with h1 | ⟨r, t0, h1, h2, _⟩
    · omega
    · rcases h.fresh r t0 g h1 h2 with h3 | ⟨n', h3⟩
      · omega
      · exact hb n' h3
  · intro n' g hb
    rw [Env.set_B' e _ _ (by simp)]
    exact h.borB n' g hb
  · refine ⟨by simp only [SV.is, Env.set_R]; exact ⟨trivial, hsl⟩, fun k u hk => Thing.blk_set (Ne.symm hk)⟩

/-! ### append, as a function of the state -/
def rowA (s : Hp) (a : Option Addr) (cs : List Value) : Prop := cs = [] ∨ ∃ ad, a = some ad ∧ atA s ad cs
def uq (P : Program) (u : TypeId) : Bool := match P.underlying u with | some (.slice _) => true | some .string => true | _ => false
def apG (q : SQ) (d : Nat) (th0 : List (Key × Thing)) (n : Nat) (xs : List Value) (m : Nat) (news : List Value) (st : St) (k : SV → St → Prop) : Prop :=
  (news.length = m * q.sz ∧ (∀ y ∈ news, y.oneCell' = true) ∧ n + m ≤ maxLen ∧ (n + m) * q.by' ≤ 140737488355328) ∧ newRow (.l d) q.e q.sz (n + m) (xs ++ news) { st with th := th0 } k
/-- Cells that come out of what never turns are appended: to be passed by what is known of them. -/
def apF (q : SQ) (d : Nat) (th0 : List (Key × Thing)) (n : Nat) (xs : List Value) (a : Option Addr) (m : Nat) (st : St) (k : SV → St → Prop) : Prop :=
  ∃ news, (∀ s, st.F.p s → rowA s a news) ∧ apG q d th0 n xs m news st k
def apD (t : Option Thing) (q : SQ) (d : Nat) (th0 : List (Key × Thing)) (n : Nat) (xs : List Value) (st : St) (k : SV → St → Prop) : Prop :=
  match t with
  | some (.row _ sz m ys) => sz = q.sz ∧ apG q d th0 n xs m ys st k
  | _ => False
def bytesV (s : ByteArray) : List Value := s.data.toList.map fun b => .int .u8 b.toNat
def apC (q : SQ) (d : Nat) (th0 : List (Key × Thing)) (n : Nat) (xs : List Value) (x : SV) (st : St) (k : SV → St → Prop) : Prop :=
  match x with
  | .row r => apD (fd st.th r) q d th0 n xs st k
  | .v (.slice a m _) => apF q d th0 n xs a m st k
  | .v (.string s) => apG q d th0 n xs s.size (bytesV s) st k
  | _ => False
def apB (t : Option Thing) (q : SQ) (d : Nat) (th0 : List (Key × Thing)) (x : SV) (st : St) (k : SV → St → Prop) : Prop :=
  match t with
  | some (.row et sz n xs) => (et = q.e ∧ sz = q.sz) ∧ apC q d th0 n xs x st k
  | _ => False
def apx (q : Option SQ) (d : Option Tmp) (st : St) (b x : SV) (k : SV → St → Prop) : Prop :=
  match q, d, b with
  | some q, some d, .row r => apB (fd st.th r) q d (rm st.th r) x st k
  | some q, some d, .v (.slice none 0 0) => apC q d st.th 0 [] x st k
  | _, _, _ => False

theorem apG_run {P : Program} {cx : Cx} {st : St} {e : Env} {s : Hp} {a : Act} {w : World} (hs : Sat1 cx st e s a w) {t u ty : TypeId} {q : SQ} (hq : sq P t = some q) {d : Nat} {th0 : List (Key × Thing)} {n : Nat} {xs : List Value} {m : Nat} {news : List Value} {k : SV → St → Prop} {v x : Value}
    (hsub : ∀ k t, fd th0 k = some t → fd st.th k = some t) (hown : w.ownsRow 0 q.e q.sz v n xs) (hold : ∀ g, v.ownBlock = some g → ∃ r t0, fd st.th r = some t0 ∧ t0.blk e r = some g ∧ fd th0 r = none) (hsrc : Src P u x q.sz m news w)
    (h : apG q d th0 n xs m news st k) :
    ∃ x' v' st' e' s' w', k x' st' ∧ x'.is e' v' ∧ Sat1 cx st' e' s' a w' ∧ (Builtin.append_ #[t, u] ty #[v, x]).run P w = .ok v' w' := by
  obtain ⟨⟨h1, h2, h3, h4⟩, ⟨h5, h6, h7⟩, h8⟩ := h
  obtain ⟨v', w', r1, r2, r3⟩ := append_run (ty := ty) hq hown hsrc h1 h2 h3 h4
  have hsl : ∃ b m c, v' = .slice b m c := by
    rcases r2.2 with ⟨hv, _⟩ | ⟨g, cap, cur, hv, _⟩
    · exact ⟨_, _, _, hv⟩
    · exact ⟨_, _, _, hv⟩
  have fin : (∀ g, g < w.heap.size → v'.ownBlock ≠ some g → w'.heap[g]? = w.heap[g]?) → (∀ g, v'.ownBlock = some g → g = w.heap.size ∨ ∃ r t0, fd st.th r = some t0 ∧ t0.blk e r = some g ∧ fd th0 r = none) → w'.os = w.os → w'.tape = w.tape → w'.output = w.output → w.heap.size ≤ w'.heap.size →
      ∃ x' v' st' e' s' w', k x' st' ∧ x'.is e' v' ∧ Sat1 cx st' e' s' a w' ∧ (Builtin.append_ #[t, u] ty #[v, x]).run P w = .ok v' w' := by
    intro f1 f2 f3 f4 f5 f6
    obtain ⟨e', g1, g2, _⟩ := hs.newRowAt hsub h6 h7 r2 hsl f1 (fun g hg => (f2 g hg).imp (fun h => Nat.le_of_eq h.symm) id) f3 f4 f5 f6
    exact ⟨_, v', _, e', s, w', h8, g2, g1, r1⟩
  rcases r3 with ⟨rfl, rfl⟩ | ⟨g, cur, new, g1, g2, g3, rfl⟩ | ⟨o, g1, rfl⟩
  · exact fin (fun g _ _ => rfl) (fun g hg => .inr (hold g hg)) rfl rfl rfl (Nat.le_refl _)
  · refine fin (fun g' _ hne => setRow_other w g g' new fun he => hne (by rw [he]; exact g2)) (fun g' hg' => .inr (hold g' (by rw [g2] at hg'; rw [← hg']; exact g1))) rfl rfl rfl (by simp [World.setRow])
  · refine fin (fun g' hlt hne => Below.heap_alloc w.drew o g' hlt) (fun g' hg' => .inl (by rw [g1] at hg'; exact (Option.some.inj hg').symm)) rfl rfl rfl (by simp)
theorem uq_spec {P : Program} {u : TypeId} (h : uq P u = true) : ∃ d, P.underlying u = some d ∧ ∀ k, d ≠ .int k := by
  unfold uq at h
  split at h
  · exact ⟨_, by assumption, fun k => by simp⟩
  · exact ⟨_, by assumption, fun k => by simp⟩
  · cases h
theorem apC_run {P : Program} {cx : Cx} {st : St} {e : Env} {s : Hp} {a : Act} {w : World} (hs : Sat1 cx st e s a w) {t u ty : TypeId} {q : SQ} (hq : sq P t = some q) (hu : uq P u = true) {d : Nat} {th0 : List (Key × Thing)} {n : Nat} {xs : List Value} {k : SV → St → Prop} {v vx : Value} {x : SV} (hx : x.is e vx)
    (hsub : ∀ k t, fd th0 k = some t → fd st.th k = some t) (hown : w.ownsRow 0 q.e q.sz v n xs) (hold : ∀ g, v.ownBlock = some g → ∃ r t0, fd st.th r = some t0 ∧ t0.blk e r = some g ∧ fd th0 r = none)
    (h : apC q d th0 n xs x st k) :
    ∃ x' v' st' e' s' w', k x' st' ∧ x'.is e' v' ∧ Sat1 cx st' e' s' a w' ∧ (Builtin.append_ #[t, u] ty #[v, vx]).run P w = .ok v' w' := by
  unfold apC at h
  split at h
  · rename_i r
    unfold apD at h
    split at h
    · rename_i et sz m ys hf
      obtain ⟨rfl, h⟩ := h
      have hh := hs.own.holds _ _ hf
      simp only [SV.is] at hx
      obtain ⟨rfl, _⟩ := hx
      refine apG_run hs hq hsub hown hold ⟨uq_spec hu, ?_, ?_, ?_⟩ h
      · intro w'
        rcases hh.1.2 with ⟨h1, h2⟩ | ⟨g, cap, cur, h1, _⟩
        · rw [h1, h2]; simp [Builtin.lenOf]
        · rw [h1]; simp [Builtin.lenOf]
      all_goals
        rcases hh.1.2 with ⟨h1, h2⟩ | ⟨g, cap, cur, h1, _⟩
        · have : ys = [] := List.eq_nil_of_length_eq_zero (by rw [hh.1.1, h2]; simp)
          rw [h1, this]
          exact run_firstCells_none _ _ _ _ _
        · have hc := hh.1.cells (g := g) (by rw [h1]; rfl)
          rw [h1]
          exact run_firstCells_some _ q.sz m ⟨g, 0, none⟩ m cap ys hh.1.1 fun j u hu => hc j u hu
    · exact h.elim
  · rename_i ad m c
    simp only [is_v] at hx
    subst hx
    obtain ⟨news, h1, h2⟩ := h
    refine apG_run hs hq hsub hown hold ⟨uq_spec hu, fun w => by simp [Builtin.lenOf], ?_, ?_⟩ h2
    all_goals
      rcases h1 s hs.fact with rfl | ⟨ad', rfl, hat⟩
      · have hm : m = 0 := by
          have h9 := h2.1.1
          simp only [List.length_nil] at h9
          obtain ⟨_, _, _, _, _, _, _, _, _, hpos⟩ := sq_spec hq
          rcases Nat.eq_zero_or_pos m with h0 | h0
          · exact h0
          · have := Nat.mul_pos h0 hpos
            omega
        subst hm
        cases ad with
        | none => exact run_firstCells_none _ _ _ _ _
        | some ad => simp [Builtin.firstCells, loadCells, loadCellsFrom]
      · obtain ⟨hsp, hc⟩ := hat
        obtain ⟨b, o, sp⟩ := ad'
        simp only at hsp hc
        subst hsp
        exact run_firstCells_some _ q.sz m ⟨b, o, none⟩ m c news h2.1.1 fun j u hu => by
          rw [Addr.add_mid]
          exact hs.inw.cell _ _ _ (hc j u hu)
  · rename_i str
    simp only [is_v] at hx
    subst hx
    refine apG_run hs hq hsub hown hold ⟨uq_spec hu, fun w => by simp [Builtin.lenOf], ?_, ?_⟩ h
    all_goals
      simp only [Builtin.firstCells, Sem.run_pure]
      congr 1
      unfold bytesV
      have : str.extract 0 str.size = str := by
        apply ByteArray.ext
        simp
      rw [this]
      apply Array.ext'
      simp
  · exact h.elim
theorem fd_rm_sub {th : List (Key × Thing)} {r k : Key} {t : Thing} (h : fd (rm th r) k = some t) : fd th k = some t := by
  rw [fd_rm] at h
  split at h
  · cases h
  · exact h
theorem apx_run {P : Program} {cx : Cx} {st : St} {e : Env} {s : Hp} {a : Act} {w : World} (hs : Sat1 cx st e s a w) {t u ty : TypeId} (hu : uq P u = true) {d : Option Tmp} {k : SV → St → Prop} {vb vx : Value} {b x : SV} (hb : b.is e vb) (hx : x.is e vx) (h : apx (sq P t) d st b x k) :
    ∃ x' v' st' e' s' w', k x' st' ∧ x'.is e' v' ∧ Sat1 cx st' e' s' a w' ∧ (Builtin.append_ #[t, u] ty #[vb, vx]).run P w = .ok v' w' := by
  unfold apx at h
  split at h
  · rename_i q d r hq
    unfold apB at h
    split at h
    · rename_i et sz n xs hf
      obtain ⟨⟨rfl, rfl⟩, h⟩ := h
      have hh := hs.own.holds _ _ hf
      simp only [SV.is] at hb
      obtain ⟨rfl, _⟩ := hb
      exact apC_run hs hq hu hx (fun k t hk => fd_rm_sub hk) hh.1 (fun g hg => ⟨r, _, hf, hg, by rw [fd_rm, if_pos rfl]⟩) h
    · exact h.elim
  · rename_i q d hq
    simp only [is_v] at hb
    subst hb
    exact apC_run hs hq hu hx (fun k t hk => hk) (World.ownsRow_nil w 0 _ _) (fun g hg => by simp [Value.ownBlock] at hg) h
  · exact h.elim
end Go.Proofs.YtmamodnpghlgcaaDoor
/- Every operation in one function; calls. -/
set_option linter.unusedVariables false
set_option linter.unusedSimpArgs false
namespace Go.Proofs.YtmamodnpghlgcaaDoor
open Go.RowKit

/-! ### Calls -/
/-- What a call of a Go function does, as a state sees it. -/
def CallPost (cx : Cx) (a : Act) (k : SV → St → Prop) (Qp : Value → St → Prop) : Ending → World → Prop
  | .returned v, w' => ∃ x st' e' s', k x st' ∧ Sat1 cx st' e' s' a w' ∧ x.is e' v
  | .panicked c, w' => ∃ v st' e' s', c = [{ v := v, recovered := false }] ∧ Qp v st' ∧ Sat1 cx st' e' s' a w'
  | .outgrown, _ => False
/-- A call: to be passed by what is known of the function. -/
structure callL (P : Program) (f : FuncId) (args : List SV) (st : St) (k : SV → St → Prop) (Qp : Value → St → Prop) : Prop where
  run : ∀ cx e s a w vs, Sat1 cx st e s a w → SV.isL e args vs → Calls P f vs.toArray w (CallPost cx a k Qp)
/-- A call of a loop's yield: to be passed by what is known of the loop. -/
structure yieldL (P : Program) (l : Nat) (args : List SV) (st : St) (k : SV → St → Prop) (Qp : Value → St → Prop) : Prop where
  run : ∀ cx e s a w vs, Sat1 cx st e s a w → SV.isL e args vs → YieldAt Fence.wide 0 P l vs.toArray w (CallPost cx a k Qp)
def fnOK (P : Program) (f : FuncId) : Bool := match P.funcs[f]? with | some fn => fn.body.isSome && fn.name != "runtime.NumGoroutine" | none => false
theorem fnOK_run {P : Program} {f : FuncId} (h : fnOK P f = true) (args : Array Value) (w : World) : (callFunc f args).run P w = .ok (.enter f args) w := by
  unfold fnOK at h
  split at h
  · rename_i fn hf
    rw [Bool.and_eq_true] at h
    have h2 : fn.name ≠ "runtime.NumGoroutine" := by simpa using h.2
    have h3 : fn.body ≠ none := by
      intro hb
      simp [hb] at h
    simp [callFunc, program, Sem.run, hf, h2, h3]
  · cases h
def callx (P : Program) (st : St) (fv : SV) (args : List SV) (k : SV → St → Prop) (Qp : Value → St → Prop) : Prop :=
  match fv with
  | .clo (.func f) cs => fnOK P f = true ∧ callL P f (args ++ cs) st k Qp
  | .v (.func (.func f) first cs) => (fnOK P f = true ∧ first = #[]) ∧ callL P f (args ++ cs.toList.map .v) st k Qp
  | .v (.func (.yield l) first cs) => (first = #[] ∧ cs = #[]) ∧ yieldL P l args st k Qp
  | _ => False

/-! ### A function that only reads what never turns, and makes what never turns -/
structure Grew (s : Hp) (w : World) (G : Fact) (s' : Hp) (w' : World) : Prop where
  le : s.le s'
  inw : s'.inw w'
  fact : G.p s'
  new : ∀ g, s'.has g → s.has g ∨ w.heap.size ≤ g
  below : Below w.heap.size w w'
def FnPost (R : Value → Fact → Prop) (s : Hp) (w : World) : Ending → World → Prop
  | .returned v, w' => ∃ G s', R v G ∧ Grew s w G s' w'
  | .panicked _, _ => False
  | .outgrown, _ => False
def Fn (P : Program) (f : FuncId) (args : List Value) (F : Fact) (R : Value → Fact → Prop) : Prop :=
  ∀ s w, s.inw w → F.p s → Calls P f args.toArray w (FnPost R s w)
theorem Sat1.grew {cx : Cx} {st : St} {e : Env} {s s' : Hp} {a : Act} {w w' : World} {G : Fact} (h : Sat1 cx st e s a w) (hg : Grew s w G s' w') : Sat1 cx { st with F := st.F.and G } e s' a w' := by
  have hb := hg.below
  refine { size := h.size, ntB := h.ntB, nodef := h.nodef, tm := h.tm, own := ?_, fresh := h.fresh, inw := hg.inw, ge := Hp.le_trans h.ge hg.le, new := fun g hs => (hg.new g hs).elim (h.new g) (fun h1 => .inr (.inl (Nat.le_trans h.grow h1))), fact := ⟨st.F.mono _ _ hg.le h.fact, hg.fact⟩, os := hb.os.trans h.os, tape := hb.tape.trans h.tape, output := hb.output.trans h.output, grow := Nat.le_trans h.grow hb.size, frame := ?_, borB := h.borB, bnB := h.bnB }
  · refine ⟨fun k t hk => Thing.holds_block (h.own.holds k t hk) fun g hgk => hb.block g (Thing.blk_lt (h.own.holds k t hk) hgk), h.own.apart, fun k t g hk hgk hs => ?_⟩
    rcases hg.new g hs with h1 | h1
    · exact h.own.free k t g hk hgk h1
    · have := Thing.blk_lt (h.own.holds k t hk) hgk
      omega
  · intro g hlt hbor
    rw [hb.block g (Nat.lt_of_lt_of_le hlt h.grow)]
    exact h.frame g hlt hbor
theorem callL_fn {P : Program} {f : FuncId} {args : List SV} {vs : List Value} {F : Fact} {R : Value → Fact → Prop} {st : St} {k : SV → St → Prop} {Qp : Value → St → Prop} (hf : Fn P f vs F R) (hv : vals args = some vs) (hF : ∀ s, st.F.p s → F.p s)
    (hk : ∀ v G, R v G → k (.v v) { st with F := st.F.and G }) : callL P f args st k Qp := by
  refine ⟨?_⟩
  intro cx e s a w us hs hl
  have := vals_spec (e := e) hv
  rw [this] at hl
  have hu := SV.isL_map_eq vs hl
  subst hu
  refine (hf s w hs.inw (hF s hs.fact)).mono fun en w' hp => ?_
  cases en with
  | returned v =>
    obtain ⟨G, s', h1, h2⟩ := hp
    exact ⟨_, _, e, s', hk v G h1, hs.grew h2, by simp [SV.is]⟩
  | panicked c => exact hp.elim
  | outgrown => exact hp.elim

/-- The same, where nothing that the function makes is asked for. -/
theorem callL_fn0 {P : Program} {f : FuncId} {args : List SV} {vs : List Value} {F : Fact} {R : Value → Fact → Prop} {st : St} {k : SV → St → Prop} {Qp : Value → St → Prop} (hf : Fn P f vs F R) (hv : vals args = some vs) (hF : ∀ s, st.F.p s → F.p s)
    (hk : ∀ v G, R v G → k (.v v) st) : callL P f args st k Qp := by
  refine ⟨?_⟩
  intro cx e s a w us hs hl
  refine (callL_fn (k := fun x st' => k x st ∧ st' = { st with F := st'.F } ∧ ∀ s, st'.F.p s → st.F.p s) (Qp := Qp) hf hv hF (fun v G hr => ⟨hk v G hr, rfl, fun _ h => h.1⟩)).run cx e s a w us hs hl |>.mono fun en w' hp => ?_
  cases en with
  | returned v =>
    obtain ⟨x, st', e', s', ⟨h1, h2, h3⟩, h4, h5⟩ := hp
    rw [h2] at h4
    exact ⟨x, st, e', s', h1, { h4 with fact := h3 _ h4.fact }, h5⟩
  | panicked c => exact hp
  | outgrown => exact hp.elim

/-! ### Every operation -/
def evs (st : St) : List Operand → List SV
  | [] => []
  | x :: l => st.ev x :: evs st l
def evp (st : St) : List (Nat × Operand) → List (Nat × SV)
  | [] => []
  | (i, x) :: l => (i, st.ev x) :: evp st l
def evo (st : St) : Option Operand → Option SV
  | none => none
  | some x => some (st.ev x)
def kv (k : SV → St → Prop) (st : St) (x : SV) : Prop := k x st
theorem evs_is {cx : Cx} {st : St} {e : Env} {s : Hp} {a : Act} {w : World} (h : Sat1 cx st e s a w) : ∀ l : List Operand, SV.isL e (evs st l) (l.map a.eval)
  | [] => by simp [evs, SV.isL]
  | x :: l => by simp only [evs, List.map_cons, SV.isL_cons]; exact ⟨h.ev x, evs_is h l⟩
theorem evp_is {cx : Cx} {st : St} {e : Env} {s : Hp} {a : Act} {w : World} (h : Sat1 cx st e s a w) : ∀ l : List (Nat × Operand), partsIs e (evp st l) (l.map fun (i, x) => (i, a.eval x))
  | [] => by simp [evp, partsIs]
  | (i, x) :: l => by simp only [evp, List.map_cons, partsIs]; exact ⟨_, _, rfl, h.ev x, evp_is h l⟩
def bix (P : Program) (b : Builtin) (d : Option Tmp) (st : St) (args : List SV) (ts : List TypeId) (k : SV → St → Prop) : Prop :=
  match b, args, ts with
  | .len, [x], [t] => lenx (eqy P t) st.th x (kv k st)
  | .max, [x, y], _ => maxx x y (kv k st)
  | .min, [x, y], _ => minx x y (kv k st)
  | .append, [x, y], [t, u] => uq P u = true ∧ apx (sq P t) d st x y k
  | _, _, _ => False
def panx (x : SV) (st : St) (Qp : Value → St → Prop) : Prop :=
  match x with
  | .v (.iface t v) => Qp (.iface t v) st
  | _ => False
def strT : TypeId := 9
/-- Whether a slice of bytes is made a string. -/
def bsq (P : Program) (s t : TypeId) : Bool :=
  (t == strT) && (match P.underlying s with | some (.slice e) => (match P.underlying e with | some (.int .u8) => true | _ => false) | _ => false) && (match P.underlying t with | some .string => true | _ => false)
theorem bsq_spec {P : Program} {s t : TypeId} (h : bsq P s t = true) : t = strT ∧ ∃ e, P.underlying s = some (.slice e) ∧ P.underlying e = some (.int .u8) ∧ P.underlying t = some .string := by
  unfold bsq at h
  simp only [Bool.and_eq_true, beq_iff_eq] at h
  obtain ⟨⟨h1, h2⟩, h3⟩ := h
  refine ⟨h1, ?_⟩
  split at h2
  · rename_i e he
    split at h2
    · rename_i h4
      split at h3
      · rename_i h5; exact ⟨e, he, h4, h5⟩
      · cases h3
    · cases h2
  · cases h2
/-- The numbers of bytes. -/
def u8s : List Value → Option (List Int)
  | [] => some []
  | .int .u8 n :: l => (u8s l).map (n :: ·)
  | _ => none
theorem u8s_nil : u8s [] = some [] := rfl
theorem u8s_cons (n : Int) (l : List Value) : u8s (.int .u8 n :: l) = (u8s l).map (n :: ·) := rfl
theorem u8s_map (l : List Int) : u8s (l.map (Value.int .u8)) = some l := by
  induction l with
  | nil => rfl
  | cons x l ih => simp [u8s, ih]
theorem u8s_spec : ∀ {l : List Value} {ns : List Int}, u8s l = some ns → l = ns.map (Value.int .u8)
  | [], ns, h => by simp [u8s] at h; simp [← h]
  | x :: l, ns, h => by
    unfold u8s at h
    split at h
    · rename_i h1; cases h1
    · rename_i n l' h1
      obtain ⟨rfl, rfl⟩ := List.cons.inj h1
      simp only [Option.map_eq_some_iff] at h
      obtain ⟨ns', h1, rfl⟩ := h
      rw [u8s_spec h1]
      rfl
    · cases h
/-- A text of bytes. -/
def bstr (ns : List Int) : ByteArray := ⟨(ns.map fun n => UInt8.ofNat n.toNat).toArray⟩
theorem bstr_fold : ∀ (ns : List Int) (r : ByteArray), ns.foldl (fun r n => r.push (UInt8.ofNat n.toNat)) r = ⟨r.data ++ (ns.map fun n => UInt8.ofNat n.toNat).toArray⟩
  | [], r => by simp
  | b :: l, r => by
    simp only [List.foldl_cons, List.map_cons]
    rw [bstr_fold l]
    simp [ByteArray.push]
def strK (k : SV → Prop) (ns : List Int) : Prop := k (.v (.string (bstr ns)))
def cvr (o : Option Thing) (k : SV → Prop) : Prop := match o with | some (.row _ 1 _ xs) => ox (u8s xs) (strK k) | _ => False
def cvy (b : Bool) (s t : KQ) (th : List (Key × Thing)) (x : SV) (k : SV → Prop) : Prop :=
  match x with
  | .row r => b = true ∧ cvr (fd th r) k
  | x => cvx s t x k
theorem cvy_run {P : Program} {cx : Cx} {st : St} {e : Env} {s : Hp} {a : Act} {w : World} (hs : Sat1 cx st e s a w) {t u : TypeId} {x : SV} {vx : Value} {k : SV → Prop} (hx : x.is e vx) (h : cvy (bsq P t u) (kq P t) (kq P u) st.th x k) :
    ∃ z v, k z ∧ z.is e v ∧ (Go.convert t u vx).run P w = .ok v w := by
  unfold cvy at h
  split at h
  · rename_i r
    obtain ⟨hb, h⟩ := h
    obtain ⟨_, el, h1, h2, h3⟩ := bsq_spec hb
    unfold cvr at h
    split at h
    · rename_i et n xs hr
      unfold ox at h
      split at h
      · rename_i ns hns
        refine ⟨_, _, h, is_v.2 rfl, ?_⟩
        have hxs := u8s_spec hns
        obtain ⟨hrow, _⟩ := hs.own.holds r _ hr
        simp only [SV.is] at hx
        obtain ⟨rfl, _⟩ := hx
        have hlen := hrow.1
        have hcl := fun g hg => hrow.cells (g := g) hg
        obtain ⟨_, ⟨hv, hn⟩ | ⟨g, cap, cur, hv, _⟩⟩ := hrow
        · rw [hv, run_convert_bytes_string w t u el _ _ _ h1 h2 h3]
          subst hn
          have : ns = [] := by
            have h9 : xs.length = 0 := by omega
            rw [hxs] at h9
            simpa using h9
          subst this
          simp only [Conv.bytesToString, Sem.run_pure]
          rfl
        · rw [hv, run_convert_bytes_string w t u el _ _ _ h1 h2 h3]
          have hcl := hcl g (by rw [hv]; rfl)
          have hl := run_loadCells_list (P := P) w ⟨g, 0, none⟩ xs hcl
          have hn : xs.length = n := by rw [hlen, Nat.mul_one]
          rw [hn, hxs] at hl
          rw [run_bytesToString w _ n cap ns hl, bstr_fold]
          have he0 : ByteArray.empty.data = #[] := rfl
          rw [he0]
          simp [bstr]
      · exact h.elim
    · exact h.elim
  · obtain ⟨z, v, h1, h2, h3⟩ := cvx_run hx h
    exact ⟨z, v, h1, h2, h3 w⟩
def opx (P : Program) (Qp : Value → St → Prop) (d : Option Tmp) (st : St) (k : SV → St → Prop) : Op → Prop
  | .move x => kv k st (st.ev x)
  | .assign x => kv k st (st.ev x)
  | .pick c a b => pickx (bz (st.ev c)) (st.ev a) (st.ev b) (kv k st)
  | .alloc t => allx (zq P t) d t st k
  | .box t x => bxx d t (st.ev x) st k
  | .build t ps => bdx P t (bq P t) (zq P t) (evp st ps.toList) (kv k st)
  | .buildSlice t n ps => bsx (sq P t) d n (evp st ps.toList) st k
  | .load t x => loadx (tq P t) st (st.ev x) (kv k st)
  | .store t x y => storx (tq P t) st (st.ev x) (st.ev y) k
  | .binOp op t x y _ => binx (isC x || isC y) (kq P t) P t op (st.ev x) (st.ev y) (kv k st)
  | .unOp op _ x => unx op (bz (st.ev x)) (kv k st)
  | .convert s t x => cvy (bsq P s t) (kq P s) (kq P t) st.th (st.ev x) (kv k st)
  | .makeInterface t x => mix (kq P t) t (st.ev x) (kv k st)
  | .makeFunc fn fs cs => mfx fn (evs st fs.toList) (evs st cs.toList) (kv k st)
  | .makeSlice t l c => msx (sq P t) d (st.ev l) (st.ev c) st k
  | .slice t x lo hi none => slx (eqy P t) (st.ev x) (evo st lo) (evo st hi) (kv k st)
  | .fieldAddr t x f => fax (fq P t f) (st.ev x) (kv k st)
  | .field t x f => fldx (fq P t f) (st.ev x) (kv k st)
  | .indexAddr t x i => iax (eqy P t) st.F st.th (st.ev x) (st.ev i) (kv k st)
  | .index t x i => ixx (eqy P t) (st.ev x) (st.ev i) (kv k st)
  | .typeAssert x _ t ok => tax (kq P t) (st.ev x) t ok (kv k st)
  | .extract x i => extx (st.ev x) i (kv k st)
  | .call ⟨.builtin b, args, ts⟩ => bix P b d st (evs st args.toList) ts.toList k
  | .call ⟨.value f, args, _⟩ => callx P st (st.ev f) (evs st args.toList) k Qp
  | .panic x => panx (st.ev x) st Qp
  | _ => False

theorem run_v {P : Program} {x : Sem Value} {w w' : World} {v : Value} (h : x.run P w = .ok v w') : ((do pure (.value (← x))) : Sem Next).run P w = .ok (.value v) w' := by
  rw [Sem.run_bind, h]; rfl
theorem run_u {P : Program} {x : Sem Unit} {w w' : World} (h : x.run P w = .ok () w') : ((do x; pure .skip) : Sem Next).run P w = .ok .skip w' := by
  rw [Sem.run_bind, h]; rfl
theorem callx_ok {P : Program} {cx : Cx} {Qp : Value → St → Prop} {o : Oper} {st : St} {k : SV → St → Prop} {f : Operand} {args : Array Operand} {ts : Array TypeId} (ho : o.op = .call ⟨.value f, args, ts⟩) (h : callx P st (st.ev f) (evs st args.toList) k Qp) : OpOK P cx o st k Qp := by
  intro e s a w hs
  have hf := hs.ev f
  have hargs := evs_is hs args.toList
  have core : ∀ (g : FuncId) (cs : List SV) (ys : Array Value), a.eval f = .func (.func g) #[] ys → SV.isL e cs ys.toList → fnOK P g = true → callL P g (evs st args.toList ++ cs) st k Qp → wpr P o a w (Then cx k o.dst) (Abort cx Qp) := by
    intro g cs ys hfv hcs hok hc
    have hr : (execOp a.eval o).run P w = .ok (.enter g (args.map a.eval ++ ys)) w := by
      simp only [execOp, ho, resolve, hfv, Deferred.ofValue, Sem.run_bind, Sem.run_pure, Result.andThen_ok, invoke, Array.empty_append]
      exact fnOK_run hok _ w
    refine wpr_of_wp ?_
    unfold Oper.wp
    rw [hr, Oper.upon_enter]
    have := hc.run cx e s a w _ hs (SV.isL_append hargs hcs)
    have he : (args.toList.map a.eval ++ ys.toList).toArray = args.map a.eval ++ ys := by
      apply Array.ext'; simp
    rw [he] at this
    refine this.mono fun en w' hp => ?_
    cases en with
    | returned v =>
      obtain ⟨x, st', e', s', h1, h2, h3⟩ := hp
      exact ⟨x, st', e', s', v, a, h1, h2, h3, rfl⟩
    | panicked c =>
      obtain ⟨v, st', e', s', h1, h2, h3⟩ := hp
      exact ⟨v, st', h1, h2, e', s', h3⟩
    | outgrown => exact hp.elim
  unfold callx at h
  split at h
  · rename_i g cs hfs
    rw [hfs] at hf
    simp only [SV.is] at hf
    obtain ⟨ys, h1, h2⟩ := hf
    exact core g cs ys h1 h2 h.1 h.2
  · rename_i g first cs hfs
    rw [hfs] at hf
    simp only [is_v] at hf
    obtain ⟨⟨h1, rfl⟩, h2⟩ := h
    exact core g (cs.toList.map .v) cs hf (SV.isL_map _) h1 h2
  · rename_i l first cs hfs
    rw [hfs] at hf
    simp only [is_v] at hf
    obtain ⟨⟨rfl, rfl⟩, h2⟩ := h
    obtain ⟨fn, tmps, asg, body, hy, hr⟩ := h2.run cx e s a w _ hs hargs
    have hr0 : (execOp a.eval o).run P w = .ok (.round l fn tmps asg body) w := by
      have he : (args.toList.map a.eval).toArray = args.map a.eval := by apply Array.ext'; simp
      rw [he] at hy
      simp [execOp, ho, resolve, hf, Deferred.ofValue, Sem.run_bind, Sem.run_pure, Result.andThen_ok, invoke, hy]
    refine wpr_run ?_
    rw [hr0, Oper.uponIn_round]
    refine ⟨fun h => absurd h wide_no, hr.mono fun en w' hp => ?_⟩
    cases en with
    | returned v =>
      obtain ⟨x, st', e', s', h1, h2, h3⟩ := hp
      exact ⟨x, st', e', s', v, a, h1, h2, h3, rfl⟩
    | panicked c =>
      obtain ⟨v, st', e', s', h1, h2, h3⟩ := hp
      exact ⟨v, st', h1, h2, e', s', h3⟩
    | outgrown => exact hp.elim
  · exact h.elim
theorem bix_ok {P : Program} {cx : Cx} {Qp : Value → St → Prop} {o : Oper} {st : St} {k : SV → St → Prop} {b : Builtin} {args : Array Operand} {ts : Array TypeId} (ho : o.op = .call ⟨.builtin b, args, ts⟩) (h : bix P b o.dst st (evs st args.toList) ts.toList k) : OpOK P cx o st k Qp := by
  have hb : ∀ (a : Act) (w : World), (execOp a.eval o) = Go.builtin b ts o.type (args.map fun | .const _ => true | _ => false) (args.map a.eval) := by
    intro a w
    simp only [execOp, ho, resolve]
    rfl
  unfold bix at h
  split at h
  · rename_i x t hx ht
    refine opOK_pure fun e s a w hs => ?_
    have hargs := evs_is hs args.toList
    rw [hx] at hargs
    simp only [SV.isL] at hargs
    obtain ⟨vx, ys, hy, h1, rfl⟩ := hargs
    obtain ⟨z, v, h2, h3, h4⟩ := lenx_run hs (t := t) (ty := o.type) h1 h
    refine ⟨z, v, h2, h3, ?_⟩
    have e1 : args.map a.eval = #[vx] := by apply Array.ext'; simpa using hy
    have e2 : ts = #[t] := by apply Array.ext'; simpa using ht
    rw [hb a w, e1, e2]
    exact run_v (h4 w)
  · rename_i x y _ hx
    refine opOK_pure fun e s a w hs => ?_
    have hargs := evs_is hs args.toList
    rw [hx] at hargs
    simp only [SV.isL] at hargs
    obtain ⟨vx, ys, hy, h1, vy, ys', rfl, h1', rfl⟩ := hargs
    obtain ⟨z, v, h2, h3, h4⟩ := maxx_run (P := P) (ts := ts) (ty := o.type) h1 h1' h
    refine ⟨z, v, h2, h3, ?_⟩
    have e1 : args.map a.eval = #[vx, vy] := by apply Array.ext'; simpa using hy
    rw [hb a w, e1]
    exact run_v (h4 w)
  · rename_i x y _ hx
    refine opOK_pure fun e s a w hs => ?_
    have hargs := evs_is hs args.toList
    rw [hx] at hargs
    simp only [SV.isL] at hargs
    obtain ⟨vx, ys, hy, h1, vy, ys', rfl, h1', rfl⟩ := hargs
    obtain ⟨z, v, h2, h3, h4⟩ := minx_run (P := P) (ts := ts) (ty := o.type) h1 h1' h
    refine ⟨z, v, h2, h3, ?_⟩
    have e1 : args.map a.eval = #[vx, vy] := by apply Array.ext'; simpa using hy
    rw [hb a w, e1]
    exact run_v (h4 w)
  · rename_i x y t u hx ht
    obtain ⟨hu, h⟩ := h
    refine opOK_val fun e s a w hs => ?_
    have hargs := evs_is hs args.toList
    rw [hx] at hargs
    simp only [SV.isL] at hargs
    obtain ⟨vx, ys, hy, h1, vy, ys', rfl, h1', rfl⟩ := hargs
    obtain ⟨x', v', st', e', s', w', h2, h3, h4, h5⟩ := apx_run hs (t := t) (ty := o.type) hu h1 h1' h
    refine ⟨x', v', st', e', s', w', h2, h3, h4, ?_⟩
    have e1 : args.map a.eval = #[vx, vy] := by apply Array.ext'; simpa using hy
    have e2 : ts = #[t, u] := by apply Array.ext'; simpa using ht
    rw [hb a w, e1, e2]
    exact run_v h5
  · exact h.elim
theorem opx_ok {P : Program} {cx : Cx} {Qp : Value → St → Prop} {o : Oper} {st : St} {k : SV → St → Prop} (h : opx P Qp o.dst st k o.op) : OpOK P cx o st k Qp := by
  cases ho : o.op <;> rw [ho] at h <;> try exact h.elim
  case move x => exact opOK_pure fun e s a w hs => ⟨_, _, h, hs.ev x, by simp only [execOp, ho]; rfl⟩
  case assign x => exact opOK_pure fun e s a w hs => ⟨_, _, h, hs.ev x, by simp only [execOp, ho]; rfl⟩
  case pick c x y =>
    refine opOK_pure fun e s a w hs => ?_
    have hc := hs.ev c
    simp only [opx, bz] at h
    unfold pickx at h
    split at h
    · rename_i t hct
      rw [hct] at hc
      simp only [is_v] at hc
      cases t with
      | true => exact ⟨_, _, h.1 rfl, hs.ev x, by simp [execOp, ho, hc, asBool]⟩
      | false => exact ⟨_, _, h.2 rfl, hs.ev y, by simp [execOp, ho, hc, asBool]⟩
    · exact h.elim
  case alloc t =>
    refine opOK_val fun e s a w hs => ?_
    obtain ⟨x, v, st', e', s', w', h1, h2, h3, h4⟩ := allx_run hs h
    exact ⟨x, v, st', e', s', w', h1, h2, h3, by simp only [execOp, ho]; exact run_v h4⟩
  case box t x =>
    refine opOK_val fun e s a w hs => ?_
    obtain ⟨x, v, st', e', s', w', h1, h2, h3, h4⟩ := bxx_run (P := P) hs (hs.ev x) h
    exact ⟨x, v, st', e', s', w', h1, h2, h3, by simp only [execOp, ho]; exact run_v h4⟩
  case build t ps =>
    refine opOK_pure fun e s a w hs => ?_
    obtain ⟨z, v, h1, h2, h3⟩ := bdx_run (evp_is hs ps.toList) h
    refine ⟨z, v, h1, h2, ?_⟩
    simp only [execOp, ho]
    have : (ps.map fun (i, x) => (i, a.eval x)) = (ps.toList.map fun (i, x) => (i, a.eval x)).toArray := by apply Array.ext'; simp
    rw [this]
    exact run_v (h3 w)
  case buildSlice t n ps =>
    refine opOK_val fun e s a w hs => ?_
    obtain ⟨x, v, st', e', s', w', h1, h2, h3, h4⟩ := bsx_run hs (evp_is hs ps.toList) h
    refine ⟨x, v, st', e', s', w', h1, h2, h3, ?_⟩
    simp only [execOp, ho]
    have : (ps.map fun (i, x) => (i, a.eval x)) = (ps.toList.map fun (i, x) => (i, a.eval x)).toArray := by apply Array.ext'; simp
    rw [this]
    exact run_v h4
  case load t x =>
    refine opOK_pure fun e s a w hs => ?_
    obtain ⟨z, v, h1, h2, h3⟩ := loadx_run hs (hs.ev x) h
    exact ⟨z, v, h1, h2, by simp only [execOp, ho]; exact run_v h3⟩
  case store t x y =>
    refine opOK_skip fun e s a w hs => ?_
    obtain ⟨st', w', h1, h2, h3⟩ := storx_run hs (hs.ev x) (hs.ev y) h
    exact ⟨st', e, s, w', h1, h2, by simp only [execOp, ho]; exact run_u h3⟩
  case binOp op t x y u =>
    refine opOK_pure fun e s a w hs => ?_
    obtain ⟨z, v, h1, h2, h3⟩ := binx_run (o1 := x) (o2 := y) (hs.ev x) (hs.ev y) h
    exact ⟨z, v, h1, h2, by simp only [execOp, ho]; exact run_v (h3 w)⟩
  case unOp op t x =>
    refine opOK_pure fun e s a w hs => ?_
    obtain ⟨z, v, h1, h2, h3⟩ := unx_run (P := P) (hs.ev x) h
    exact ⟨z, v, h1, h2, by simp only [execOp, ho]; exact run_v (h3 w)⟩
  case convert t u x =>
    refine opOK_pure fun e s a w hs => ?_
    obtain ⟨z, v, h1, h2, h3⟩ := cvy_run hs (hs.ev x) h
    exact ⟨z, v, h1, h2, by simp only [execOp, ho]; exact run_v h3⟩
  case makeInterface t x =>
    refine opOK_pure fun e s a w hs => ?_
    obtain ⟨z, v, h1, h2, h3⟩ := mix_run (hs.ev x) h
    exact ⟨z, v, h1, h2, by simp only [execOp, ho]; exact run_v (h3 w)⟩
  case makeFunc fn fs cs =>
    refine opOK_pure fun e s a w hs => ?_
    obtain ⟨h1, h2⟩ := h
    have hcs := evs_is hs cs.toList
    have hfs : fs = #[] := by
      cases fs with | mk l => cases l with
        | nil => rfl
        | cons x l => simp [evs] at h1
    refine ⟨_, .func fn #[] (cs.map a.eval), h2, ?_, ?_⟩
    · exact mkClo_is (by simpa using hcs)
    · subst hfs
      simp only [execOp, ho]
      exact run_v (by simp [Instr.makeFunc])
  case makeSlice t l c =>
    refine opOK_val fun e s a w hs => ?_
    obtain ⟨x, v, st', e', s', w', h1, h2, h3, h4⟩ := msx_run hs (hs.ev l) (hs.ev c) h
    exact ⟨x, v, st', e', s', w', h1, h2, h3, by simp only [execOp, ho]; exact run_v h4⟩
  case slice t x lo hi mx =>
    cases mx with
    | some m => exact h.elim
    | none =>
      refine opOK_pure fun e s a w hs => ?_
      obtain ⟨z, v, h1, h2, h3⟩ := slx_run (P := P) (t := t) (vlo := lo.map a.eval) (vhi := hi.map a.eval) (hs.ev x) (by cases lo <;> simp [evo, hs.ev]) (by cases hi <;> simp [evo, hs.ev]) h
      exact ⟨z, v, h1, h2, by simp only [execOp, ho]; exact run_v (h3 w)⟩
  case fieldAddr t x f =>
    refine opOK_pure fun e s a w hs => ?_
    obtain ⟨z, v, h1, h2, h3⟩ := fax_run (hs.ev x) h
    exact ⟨z, v, h1, h2, by simp only [execOp, ho]; exact run_v (h3 w)⟩
  case field t x f =>
    refine opOK_pure fun e s a w hs => ?_
    obtain ⟨z, v, h1, h2, h3⟩ := fldx_run (hs.ev x) h
    exact ⟨z, v, h1, h2, by simp only [execOp, ho]; exact run_v (h3 w)⟩
  case indexAddr t x i =>
    refine opOK_pure fun e s a w hs => ?_
    obtain ⟨z, v, h1, h2, h3⟩ := iax_run hs (hs.ev x) (hs.ev i) h
    exact ⟨z, v, h1, h2, by simp only [execOp, ho]; exact run_v (h3 w)⟩
  case index t x i =>
    refine opOK_pure fun e s a w hs => ?_
    obtain ⟨z, v, h1, h2, h3⟩ := ixx_run (hs.ev x) (hs.ev i) h
    exact ⟨z, v, h1, h2, by simp only [execOp, ho]; exact run_v (h3 w)⟩
  case typeAssert x u t ok =>
    refine opOK_pure fun e s a w hs => ?_
    obtain ⟨z, v, h1, h2, h3⟩ := tax_run (xt := u) (hs.ev x) h
    exact ⟨z, v, h1, h2, by simp only [execOp, ho]; exact run_v (h3 w)⟩
  case extract x i =>
    refine opOK_pure fun e s a w hs => ?_
    obtain ⟨z, v, h1, h2, h3⟩ := extx_run (P := P) (hs.ev x) h
    exact ⟨z, v, h1, h2, by simp only [execOp, ho]; exact run_v (h3 w)⟩
  case call c =>
    obtain ⟨callee, args, ts⟩ := c
    cases callee with
    | value f => exact callx_ok ho h
    | invoke r m => exact h.elim
    | builtin b => exact bix_ok ho h
  case panic x =>
    intro e s a w hs
    have hx := hs.ev x
    simp only [opx] at h
    unfold panx at h
    split at h
    · rename_i t v hv
      rw [hv] at hx
      simp only [is_v] at hx
      have hr : (execOp a.eval o).run P w = .halt (.panic (.iface t v)) w := by
        simp only [execOp, ho, Instr.panic, hx, goPanic, Sem.run_bind, Sem.run]
        rfl
      refine wpr_of_wp ?_
      unfold Oper.wp
      rw [hr, Oper.upon_panic]
      exact ⟨_, st, rfl, h, e, s, hs⟩
    · exact h.elim
end Go.Proofs.YtmamodnpghlgcaaDoor
/- Sequences of operations, code, loops, functions. -/
set_option linter.unusedVariables false
set_option linter.unusedSimpArgs false
namespace Go.Proofs.YtmamodnpghlgcaaDoor
open Go.RowKit

/-! ### One operation behind the other -/
def gdst (all : List Oper) (j : Nat) : Option Tmp := (idx all j).bind (·.dst)
/-- A guard: both ways, the guard's own slot made plain. -/
def gq (want : Bool) (t : Tmp) (st : St) (A B : St → Prop) (g : SV) : Prop :=
  match g with
  | .v (.bool b) => (b = want → A (st.put (some t) (.v (.bool want)))) ∧ (b = !want → B (st.put (some t) (.v (.bool (!want)))))
  | .v (.tuple _) => B st
  | _ => False
def sq1 (P : Program) (Qp : Value → St → Prop) (all : List Oper) (K : St → Prop) : List Oper → St → Prop
  | [], st => K st
  | o :: r, st =>
    match o.guard with
    | none => opx P Qp o.dst st (fun x st => sq1 P Qp all K r (st.put o.dst x)) o.op
    | some (j, want) => match gdst all j with
      | some t => gq want t st (fun st => opx P Qp o.dst st (fun x st => sq1 P Qp all K r (st.put o.dst x)) o.op) (fun st => sq1 P Qp all K r (st.put o.dst (.v undef))) (bz (st.ev (.tmp t)))
      | none => False
def nx (P : Program) (Qp : Value → St → Prop) (all : List Oper) (K : St → Prop) (r : List Oper) (d : Option Tmp) (x : SV) (st : St) : Prop := sq1 P Qp all K r (st.put d x)
def gA (P : Program) (Qp : Value → St → Prop) (all : List Oper) (K : St → Prop) (r : List Oper) (d : Option Tmp) (op : Op) (st : St) : Prop := opx P Qp d st (nx P Qp all K r d) op
def gB (P : Program) (Qp : Value → St → Prop) (all : List Oper) (K : St → Prop) (r : List Oper) (d : Option Tmp) (st : St) : Prop := sq1 P Qp all K r (st.put d (.v undef))
section
variable (P : Program) (Qp : Value → St → Prop) (all : List Oper) (K : St → Prop)
theorem sq1_nil (st : St) : sq1 P Qp all K [] st = K st := rfl
theorem sq1_plain (d : Option Tmp) (op : Op) (ty : TypeId) (pos : String) (af : Array Edge) (r : List Oper) (st : St) : sq1 P Qp all K (⟨d, op, ty, pos, af, none⟩ :: r) st = opx P Qp d st (nx P Qp all K r d) op := rfl
def gt (o : Option Tmp) (want : Bool) (A : St → Prop) (B : St → Prop) (st : St) : Prop := match o with | some t => gq want t st A B (bz (st.ev (.tmp t))) | none => False
theorem sq1_guard (d : Option Tmp) (op : Op) (ty : TypeId) (pos : String) (af : Array Edge) (j : Nat) (want : Bool) (r : List Oper) (st : St) :
    sq1 P Qp all K (⟨d, op, ty, pos, af, some (j, want)⟩ :: r) st = gt (gdst all j) want (gA P Qp all K r d op) (gB P Qp all K r d) st := rfl
end
theorem gq_tt (t : Tmp) (st : St) (A B : St → Prop) : gq true t st A B (.v (.bool true)) = A (st.put (some t) (.v (.bool true))) := by simp [gq]
theorem gq_tf (t : Tmp) (st : St) (A B : St → Prop) : gq true t st A B (.v (.bool false)) = B (st.put (some t) (.v (.bool false))) := by simp [gq]
theorem gq_ft (t : Tmp) (st : St) (A B : St → Prop) : gq false t st A B (.v (.bool true)) = B (st.put (some t) (.v (.bool true))) := by simp [gq]
theorem gq_ff (t : Tmp) (st : St) (A B : St → Prop) : gq false t st A B (.v (.bool false)) = A (st.put (some t) (.v (.bool false))) := by simp [gq]
theorem gq_qt (t : Tmp) (st : St) (A B : St → Prop) (b : Bool) : gq true t st A B (SV.q b) = ((b = true → A (st.put (some t) (.v (.bool true)))) ∧ (b = false → B (st.put (some t) (.v (.bool false))))) := rfl
theorem gq_qf (t : Tmp) (st : St) (A B : St → Prop) (b : Bool) : gq false t st A B (SV.q b) = ((b = false → A (st.put (some t) (.v (.bool false)))) ∧ (b = true → B (st.put (some t) (.v (.bool true))))) := rfl

theorem gq_un (want : Bool) (t : Tmp) (st : St) (A B : St → Prop) : gq want t st A B (.v undef) = B st := rfl
/-- A guard's slot that nothing was written to. -/
theorem unwanted_tuple {o : Oper} {ops : Array Oper} {a : Act} {j : Nat} {want : Bool} {t : Tmp} {xs : Array Value} (hg : o.guard = some (j, want)) (ht : gdst ops.toList j = some t) (hx : a.tmps.getD t undef = .tuple xs) : Region.wanted o (yielded ops a.tmps) = false := by
  have hy : yielded ops a.tmps j = none := by
    unfold gdst at ht
    rw [idx_eq, Array.getElem?_toList] at ht
    unfold yielded
    rw [ht]
    rw [Array.getD_eq_getD_getElem?] at hx
    simp only [Option.bind_some]
    cases h : a.tmps[t]? with
    | none => rfl
    | some v => rw [h] at hx; simp only [Option.getD_some] at hx; rw [hx]
  simp [Region.wanted, hg, hy]
def Lift (cx : Cx) (K : St → Prop) (Qp : Value → St → Prop) : Exit → Act → World → Prop
  | .normal, a, w => ∃ st, K st ∧ Sat cx st a w
  | e, a, w => Abort cx Qp e a w

theorem Sat1.relabel {cx : Cx} {st : St} {e : Env} {s : Hp} {a : Act} {w : World} (h : Sat1 cx st e s a w) (t : Tmp) {x : SV} (hx : x.is e (cx.slot a t)) : Sat1 cx (st.put (some t) x) e s a w := by
  refine { h with tm := ?_ }
  intro i y hy
  simp only [St.put] at hy
  rw [fd_up] at hy
  split at hy
  · rename_i hi
    subst hi
    obtain rfl := Option.some.inj hy
    exact hx
  · exact h.tm i y hy
theorem Sat1.putAny {cx : Cx} {st : St} {e : Env} {s : Hp} {a : Act} {w : World} (h : Sat1 cx st e s a w) (d : Option Tmp) (v : Value) : Sat1 cx (st.put d .any) e s (a.put d v) w := by
  cases d with
  | none => exact h
  | some d =>
    refine { h with size := by simpa [Act.put] using h.size, nodef := h.nodef, tm := ?_ }
    intro i y hy
    simp only [St.put] at hy
    rw [fd_up] at hy
    by_cases hi : d = i
    · subst hi
      rw [if_pos rfl] at hy
      obtain rfl := Option.some.inj hy
      simp [SV.is]
    · rw [if_neg hi] at hy
      have := h.tm i y hy
      rwa [Cx.slot_put cx a hi]

def dstL (nt : Nat) : List Oper → Bool
  | [] => true
  | o :: r => (match o.dst with | some d => decide (d < nt) | none => true) && dstL nt r
theorem wp_mono2 {P : Program} {o : Oper} {a : Act} {w : World} {K K' : Act → World → Prop} {Q Q' : Exit → Act → World → Prop} (h : ∀ a w, K a w → K' a w) (hq : ∀ e a w, Q e a w → Q' e a w) (hh : wpr P o a w K Q) : wpr P o a w K' Q' := by
  refine wpr_run ?_
  replace hh : o.uponIn Fence.wide 0 P a K Q ((execOp a.eval o).run P w) := hh.2
  generalize (execOp a.eval o).run P w = r at *
  cases r with
  | ok n w' =>
    cases n <;> simp only [Oper.uponIn] at hh ⊢ <;>
      first
        | exact h _ _ hh
        | exact ⟨hh.1, CallsIn.mono hh.2 (fun e w'' he => by cases e <;> first | exact h _ _ he | exact hq _ _ _ he | (obtain ⟨a0, w0, h0⟩ := he; exact ⟨a0, w0, hq _ _ _ h0⟩))⟩
        | exact ⟨hh.1, RowsIn.mono hh.2 (fun _ _ he => h _ _ he)⟩
        | exact ⟨hh.1, RoundIn.mono hh.2 (fun e w'' he => by cases e <;> first | exact h _ _ he | exact hq _ _ _ he | (obtain ⟨a0, w0, h0⟩ := he; exact ⟨a0, w0, hq _ _ _ h0⟩))⟩
        | exact hh.elim
  | halt x w' => cases x <;> simp only [Oper.uponIn] at hh ⊢ <;> first | exact hq _ _ _ hh | exact hh.elim
/-- What 'opx' gives, an operation on. -/
theorem wpOp_next {P : Program} {cx : Cx} {Qp : Value → St → Prop} {o : Oper} {st : St} {k : SV → St → Prop} {Q : Exit → Act → World → Prop} (h : opx P Qp o.dst st k o.op) {e : Env} {s : Hp} {a : Act} {w : World} (hs : Sat1 cx st e s a w)
    (hd : ∀ d, o.dst = some d → d < cx.nt) {next : Act → World → Prop} (hn : ∀ x st' e' s' a' w', k x st' → Sat1 cx (st'.put o.dst x) e' s' a' w' → next a' w') (hQ : ∀ ex a' w', Abort cx Qp ex a' w' → Q ex a' w') : wpr P o a w next Q := by
  have := opx_ok (cx := cx) h e s a w hs
  refine wp_mono2 ?_ hQ this
  rintro a' w' ⟨x, st', e', s', v, a0, h1, h2, h3, rfl⟩
  exact hn x st' e' s' _ w' h1 (h2.put o.dst h3 hd)

theorem sq1_ok {P : Program} {cx : Cx} {Qp : Value → St → Prop} {K : St → Prop} {ops : Array Oper} (hd : dstL cx.nt ops.toList = true) :
    ∀ (l : List Oper) (i : Nat) (r' : List Oper), ops.toList.drop i = l ++ r' → ∀ (st : St) (e : Env) (s : Hp) (a : Act) (w : World), sq1 P Qp ops.toList K l st → Sat1 cx st e s a w →
      wpOpsIn Fence.wide 0 P ops (Lift cx K Qp) (List.range' i l.length) a w
  | [], i, r', hl, st, e, s, a, w, h, hs => by
    simp only [List.length_nil, List.range'_zero, wpOpsIn]
    exact ⟨st, h, e, s, hs⟩
  | o :: r, i, r', hl, st, e, s, a, w, h, hs => by
    have hi : ops[i]? = some o := by
      have := congrArg List.head? hl
      rw [List.head?_drop] at this
      simpa using this
    have hr : ops.toList.drop (i + 1) = r ++ r' := by
      rw [← List.tail_drop, hl]; rfl
    have hdo : ∀ d, o.dst = some d → d < cx.nt := by
      have : ∀ (l : List Oper), dstL cx.nt l = true → ∀ o ∈ l, ∀ d, o.dst = some d → d < cx.nt := by
        intro l
        induction l with
        | nil => intro _ o ho; cases ho
        | cons x l ih =>
          intro h o ho d hd
          simp only [dstL, Bool.and_eq_true] at h
          rcases List.mem_cons.1 ho with rfl | ho
          · rw [hd] at h; simpa using h.1
          · exact ih h.2 o ho d hd
      exact this _ hd o (List.mem_of_getElem? (by rw [Array.getElem?_toList]; exact hi))
    have ih := sq1_ok (P := P) (Qp := Qp) (K := K) hd r (i + 1) r' hr
    have hrun : ∀ (st : St) (a : Act), opx P Qp o.dst st (fun x st => sq1 P Qp ops.toList K r (st.put o.dst x)) o.op → Sat1 cx st e s a w → wpr P o a w (wpOpsIn Fence.wide 0 P ops (Lift cx K Qp) (List.range' (i + 1) r.length)) (Lift cx K Qp) := by
      intro st a hop hs
      refine wpOp_next hop hs hdo (fun x st' e' s' a' w' hk hs' => ih (st'.put o.dst x) e' s' a' w' hk hs') (fun ex a' w' hA => ?_)
      cases ex <;> first | exact hA | exact hA.elim
    simp only [List.length_cons, List.range'_succ, wpOpsIn, hi]
    simp only [sq1] at h
    split at h
    · rename_i hg
      have hw : Region.wanted o (yielded ops a.tmps) = true := by simp [Region.wanted, hg]
      simp only [hw, if_true]
      exact hrun st a h hs
    · rename_i j want hg
      split at h
      · rename_i t ht
        have hx := hs.ev (.tmp t)
        unfold gq at h
        simp only [bz] at h
        split at h
        · rename_i b hb
          rw [hb] at hx
          simp only [is_v, Act.eval] at hx
          have hlt : t < a.tmps.size := by
            rcases Nat.lt_or_ge t a.tmps.size with h1 | h1
            · exact h1
            · rw [Array.getD_eq_getD_getElem?, Array.getElem?_eq_none h1] at hx
              simp [undef] at hx
          have hsl : cx.slot a t = .bool b := by
            rw [Cx.slot, if_pos (Nat.lt_of_lt_of_le (hs.size ▸ hlt) hs.ntB)]; exact hx
          have hy : yielded ops a.tmps j = some b := by
            unfold gdst at ht
            rw [idx_eq, Array.getElem?_toList] at ht
            unfold yielded
            rw [ht]
            rw [Array.getD_eq_getD_getElem?, Array.getElem?_eq_getElem hlt] at hx
            simp only [Option.bind_some, Array.getElem?_eq_getElem hlt]
            simp only [Option.getD_some] at hx
            rw [hx]
          by_cases hbw : b = want
          · subst hbw
            have hw : Region.wanted o (yielded ops a.tmps) = true := by simp [Region.wanted, hg, hy]
            simp only [hw, if_true]
            exact hrun _ a (h.1 rfl) (hs.relabel t (is_v.2 hsl))
          · have hbn : b = !want := by cases b <;> cases want <;> simp_all
            have hw : Region.wanted o (yielded ops a.tmps) = false := by
              simp only [Region.wanted, hg, hy]
              simp [hbn]
            simp only [hw, Bool.false_eq_true, if_false]
            have h2 := h.2 hbn
            subst hbn
            exact ⟨fun _ _ => trivial, ih _ e s _ w h2 ((hs.relabel t (is_v.2 hsl)).put o.dst (is_v.2 rfl) hdo)⟩
        · rename_i xs hb
          rw [hb] at hx
          simp only [is_v, Act.eval] at hx
          have hw := unwanted_tuple hg ht hx
          simp only [hw, Bool.false_eq_true, if_false]
          exact ⟨fun _ _ => trivial, ih _ e s _ w h (hs.put o.dst (is_v.2 rfl) hdo)⟩
        · exact h.elim
      · exact h.elim
theorem region_ok {P : Program} {cx : Cx} {Qp : Value → St → Prop} {K : St → Prop} {id : Nat} {ops : Array Oper} {st : St} {a : Act} {w : World} (hd : dstL cx.nt ops.toList = true) (h : sq1 P Qp ops.toList K ops.toList st) (hs : Sat cx st a w) :
    (Code.region id ops false).wp P (Lift cx K Qp) a w := by
  obtain ⟨e, s, hs⟩ := hs
  have := sq1_ok (P := P) hd ops.toList 0 [] (by simp) st e s a w h hs
  exact (wpIn_wide (n := 0)).1 (wpIn_region (by rw [List.range_eq_range']; simpa using this))

/-! ### Code -/
inductive SEx where
  | nrm | ext (id : Nat) | ret | pan (v : Value)
def QL (cx : Cx) (Q : SEx → St → Prop) : Exit → Act → World → Prop
  | .normal, a, w => ∃ st, Q .nrm st ∧ Sat cx st a w
  | .exit id, a, w => ∃ st, Q (.ext id) st ∧ Sat cx st a w
  | .ret, a, w => ∃ st, Q .ret st ∧ Sat cx st a w
  | .panic c, a, w => ∃ v st, c = [{ v := v, recovered := false }] ∧ Q (.pan v) st ∧ Sat cx st a w
  | .outgrown, _, _ => False
  | .goto _, _, _ => False
def okC (nt : Nat) : Code → Bool
  | .region _ ops _ => dstL nt ops.toList
  | .seq a b => okC nt a && okC nt b
  | .cond _ a b => okC nt a && okC nt b
  | .block _ a => okC nt a
  | .loop a => okC nt a
  | .scope a => okC nt a
  | _ => true
def SC (P : Program) (nt : Nat) (c : Code) (st : St) (Q : SEx → St → Prop) : Prop :=
  ∀ cx, cx.nt = nt → okC nt c = true → ∀ a w, Sat cx st a w → c.wp P (QL cx Q) a w
/-- What follows. -/
def thenK (K : St → Prop) (Q : SEx → St → Prop) : SEx → St → Prop
  | .nrm, st => K st
  | e, st => Q e st
def panQ (Q : SEx → St → Prop) (v : Value) (st : St) : Prop := Q (.pan v) st
theorem thenK_nrm (K : St → Prop) (Q : SEx → St → Prop) (st : St) : thenK K Q .nrm st = K st := rfl
theorem thenK_ext (K : St → Prop) (Q : SEx → St → Prop) (id : Nat) (st : St) : thenK K Q (.ext id) st = Q (.ext id) st := rfl
theorem thenK_ret (K : St → Prop) (Q : SEx → St → Prop) (st : St) : thenK K Q .ret st = Q .ret st := rfl
theorem thenK_pan (K : St → Prop) (Q : SEx → St → Prop) (v : Value) (st : St) : thenK K Q (.pan v) st = Q (.pan v) st := rfl
def blkQ (id : Nat) (Q : SEx → St → Prop) : SEx → St → Prop
  | .ext id', st => if id' = id then Q .nrm st else Q (.ext id') st
  | e, st => Q e st
theorem blkQ_nrm (id : Nat) (Q : SEx → St → Prop) (st : St) : blkQ id Q .nrm st = Q .nrm st := rfl
theorem blkQ_ext (id id' : Nat) (Q : SEx → St → Prop) (st : St) : blkQ id Q (.ext id') st = if id' = id then Q .nrm st else Q (.ext id') st := rfl
theorem blkQ_ret (id : Nat) (Q : SEx → St → Prop) (st : St) : blkQ id Q .ret st = Q .ret st := rfl
theorem blkQ_pan (id : Nat) (Q : SEx → St → Prop) (v : Value) (st : St) : blkQ id Q (.pan v) st = Q (.pan v) st := rfl
section
variable {P : Program} {nt : Nat} {Q : SEx → St → Prop} {st : St}
theorem SC.region {id : Nat} {ops : Array Oper} (h : sq1 P (panQ Q) ops.toList (Q .nrm) ops.toList st) : SC P nt (.region id ops false) st Q := by
  intro cx hn hok a w hs
  refine wp_mono (region_ok (by rw [hn]; exact hok) h hs) fun e a w hq => ?_
  cases e <;> first | exact hq | exact hq.elim
theorem SC.seqK {x y : Code} (h : ∀ K : St → Prop, (∀ st, SC P nt y st Q → K st) → SC P nt x st (thenK K Q)) : SC P nt (.seq x y) st Q := by
  intro cx hn hok a w hs
  simp only [okC, Bool.and_eq_true] at hok
  refine wp_seq (wp_mono (h (fun st => SC P nt y st Q) (fun _ h => h) cx hn hok.1 a w hs) fun e a w hq => ?_)
  cases e with
  | normal => obtain ⟨st, h1, h2⟩ := hq; exact h1 cx hn hok.2 a w h2
  | _ => exact hq
def cdx (P : Program) (nt : Nat) (x y : Code) (st : St) (Q : SEx → St → Prop) (g : SV) : Prop :=
  match g with
  | .v (.bool b) => (b = true → SC P nt x st Q) ∧ (b = false → SC P nt y st Q)
  | _ => False
theorem SC.cond {c : Operand} {x y : Code} (h : cdx P nt x y st Q (bz (st.ev c))) : SC P nt (.cond c x y) st Q := by
  intro cx hn hok a w hs
  simp only [okC, Bool.and_eq_true] at hok
  obtain ⟨e, s, hs1⟩ := hs
  have hc := hs1.ev c
  unfold cdx at h
  simp only [bz] at h
  split at h
  · rename_i b hb
    rw [hb] at hc
    simp only [is_v] at hc
    exact wp_cond_split hc (fun ht => h.1 ht cx hn hok.1 a w ⟨e, s, hs1⟩) (fun ht => h.2 ht cx hn hok.2 a w ⟨e, s, hs1⟩)
  · exact h.elim
theorem SC.block {id : Nat} {c : Code} (h : SC P nt c st (blkQ id Q)) : SC P nt (.block id c) st Q := by
  intro cx hn hok a w hs
  refine wp_block (wp_mono (h cx hn hok a w hs) fun e a w hq => ?_)
  cases e with
  | exit id' =>
    obtain ⟨st, h1, h2⟩ := hq
    rw [blkQ_ext] at h1
    simp only [Exit.inBlock]
    split at h1
    · rename_i he; rw [if_pos he]; exact ⟨st, h1, h2⟩
    · rename_i he; rw [if_neg he]; exact ⟨st, h1, h2⟩
  | _ => exact hq
theorem SC.exit {id : Nat} (h : Q (.ext id) st) : SC P nt (.exit id) st Q := fun cx hn hok a w hs => wp_exit ⟨st, h, hs⟩
theorem SC.ret (h : Q .ret st) : SC P nt .ret st Q := fun cx hn hok a w hs => wp_ret ⟨st, h, hs⟩
theorem SC.skip (h : Q .nrm st) : SC P nt .skip st Q := fun cx hn hok a w hs => wp_skip ⟨st, h, hs⟩
theorem SC.label {l : Nat} (h : Q .nrm st) : SC P nt (.label l) st Q := fun cx hn hok a w hs => wp_label ⟨st, h, hs⟩
theorem SC.scope {c : Code} (h : SC P nt c st Q) : SC P nt (.scope c) st Q := by
  intro cx hn hok a w hs
  refine wp_scope_straight (wp_mono (h cx hn hok a w hs) fun e a w hq => ?_)
  cases e <;> first | exact hq | exact hq.elim
theorem SC.mono {c : Code} {Q' : SEx → St → Prop} (h : SC P nt c st Q') (hq : ∀ e st, Q' e st → Q e st) : SC P nt c st Q := by
  intro cx hn hok a w hs
  refine wp_mono (h cx hn hok a w hs) fun e a w hh => ?_
  cases e with
  | normal => obtain ⟨st, h1, h2⟩ := hh; exact ⟨st, hq _ _ h1, h2⟩
  | exit id => obtain ⟨st, h1, h2⟩ := hh; exact ⟨st, hq _ _ h1, h2⟩
  | ret => obtain ⟨st, h1, h2⟩ := hh; exact ⟨st, hq _ _ h1, h2⟩
  | panic c => obtain ⟨v, st, h0, h1, h2⟩ := hh; exact ⟨v, st, h0, hq _ _ h1, h2⟩
  | outgrown => exact hh.elim
  | goto l => exact hh.elim
/-- One state says no more than another. -/
def Le (st st' : St) : Prop := ∀ cx a w, Sat cx st a w → Sat cx st' a w
theorem SC.of_le {c : Code} {st' : St} (h : SC P nt c st' Q) (hl : Le st st') : SC P nt c st Q := fun cx hn hok a w hs => h cx hn hok a w (hl cx a w hs)
theorem SC.loop {c : Code} {ι : Type} (S : ι → St) (I : ι → Prop) (m : ι → Nat) (x0 : ι) (h0 : Le st (S x0)) (hI : I x0)
    (hr : ∀ x, I x → SC P nt c (S x) (thenK (fun st => ∃ y, I y ∧ m y < m x ∧ Le st (S y)) Q)) : SC P nt (.loop c) st Q := by
  intro cx hn hok a w hs b k cs
  have key : ∀ n a w, (∃ x, I x ∧ m x = n ∧ Sat cx (S x) a w) →
      ∃ e a' w', QL cx Q e a' w' ∧ Arrives P (lone (b.at a (.code c :: .inLoop c :: k)) cs w) b k cs e a' w' := by
    intro n
    induction n using Nat.strongRecOn with
    | _ n ih =>
      rintro a w ⟨x, hx, hm, hsx⟩
      obtain ⟨e, a₁, w₁, hq, harr⟩ := hr x hx cx hn hok a w hsx b (.inLoop c :: k) cs
      cases e with
      | normal =>
        obtain ⟨st', ⟨y, hy, hlt, hle⟩, hs'⟩ := hq
        obtain ⟨e₂, a₂, w₂, hq₂, harr₂⟩ := ih (m y) (hm ▸ hlt) a₁ w₁ ⟨y, hy, rfl, hle cx a₁ w₁ hs'⟩
        exact ⟨e₂, a₂, w₂, hq₂, .of_steps (Steps.trans harr (.one step_inLoop)) harr₂⟩
      | exit id => exact ⟨.exit id, a₁, w₁, hq, .pass (x := .inLoop c) rfl (fun _ _ => .inl (by simp)) harr⟩
      | goto l => exact ⟨.goto l, a₁, w₁, hq, .pass (x := .inLoop c) rfl (fun _ _ => .inl (by simp)) harr⟩
      | ret => exact ⟨.ret, a₁, w₁, hq, .pass (x := .inLoop c) rfl (fun _ _ => .inl (by simp)) harr⟩
      | panic ch => exact ⟨.panic ch, a₁, w₁, hq, .pass (x := .inLoop c) rfl (fun _ _ => .inl (by simp)) harr⟩
      | outgrown => exact ⟨.outgrown, a₁, w₁, hq, .pass (x := .inLoop c) rfl (fun _ _ => .inl (by simp)) harr⟩
  obtain ⟨e, a', w', hq, harr⟩ := key _ a w ⟨x0, hI, rfl, h0 cx a w hs⟩
  exact ⟨e, a', w', hq, .of_steps (.one step_loop) harr⟩
end

/-! ### A function -/
/-- The results, one behind the other. -/
def rsx (P : Program) (st : St) : List ResultVar → (List SV → Prop) → List SV → Prop
  | [], k, l => k l
  | .tmp t :: r, k, l => rsx P st r k (l ++ [st.ev (.tmp t)])
  | .cell a t :: r, k, l => loadx (tq P t) st (st.ev (.tmp a)) (fun x => rsx P st r k (l ++ [x]))
def rsK (P : Program) (st : St) (r : List ResultVar) (k : List SV → Prop) (l : List SV) (x : SV) : Prop := rsx P st r k (l ++ [x])
theorem rsx_cell (P : Program) (st : St) (a : Tmp) (t : TypeId) (r : List ResultVar) (k : List SV → Prop) (l : List SV) : rsx P st (.cell a t :: r) k l = loadx (tq P t) st (st.ev (.tmp a)) (rsK P st r k l) := rfl
theorem rsx_tmp (P : Program) (st : St) (t : Tmp) (r : List ResultVar) (k : List SV → Prop) (l : List SV) : rsx P st (.tmp t :: r) k l = rsx P st r k (l ++ [st.ev (.tmp t)]) := rfl
theorem rsx_nil (P : Program) (st : St) (k : List SV → Prop) (l : List SV) : rsx P st [] k l = k l := rfl
def tupV : List Value → Value
  | [v] => v
  | vs => .tuple vs.toArray
/-- What a function hands back. -/
def outV (R : Value → Prop) (l : List SV) : Prop := match vals l with | some vs => R (tupV vs) | none => False
def fnQ (P : Program) (rs : Array ResultVar) (R : Value → Fact → Prop) : SEx → St → Prop
  | .nrm, st => rsx P st rs.toList (outV fun v => R v st.F) []
  | .ret, st => rsx P st rs.toList (outV fun v => R v st.F) []
  | _, _ => False
def tm0 : Nat → List Value → List (Nat × SV)
  | _, [] => []
  | i, v :: l => (i, .v v) :: tm0 (i + 1) l
theorem fd_tm0 : ∀ (l : List Value) (i j : Nat) (x : SV), fd (tm0 i l) j = some x → ∃ v, x = .v v ∧ i ≤ j ∧ l[j - i]? = some v
  | [], i, j, x, h => by simp [tm0, fd] at h
  | v :: l, i, j, x, h => by
    simp only [tm0, fd] at h
    split at h
    · rename_i hij
      subst hij
      exact ⟨v, (Option.some.inj h).symm, Nat.le_refl _, by simp⟩
    · rename_i hij
      obtain ⟨v', h1, h2, h3⟩ := fd_tm0 l (i + 1) j x h
      refine ⟨v', h1, by omega, ?_⟩
      have : j - i = (j - (i + 1)) + 1 := by omega
      rw [this, List.getElem?_cons_succ]
      exact h3
def resF (tmps : Array Value) : ResultVar → Sem Value
  | .tmp t => pure (tmps.getD t undef)
  | .cell a t => do loadVar t (← asAddr (tmps.getD a undef))
theorem rsx_run {P : Program} {cx : Cx} {st : St} {e : Env} {s : Hp} {a : Act} {w : World} (hs : Sat1 cx st e s a w) : ∀ (rs : List ResultVar) (k : List SV → Prop) (l : List SV) (vs : List Value), SV.isL e l vs → rsx P st rs k l →
    ∃ l' ys, k l' ∧ SV.isL e l' (vs ++ ys) ∧ (rs.mapM (resF a.tmps)).run P w = .ok ys w
  | [], k, l, vs, hl, h => ⟨l, [], h, by simpa using hl, by simp⟩
  | .tmp t :: r, k, l, vs, hl, h => by
    have hx := hs.ev (.tmp t)
    obtain ⟨l', ys, h1, h2, h3⟩ := rsx_run hs r k (l ++ [st.ev (.tmp t)]) (vs ++ [a.eval (.tmp t)]) (SV.isL_append hl (by rw [SV.isL_cons]; exact ⟨hx, by simp [SV.isL]⟩)) h
    refine ⟨l', a.eval (.tmp t) :: ys, h1, by simpa using h2, ?_⟩
    simp [List.mapM_cons, resF, h3, Act.eval]
  | .cell p t :: r, k, l, vs, hl, h => by
    have hx := hs.ev (.tmp p)
    obtain ⟨z, v, h1, h2, h3⟩ := loadx_run hs hx h
    obtain ⟨l', ys, h4, h5, h6⟩ := rsx_run hs r k (l ++ [z]) (vs ++ [v]) (SV.isL_append hl (by rw [SV.isL_cons]; exact ⟨h2, by simp [SV.isL]⟩)) h1
    refine ⟨l', v :: ys, h4, by simpa using h5, ?_⟩
    have hp : (resF a.tmps (.cell p t)).run P w = .ok v w := by
      simp only [Act.eval] at h3
      simp only [Instr.loadAt] at h3
      simp only [resF]
      cases hv : a.tmps.getD p undef with
      | pointer ad =>
        rw [hv] at h3
        cases ad with
        | none => simp [Instr.sureAddr, stuck, Sem.run] at h3
        | some ad =>
          simp only [Instr.sureAddr, Sem.run_bind, Sem.run_pure, Result.andThen_ok] at h3
          simp only [asAddr, Sem.run_bind, Sem.run_pure, Result.andThen_ok]
          exact h3
      | _ => rw [hv] at h3; simp [Instr.sureAddr, stuck, Sem.run] at h3
    simp [List.mapM_cons, hp, h6]
theorem Fn.of_body {P : Program} {f : FuncId} {fn : Func} {c : Code} {args : List Value} {F : Fact} {R : Value → Fact → Prop} (hf : P.funcs[f]? = some fn) (hb : fn.body = some c) (hn : args.length ≤ fn.ntmps) (hnb : fn.ntmps ≤ 1000000) (hok : okC fn.ntmps c = true)
    (h : SC P fn.ntmps c ⟨tm0 0 args, [], F⟩ (fnQ P fn.results R)) : Fn P f args F R := by
  intro s w hin hF
  refine calls_of_wp hf hb ?_
  let cx : Cx := ⟨w, s, fn.ntmps, [], fun _ => undef, []⟩
  have hs : Sat1 cx ⟨tm0 0 args, [], F⟩ Env.start s { tmps := args.toArray ++ Array.replicate (fn.ntmps - args.toArray.size) undef, defers := [] } w := by
    refine { size := ?_, ntB := hnb, nodef := rfl, tm := ?_, own := ⟨fun k t h => by simp [fd] at h, fun k k' t t' g h => by simp [fd] at h, fun k t g h => by simp [fd] at h⟩, fresh := fun k t g h => by simp [fd] at h, inw := hin, ge := Hp.le_refl s, new := fun g h => .inl h, fact := hF, os := rfl, tape := rfl, output := rfl, grow := Nat.le_refl _, frame := fun _ _ _ => rfl, borB := (fun _ _ h => by cases h), bnB := fun _ => rfl }
    · simp only [Array.size_append, List.size_toArray, Array.size_replicate]; show _ = fn.ntmps; omega
    · intro i x hx
      obtain ⟨v, rfl, _, hv⟩ := fd_tm0 args 0 i x hx
      rw [Nat.sub_zero] at hv
      have hlt := (List.getElem?_eq_some_iff.1 hv).1
      rw [is_v, Cx.slot, if_pos (by omega), Array.getD_eq_getD_getElem?, Array.getElem?_append_left (by simpa using hlt)]
      simp [hv]
  refine wp_mono (h cx rfl hok _ w ⟨_, s, hs⟩) fun e a' w' hq => ?_
  have fin : ∀ st, rsx P st fn.results.toList (outV fun v => R v st.F) [] → Sat cx st a' w' → a'.defers = [] ∧ ∃ v, (results fn a'.tmps).run P w' = .ok v w' ∧ FnPost R s w (.returned v) w' := by
    rintro st h1 ⟨e', s', hs'⟩
    refine ⟨hs'.nodef, ?_⟩
    obtain ⟨l', ys, h2, h3, h4⟩ := rsx_run hs' fn.results.toList _ [] [] (by simp [SV.isL]) h1
    unfold outV at h2
    split at h2
    · rename_i vs hv
      rw [vals_spec (e := e') hv, List.nil_append] at h3
      have := SV.isL_map_eq vs h3
      subst this
      refine ⟨tupV ys, ?_, st.F, s', h2, ⟨hs'.ge, hs'.inw, hs'.fact, ?_, ⟨hs'.os, hs'.tape, hs'.output, hs'.grow, fun g hg => hs'.frame g hg (fun n hn => by cases hn)⟩⟩⟩
      · unfold results
        rw [Sem.run_bind]
        have hm : (fn.results.mapM (resF a'.tmps)).run P w' = .ok ys.toArray w' := by
          rw [Array.mapM_eq_mapM_toList, ← bind_pure_comp, Sem.run_bind, h4]; rfl
        change ((Sem.run P (Array.mapM (resF a'.tmps) fn.results) w').andThen _) = _
        rw [hm]
        simp only [Result.andThen_ok, Sem.run_pure]
        congr 1
        cases ys with
        | nil => rfl
        | cons y l => cases l with
          | nil => rfl
          | cons z l => simp [tupV]
      · intro g hg
        rcases hs'.new g hg with h5 | h5 | ⟨n, h5⟩
        · exact .inl h5
        · exact .inr h5
        · cases h5
    · exact h2.elim
  cases e with
  | normal => obtain ⟨st, h1, h2⟩ := hq; exact fin st h1 h2
  | ret => obtain ⟨st, h1, h2⟩ := hq; exact fin st h1 h2
  | exit id => obtain ⟨st, h1, h2⟩ := hq; exact h1.elim
  | panic c => obtain ⟨v, st, _, h1, h2⟩ := hq; exact h1.elim
  | outgrown => exact hq.elim
  | goto l => exact hq.elim
end Go.Proofs.YtmamodnpghlgcaaDoor
/- The rules by which a walk is reckoned. -/
set_option linter.unusedVariables false
namespace Go.Proofs.YtmamodnpghlgcaaDoor
open Go.RowKit
theorem panQ_eq (Q : SEx → St → Prop) (v : Value) (st : St) : panQ Q v st = Q (.pan v) st := rfl
theorem up_nil {K A : Type} [DecidableEq K] (i : K) (x : A) : up ([] : List (K × A)) i x = [(i, x)] := rfl
theorem toList_mk {A : Type} (l : List A) : (Array.mk l).toList = l := rfl
theorem cellsOf_agg (l : List SV) : cellsOf (.agg l) = some l := rfl
theorem cellsOf_vagg (cs : Array Value) : cellsOf (.v (.agg cs)) = some (cs.toList.map .v) := rfl
theorem cellsOf_int (k : IntKind) (n : Int) : cellsOf (.v (.int k n)) = some [.v (.int k n)] := rfl
theorem cellsOf_bool (b : Bool) : cellsOf (.v (.bool b)) = some [.v (.bool b)] := rfl
theorem cellsOf_q (b : Bool) : cellsOf (SV.q b) = some [SV.q b] := rfl
theorem cellsOf_str (b : ByteArray) : cellsOf (.v (.string b)) = some [.v (.string b)] := rfl
theorem cellsOf_slice (a : Option Addr) (n c : Nat) : cellsOf (.v (.slice a n c)) = some [.v (.slice a n c)] := rfl
theorem cellsOf_ptr (a : Option Addr) : cellsOf (.v (.pointer a)) = some [.v (.pointer a)] := rfl
theorem cellsOf_iface (t : TypeId) (v : Value) : cellsOf (.v (.iface t v)) = some [.v (.iface t v)] := rfl
theorem cellsOf_nilI : cellsOf (.v .nilIface) = some [.v .nilIface] := rfl
theorem cellsOf_func (f : Go.Fn) (a b : Array Value) : cellsOf (.v (.func f a b)) = some [.v (.func f a b)] := rfl
theorem cellsOf_own (k : Key) (o : Nat) : cellsOf (.own k o) = some [.own k o] := rfl
theorem cellsOf_row (k : Key) : cellsOf (.row k) = some [.row k] := rfl
theorem cellsOf_clo (f : Go.Fn) (l : List SV) : cellsOf (.clo f l) = some [.clo f l] := rfl
theorem vals_nil : vals [] = some [] := rfl
theorem vals_cons (x : Value) (l : List SV) : vals (.v x :: l) = (vals l).map (x :: ·) := rfl
theorem vals_q (b : Bool) (l : List SV) : vals (SV.q b :: l) = (vals l).map (.bool b :: ·) := rfl
theorem mkAgg_map (l : List Value) : mkAgg (l.map .v) = .v (.agg l.toArray) := by simp [mkAgg, vals_map]
theorem nm_q (q : Key) (b : Bool) : SV.nm q (SV.q b) = True := by simp [SV.q, SV.nm]
theorem oneS_q (b : Bool) : oneS (SV.q b) = True := by simp [SV.q, oneS, Value.oneCell']
theorem partx_agg (n : Nat) (cs : List SV) (off : Nat) (k : SV → Prop) : partx (some (true, n)) cs off k = (off + n ≤ cs.length ∧ k (mkAgg ((cs.drop off).take n))) := rfl
theorem partx_one (n : Nat) (cs : List SV) (off : Nat) (k : SV → Prop) : partx (some (false, n)) cs off k = ox (idx cs off) k := rfl
theorem idx_zero {A : Type} (x : A) (l : List A) : idx (x :: l) 0 = some x := rfl
theorem idx_succ {A : Type} (x : A) (l : List A) (n : Nat) : idx (x :: l) (n + 1) = idx l n := rfl
theorem ox_some {A : Type} (y : A) (k : A → Prop) : ox (some y) k = k y := rfl
theorem cdx_true (P : Program) (nt : Nat) (x y : Code) (st : St) (Q : SEx → St → Prop) : cdx P nt x y st Q (.v (.bool true)) = SC P nt x st Q := by simp [cdx]
theorem cdx_false (P : Program) (nt : Nat) (x y : Code) (st : St) (Q : SEx → St → Prop) : cdx P nt x y st Q (.v (.bool false)) = SC P nt y st Q := by simp [cdx]
theorem cdx_q (P : Program) (nt : Nat) (x y : Code) (st : St) (Q : SEx → St → Prop) (b : Bool) : cdx P nt x y st Q (SV.q b) = ((b = true → SC P nt x st Q) ∧ (b = false → SC P nt y st Q)) := rfl
theorem gt_some (t : Tmp) (want : Bool) (A B : St → Prop) (st : St) : gt (some t) want A B st = gq want t st A B (bz (st.ev (.tmp t))) := rfl
def gdK : Option Oper → Option Tmp
  | some ⟨d, _, _, _, _, _⟩ => d
  | none => none
theorem gdst_eq (all : List Oper) (j : Nat) : gdst all j = gdK (idx all j) := by
  unfold gdst
  cases idx all j <;> rfl
theorem unx_not_v (b : Bool) (k : SV → Prop) : unx .not (.v (.bool b)) k = k (SV.q (!b)) := rfl
theorem unx_not_q (b : Bool) (k : SV → Prop) : unx .not (SV.q b) k = k (SV.q (!b)) := rfl
theorem unx_neg (i : IntKind) (a : Int) (k : SV → Prop) : unx .neg (.v (.int i a)) k = inr i (0 - a) k := rfl
theorem cvy_v (b : Bool) (s t : KQ) (th : List (Key × Thing)) (x : Value) (k : SV → Prop) : cvy b s t th (.v x) k = cvx s t (.v x) k := rfl
theorem cvy_row (b : Bool) (s t : KQ) (th : List (Key × Thing)) (r : Key) (k : SV → Prop) : cvy b s t th (.row r) k = (b = true ∧ cvr (fd th r) k) := rfl
theorem cvr_row (e : TypeId) (n : Nat) (xs : List Value) (k : SV → Prop) : cvr (some (.row e 1 n xs)) k = ox (u8s xs) (strK k) := rfl
theorem bz_undef : bz (.v undef) = .v undef := rfl
theorem repl_one {A : Type} (v : A) : ∀ (xs : List A) (o : Nat), repl xs o [v] = xs.set o v
  | [], o => by simp [repl]
  | x :: xs, 0 => by cases xs <;> simp [repl]
  | x :: xs, o + 1 => by simp only [repl, List.set_cons_succ, repl_one v xs o]
theorem putc_one {A : Type} (xs : List A) (o : Nat) (v : A) : putc xs o [v] = xs.set o v := by
  unfold putc
  split
  · rename_i h
    obtain ⟨rfl, h2⟩ := h
    cases xs with
    | nil => simp at h2
    | cons x xs => cases xs with
      | nil => rfl
      | cons y xs => simp at h2
  · exact repl_one v xs o
theorem putc_two {A : Type} (xs : List A) (o : Nat) (a b : A) (l : List A) : putc xs o (a :: b :: l) = if o = 0 ∧ (a :: b :: l).length = xs.length then a :: b :: l else repl xs o (a :: b :: l) := rfl
attribute [push_cast] bz_undef fd up rm bz_v bz_q SV.q_true SV.q_false pickx_true pickx_false pickx_q binx inr unx_not_v unx_not_q unx_neg idx_zero idx_succ extx cvx cvy_v cvy_row cvr_row u8s_nil u8s_cons u8s_map strK partx_agg partx_one fldx ixx rowN lenx maxx minx slx fax iax iaxK mfx mix tax ox_some
attribute [push_cast] boxC rowX ldK loadx stB stR stK stE storx oneS oneL repl putc_one putc_two vals_nil vals_cons vals_q vals_map cellsOf_agg cellsOf_vagg cellsOf_int cellsOf_bool cellsOf_q cellsOf_str cellsOf_slice cellsOf_ptr cellsOf_iface cellsOf_nilI cellsOf_func cellsOf_own cellsOf_row cellsOf_clo
attribute [push_cast] mkAgg mkAgg_map newBox allx bxx fillK fillF fillA bdK bdx newRow bsF_none bsF_some bsV bsK bsx msx apG apD apC apB apx evs evp evo kv bix panx opx callx sq1_nil sq1_plain sq1_guard nx gA gB gt_some gdst_eq gdK gq_un gq_tt gq_tf gq_ft gq_ff gq_qt gq_qf
attribute [push_cast] St.ev St.put nmA nmB SV.nm SV.nmL nm_q oneS_q SV.nmL_map thenK_nrm thenK_ext thenK_ret thenK_pan blkQ_nrm blkQ_ext blkQ_ret blkQ_pan rsx_cell rsx_tmp rsx_nil rsK outV tupV tm0 panQ_eq isC toList_mk cdx_true cdx_false cdx_q zrep
end Go.Proofs.YtmamodnpghlgcaaDoor
/- Regions that draw their order: plans. -/
set_option linter.unusedVariables false
set_option linter.unusedSimpArgs false
namespace Go.Proofs.YtmamodnpghlgcaaDoor
open Go.RowKit

/-! ### Operations that ask nothing of the world -/
def pureB : Op → Bool
  | .convert _ t _ => t != strT
  | .move _ | .assign _ | .pick .. | .build .. | .binOp .. | .unOp .. | .makeInterface .. | .makeFunc .. | .fieldAddr .. | .field .. | .indexAddr .. | .index .. | .typeAssert .. | .extract .. => true
  | .slice _ _ _ _ none => true
  | .call ⟨.builtin .len, _, _⟩ | .call ⟨.builtin .max, _, _⟩ | .call ⟨.builtin .min, _, _⟩ => true
  | _ => false
theorem bix_pure {P : Program} {cx : Cx} {o : Oper} {st : St} {k : SV → St → Prop} {b : Builtin} {args : Array Operand} {ts : Array TypeId} {d : Option Tmp} (ho : o.op = .call ⟨.builtin b, args, ts⟩) (hp : b = .len ∨ b = .max ∨ b = .min)
    (h : bix P b d st (evs st args.toList) ts.toList k) {e : Env} {s : Hp} {a : Act} {w : World} (hs : Sat1 cx st e s a w) : ∃ x v, k x st ∧ x.is e v ∧ ∀ w', (execOp a.eval o).run P w' = .ok (.value v) w' := by
  have hb : (execOp a.eval o) = Go.builtin b ts o.type (args.map fun | .const _ => true | _ => false) (args.map a.eval) := by
    simp only [execOp, ho, resolve]
    rfl
  unfold bix at h
  split at h
  · rename_i x t hx ht
    have hargs := evs_is hs args.toList
    rw [hx] at hargs
    simp only [SV.isL] at hargs
    obtain ⟨vx, ys, hy, h1, rfl⟩ := hargs
    obtain ⟨z, v, h2, h3, h4⟩ := lenx_run hs (t := t) (ty := o.type) h1 h
    refine ⟨z, v, h2, h3, fun w' => ?_⟩
    have e1 : args.map a.eval = #[vx] := by apply Array.ext'; simpa using hy
    have e2 : ts = #[t] := by apply Array.ext'; simpa using ht
    rw [hb, e1, e2]
    exact run_v (h4 w')
  · rename_i x y _ hx
    have hargs := evs_is hs args.toList
    rw [hx] at hargs
    simp only [SV.isL] at hargs
    obtain ⟨vx, ys, hy, h1, vy, ys', rfl, h1', rfl⟩ := hargs
    obtain ⟨z, v, h2, h3, h4⟩ := maxx_run (P := P) (ts := ts) (ty := o.type) h1 h1' h
    refine ⟨z, v, h2, h3, fun w' => ?_⟩
    have e1 : args.map a.eval = #[vx, vy] := by apply Array.ext'; simpa using hy
    rw [hb, e1]
    exact run_v (h4 w')
  · rename_i x y _ hx
    have hargs := evs_is hs args.toList
    rw [hx] at hargs
    simp only [SV.isL] at hargs
    obtain ⟨vx, ys, hy, h1, vy, ys', rfl, h1', rfl⟩ := hargs
    obtain ⟨z, v, h2, h3, h4⟩ := minx_run (P := P) (ts := ts) (ty := o.type) h1 h1' h
    refine ⟨z, v, h2, h3, fun w' => ?_⟩
    have e1 : args.map a.eval = #[vx, vy] := by apply Array.ext'; simpa using hy
    rw [hb, e1]
    exact run_v (h4 w')
  · rcases hp with hp | hp | hp <;> cases hp
  · exact h.elim
theorem pure_run {P : Program} {cx : Cx} {Qp : Value → St → Prop} {o : Oper} {st : St} {k : SV → St → Prop} {d : Option Tmp} (hp : pureB o.op = true) (h : opx P Qp d st k o.op) {e : Env} {s : Hp} {a : Act} {w : World} (hs : Sat1 cx st e s a w) :
    ∃ x v, k x st ∧ x.is e v ∧ ∀ w', (execOp a.eval o).run P w' = .ok (.value v) w' := by
  cases ho : o.op <;> rw [ho] at h hp <;> try (first | exact h.elim | (simp [pureB] at hp; done))
  case move x => exact ⟨_, _, h, hs.ev x, fun w' => by simp only [execOp, ho]; rfl⟩
  case assign x => exact ⟨_, _, h, hs.ev x, fun w' => by simp only [execOp, ho]; rfl⟩
  case pick c x y =>
    have hc := hs.ev c
    simp only [opx, bz] at h
    unfold pickx at h
    split at h
    · rename_i t hct
      rw [hct] at hc
      simp only [is_v] at hc
      cases t with
      | true => exact ⟨_, _, h.1 rfl, hs.ev x, fun w' => by simp [execOp, ho, hc, asBool]⟩
      | false => exact ⟨_, _, h.2 rfl, hs.ev y, fun w' => by simp [execOp, ho, hc, asBool]⟩
    · exact h.elim
  case build t ps =>
    obtain ⟨z, v, h1, h2, h3⟩ := bdx_run (evp_is hs ps.toList) h
    refine ⟨z, v, h1, h2, fun w' => ?_⟩
    simp only [execOp, ho]
    have : (ps.map fun (i, x) => (i, a.eval x)) = (ps.toList.map fun (i, x) => (i, a.eval x)).toArray := by apply Array.ext'; simp
    rw [this]
    exact run_v (h3 w')
  case binOp op t x y u =>
    obtain ⟨z, v, h1, h2, h3⟩ := binx_run (o1 := x) (o2 := y) (hs.ev x) (hs.ev y) h
    exact ⟨z, v, h1, h2, fun w' => by simp only [execOp, ho]; exact run_v (h3 w')⟩
  case unOp op t x =>
    obtain ⟨z, v, h1, h2, h3⟩ := unx_run (P := P) (hs.ev x) h
    exact ⟨z, v, h1, h2, fun w' => by simp only [execOp, ho]; exact run_v (h3 w')⟩
  case convert t u x =>
    change cvy (bsq P t u) (kq P t) (kq P u) st.th (st.ev x) (kv k st) at h
    unfold cvy at h
    split at h
    · obtain ⟨hb, _⟩ := h
      have := (bsq_spec hb).1
      simp [pureB, this] at hp
    · obtain ⟨z, v, h1, h2, h3⟩ := cvx_run (hs.ev x) h
      exact ⟨z, v, h1, h2, fun w' => by simp only [execOp, ho]; exact run_v (h3 w')⟩
  case makeInterface t x =>
    obtain ⟨z, v, h1, h2, h3⟩ := mix_run (hs.ev x) h
    exact ⟨z, v, h1, h2, fun w' => by simp only [execOp, ho]; exact run_v (h3 w')⟩
  case makeFunc fn fs cs =>
    obtain ⟨h1, h2⟩ := h
    have hcs := evs_is hs cs.toList
    have hfs : fs = #[] := by
      cases fs with | mk l => cases l with
        | nil => rfl
        | cons x l => simp [evs] at h1
    refine ⟨_, .func fn #[] (cs.map a.eval), h2, ?_, fun w' => ?_⟩
    · exact mkClo_is (by simpa using hcs)
    · subst hfs
      simp only [execOp, ho]
      exact run_v (by simp [Instr.makeFunc])
  case slice t x lo hi mx =>
    cases mx with
    | some m => exact h.elim
    | none =>
      obtain ⟨z, v, h1, h2, h3⟩ := slx_run (P := P) (t := t) (vlo := lo.map a.eval) (vhi := hi.map a.eval) (hs.ev x) (by cases lo <;> simp [evo, hs.ev]) (by cases hi <;> simp [evo, hs.ev]) h
      exact ⟨z, v, h1, h2, fun w' => by simp only [execOp, ho]; exact run_v (h3 w')⟩
  case fieldAddr t x f =>
    obtain ⟨z, v, h1, h2, h3⟩ := fax_run (hs.ev x) h
    exact ⟨z, v, h1, h2, fun w' => by simp only [execOp, ho]; exact run_v (h3 w')⟩
  case field t x f =>
    obtain ⟨z, v, h1, h2, h3⟩ := fldx_run (hs.ev x) h
    exact ⟨z, v, h1, h2, fun w' => by simp only [execOp, ho]; exact run_v (h3 w')⟩
  case indexAddr t x i =>
    obtain ⟨z, v, h1, h2, h3⟩ := iax_run hs (hs.ev x) (hs.ev i) h
    exact ⟨z, v, h1, h2, fun w' => by simp only [execOp, ho]; exact run_v (h3 w')⟩
  case index t x i =>
    obtain ⟨z, v, h1, h2, h3⟩ := ixx_run (hs.ev x) (hs.ev i) h
    exact ⟨z, v, h1, h2, fun w' => by simp only [execOp, ho]; exact run_v (h3 w')⟩
  case typeAssert x u t ok =>
    obtain ⟨z, v, h1, h2, h3⟩ := tax_run (xt := u) (hs.ev x) h
    exact ⟨z, v, h1, h2, fun w' => by simp only [execOp, ho]; exact run_v (h3 w')⟩
  case extract x i =>
    obtain ⟨z, v, h1, h2, h3⟩ := extx_run (P := P) (hs.ev x) h
    exact ⟨z, v, h1, h2, fun w' => by simp only [execOp, ho]; exact run_v (h3 w')⟩
  case call c =>
    obtain ⟨callee, args, ts⟩ := c
    cases callee with
    | value f => exact absurd hp (by simp [pureB])
    | invoke r m => exact h.elim
    | builtin b => exact bix_pure ho (by cases b <;> simp_all [pureB]) h hs

/-! ### One operation, its guard with it -/
def one (P : Program) (Qp : Value → St → Prop) (all : List Oper) (o : Oper) (k : St → Prop) (st : St) : Prop :=
  match o.guard with
  | none => opx P Qp o.dst st (fun x st => k (st.put o.dst x)) o.op
  | some (j, want) => gt (gdst all j) want (fun st => opx P Qp o.dst st (fun x st => k (st.put o.dst x)) o.op) (fun st => k (st.put o.dst (.v undef))) st
def oneK (k : St → Prop) (d : Option Tmp) (x : SV) (st : St) : Prop := k (st.put d x)
def oneA (P : Program) (Qp : Value → St → Prop) (k : St → Prop) (d : Option Tmp) (op : Op) (st : St) : Prop := opx P Qp d st (oneK k d) op
def oneB (k : St → Prop) (d : Option Tmp) (st : St) : Prop := k (st.put d (.v undef))
theorem one_plain (P : Program) (Qp : Value → St → Prop) (all : List Oper) (d : Option Tmp) (op : Op) (ty : TypeId) (pos : String) (af : Array Edge) (k : St → Prop) (st : St) : one P Qp all ⟨d, op, ty, pos, af, none⟩ k st = opx P Qp d st (oneK k d) op := rfl
theorem one_guard (P : Program) (Qp : Value → St → Prop) (all : List Oper) (d : Option Tmp) (op : Op) (ty : TypeId) (pos : String) (af : Array Edge) (j : Nat) (want : Bool) (k : St → Prop) (st : St) : one P Qp all ⟨d, op, ty, pos, af, some (j, want)⟩ k st = gt (gdst all j) want (oneA P Qp k d op) (oneB k d) st := rfl
theorem oneK_eq (k : St → Prop) (d : Option Tmp) (x : SV) (st : St) : oneK k d x st = k (st.put d x) := rfl
theorem oneA_eq (P : Program) (Qp : Value → St → Prop) (k : St → Prop) (d : Option Tmp) (op : Op) (st : St) : oneA P Qp k d op st = opx P Qp d st (oneK k d) op := rfl
theorem oneB_eq (k : St → Prop) (d : Option Tmp) (st : St) : oneB k d st = k (st.put d (.v undef)) := rfl

section
variable {P : Program} {cx : Cx} {Qp : Value → St → Prop} {K : St → Prop} {ops : Array Oper}
/-- What a guard's slot says of the operation. -/
theorem guard_cases {o : Oper} {j : Nat} {want : Bool} {A B : St → Prop} {st : St} {e : Env} {s : Hp} {a : Act} {w : World} (hg : o.guard = some (j, want)) (h : gt (gdst ops.toList j) want A B st) (hs : Sat1 cx st e s a w) :
    (Region.wanted o (yielded ops a.tmps) = true ∧ ∃ st', A st' ∧ Sat1 cx st' e s a w) ∨ (Region.wanted o (yielded ops a.tmps) = false ∧ ∃ st', B st' ∧ Sat1 cx st' e s a w) := by
  unfold gt at h
  split at h
  · rename_i t ht
    have hx := hs.ev (.tmp t)
    unfold gq at h
    simp only [bz] at h
    split at h
    · rename_i b hb
      rw [hb] at hx
      simp only [is_v, Act.eval] at hx
      have hlt : t < a.tmps.size := by
        rcases Nat.lt_or_ge t a.tmps.size with h1 | h1
        · exact h1
        · rw [Array.getD_eq_getD_getElem?, Array.getElem?_eq_none h1] at hx
          simp [undef] at hx
      have hsl : cx.slot a t = .bool b := by
        rw [Cx.slot, if_pos (Nat.lt_of_lt_of_le (hs.size ▸ hlt) hs.ntB)]; exact hx
      have hy : yielded ops a.tmps j = some b := by
        unfold gdst at ht
        rw [idx_eq, Array.getElem?_toList] at ht
        unfold yielded
        rw [ht]
        rw [Array.getD_eq_getD_getElem?, Array.getElem?_eq_getElem hlt] at hx
        simp only [Option.bind_some, Array.getElem?_eq_getElem hlt]
        simp only [Option.getD_some] at hx
        rw [hx]
      by_cases hbw : b = want
      · subst hbw
        exact .inl ⟨by simp [Region.wanted, hg, hy], _, h.1 rfl, hs.relabel t (is_v.2 hsl)⟩
      · have hbn : b = !want := by cases b <;> cases want <;> simp_all
        have h2 := h.2 hbn
        subst hbn
        exact .inr ⟨by simp [Region.wanted, hg, hy], _, h2, hs.relabel t (is_v.2 hsl)⟩
    · rename_i xs hb
      rw [hb] at hx
      simp only [is_v, Act.eval] at hx
      exact .inr ⟨unwanted_tuple hg ht hx, st, h, hs⟩
    · exact h.elim
  · exact h.elim
theorem one_ok {k : St → Prop} {o : Oper} {i : Nat} {st : St} {e : Env} {s : Hp} {a : Act} {w : World} (hi : ops[i]? = some o) (hd : ∀ d, o.dst = some d → d < cx.nt) (h : one P Qp ops.toList o k st) (hs : Sat1 cx st e s a w) {Q : Exit → Act → World → Prop} (hQ : ∀ ex a' w', Abort cx Qp ex a' w' → Q ex a' w') :
    wpOpIn Fence.wide 0 P ops Q i (fun a' w' => ∃ st' e' s', k st' ∧ Sat1 cx st' e' s' a' w') a w := by
  unfold wpOpIn
  simp only [hi]
  unfold one at h
  split at h
  · rename_i hg
    have hw : Region.wanted o (yielded ops a.tmps) = true := by simp [Region.wanted, hg]
    rw [if_pos hw]
    exact wpOp_next h hs hd (fun x st' e' s' a' w' hk hs' => ⟨_, e', s', hk, hs'⟩) hQ
  · rename_i j want hg
    rcases guard_cases hg h hs with ⟨hw, st', h1, h2⟩ | ⟨hw, st', h1, h2⟩
    · rw [if_pos hw]
      exact wpOp_next h1 h2 hd (fun x st' e' s' a' w' hk hs' => ⟨_, e', s', hk, hs'⟩) hQ
    · rw [if_neg (by simp [hw])]
      exact ⟨fun _ _ => trivial, _, e, s, h1, h2.put _ (is_v.2 rfl) hd⟩
theorem pure_about {P : Program} {o : Oper} (hp : pureB o.op = true) (w : World) (ev : Operand → Value) : o.about P w ev = none := by
  unfold Oper.about
  cases ho : o.op <;> rw [ho] at hp <;> first | rfl | (simp [pureB] at hp; done) | skip
  rename_i c
  obtain ⟨callee, args, ts⟩ := c
  cases callee with
  | value f => simp [pureB] at hp
  | invoke r m => simp [pureB] at hp
  | builtin b => rfl
theorem one_pure {k : St → Prop} {o : Oper} {st : St} {e : Env} {s : Hp} {a : Act} {w : World} (hp : pureB o.op = true) (hd : ∀ d, o.dst = some d → d < cx.nt) (h : one P Qp ops.toList o k st) (hs : Sat1 cx st e s a w) :
    ∃ v st', Yields P ops o v a ∧ k st' ∧ Sat1 cx st' e s (a.put o.dst v) w := by
  unfold one at h
  split at h
  · rename_i hg
    obtain ⟨x, v, h1, h2, h3⟩ := pure_run hp h hs
    exact ⟨v, _, .inl ⟨by simp [Region.wanted, hg], h3⟩, h1, hs.put o.dst h2 hd⟩
  · rename_i j want hg
    rcases guard_cases hg h hs with ⟨hw, st', h1, h2⟩ | ⟨hw, st', h1, h2⟩
    · obtain ⟨x, v, h1, h4, h3⟩ := pure_run hp h1 h2
      exact ⟨v, _, .inl ⟨hw, h3⟩, h1, h2.put o.dst h4 hd⟩
    · exact ⟨undef, _, .inr ⟨hw, rfl⟩, h1, h2.put _ (is_v.2 rfl) hd⟩
end

/-! ### Plans -/
inductive Plan where
  | done
  | take (i : Nat) (p : Plan)
  | fork (i : Nat) (p r : Plan)
  | stop
def Plan.heads : Plan → List Nat
  | .fork i _ r => i :: r.heads
  | _ => []
def plx (P : Program) (Qp : Value → St → Prop) (all : List Oper) (K : St → Prop) : Plan → St → Prop
  | .done, st => K st
  | .take i p, st => ox (idx all i) fun o => one P Qp all o (plx P Qp all K p) st
  | .fork i p r, st => (ox (idx all i) fun o => one P Qp all o (plx P Qp all K p) st) ∧ plx P Qp all K r st
  | .stop, _ => True
def plK (P : Program) (Qp : Value → St → Prop) (all : List Oper) (K : St → Prop) (p : Plan) (st : St) (o : Oper) : Prop := one P Qp all o (plx P Qp all K p) st
theorem plx_done (P : Program) (Qp : Value → St → Prop) (all : List Oper) (K : St → Prop) (st : St) : plx P Qp all K .done st = K st := rfl
theorem plx_take (P : Program) (Qp : Value → St → Prop) (all : List Oper) (K : St → Prop) (i : Nat) (p : Plan) (st : St) : plx P Qp all K (.take i p) st = ox (idx all i) (plK P Qp all K p st) := rfl
theorem plx_fork (P : Program) (Qp : Value → St → Prop) (all : List Oper) (K : St → Prop) (i : Nat) (p r : Plan) (st : St) : plx P Qp all K (.fork i p r) st = (ox (idx all i) (plK P Qp all K p st) ∧ plx P Qp all K r st) := rfl
theorem plx_stop (P : Program) (Qp : Value → St → Prop) (all : List Oper) (K : St → Prop) (st : St) : plx P Qp all K .stop st = True := rfl
theorem plK_eq (P : Program) (Qp : Value → St → Prop) (all : List Oper) (K : St → Prop) (p : Plan) (st : St) (o : Oper) : plK P Qp all K p st o = one P Qp all o (plx P Qp all K p) st := rfl
def planOk (ops : Array Oper) : Bool → Nat → Array Bool → Plan → Bool
  | _, _, listed, .done => (Region.ready .any ops listed).isEmpty
  | _, 0, _, .take _ _ => false
  | _, n + 1, listed, .take i p => Region.free .any ops listed i && (Region.ready .any ops listed).contains i && (match ops[i]? with | some o => pureB o.op | none => false) && planOk ops true n (listed.setIfInBounds i true) p
  | _, 0, _, .fork _ _ _ => false
  | top, n + 1, listed, .fork i p r => (!top || (!(Region.ready .any ops listed).isEmpty && (Region.ready .any ops listed).all (i :: r.heads).contains)) && planOk ops true n (listed.setIfInBounds i true) p && planOk ops false (n + 1) listed r
  | top, _, _, .stop => !top

section
variable {P : Program} {cx : Cx} {Qp : Value → St → Prop} {K : St → Prop} {ops : Array Oper}
theorem plan_ok (hd : dstL cx.nt ops.toList = true) (hns : Region.noSelect ops = true) (hQp : ∀ v st, Qp v st → Qp v ⟨[], st.th, st.F⟩) :
    ∀ (p : Plan) (n : Nat) (listed : Array Bool) (st : St) (e : Env) (s : Hp) (a : Act) (w : World), plx P Qp ops.toList K p st → Sat1 cx st e s a w →
      (planOk ops true n listed p = true → wpAnyIn Fence.wide 0 P .any ops (Lift cx K Qp) n listed a w) ∧
      (∀ m, n = m + 1 → planOk ops false n listed p = true → ∀ i ∈ p.heads, wpOpIn Fence.wide 0 P ops (Lift cx K Qp) i (wpAnyIn Fence.wide 0 P .any ops (Lift cx K Qp) m (listed.setIfInBounds i true)) a w) := by
  have hdo : ∀ (i : Nat) (o : Oper), ops[i]? = some o → ∀ d, o.dst = some d → d < cx.nt := by
    intro i o hi
    have : ∀ (l : List Oper), dstL cx.nt l = true → ∀ o ∈ l, ∀ d, o.dst = some d → d < cx.nt := by
      intro l
      induction l with
      | nil => intro _ o ho; cases ho
      | cons x l ih =>
        intro h o ho d hd
        simp only [dstL, Bool.and_eq_true] at h
        rcases List.mem_cons.1 ho with rfl | ho
        · rw [hd] at h; simpa using h.1
        · exact ih h.2 o ho d hd
    exact this _ hd o (List.mem_of_getElem? (by rw [Array.getElem?_toList]; exact hi))
  have hQ : ∀ ex a' w', Abort cx Qp ex a' w' → Lift cx K Qp ex a' w' := by
    intro ex a' w' h
    cases ex <;> first | exact h | exact h.elim
  have hQ2 : ∀ (d : Option Tmp) (v : Value) c a w, Lift cx K Qp (.panic c) (a.put d v) w → Lift cx K Qp (.panic c) a w := by
    rintro d v c a w ⟨v', st, hc, h, e, s, hs⟩
    refine ⟨v', _, hc, hQp _ _ h, e, s, { hs with size := ?_, nodef := ?_, tm := fun i x hx => ?_ }⟩
    · have := hs.size
      cases d with
      | none => exact this
      | some d => simpa [Act.put] using this
    · have := hs.nodef
      cases d with
      | none => exact this
      | some d => simpa [Act.put] using this
    · simp [fd] at hx
  have hix : ∀ {i : Nat} {f : Oper → Prop}, ox (idx ops.toList i) f → ∃ o, ops[i]? = some o ∧ f o := by
    intro i f h
    unfold ox at h
    split at h
    · rename_i o ho
      exact ⟨o, by rw [idx_eq, Array.getElem?_toList] at ho; exact ho, h⟩
    · exact h.elim
  intro p
  induction p with
  | done =>
    intro n listed st e s a w h hs
    refine ⟨fun hk => ?_, fun m _ _ i hi => by cases hi⟩
    have hk : Region.ready .any ops listed = [] := by cases n <;> simpa [planOk] using hk
    exact wpAnyIn_done hk ⟨st, h, e, s, hs⟩ n
  | take i p ih =>
    intro n listed st e s a w h hs
    refine ⟨fun hk => ?_, fun m _ _ i hi => by cases hi⟩
    cases n with
    | zero => simp [planOk] at hk
    | succ n =>
      simp only [planOk, Bool.and_eq_true] at hk
      obtain ⟨⟨⟨h1, h2⟩, h3⟩, h4⟩ := hk
      obtain ⟨o, hi, ho⟩ := hix h
      rw [hi] at h3
      obtain ⟨v, st', hy, hk', hs'⟩ := one_pure h3 (hdo i o hi) ho hs
      exact wpAnyIn_take rfl hi hns h1 h2 (hQ2 o.dst v) ⟨hy, fun w => pure_about h3 w _⟩ ((ih n _ st' e s _ w hk' hs').1 h4)
  | fork i p r ihp ihr =>
    intro n listed st e s a w h hs
    have key : ∀ m, n = m + 1 → planOk ops false n listed (.fork i p r) = true → ∀ j ∈ (Plan.fork i p r).heads, wpOpIn Fence.wide 0 P ops (Lift cx K Qp) j (wpAnyIn Fence.wide 0 P .any ops (Lift cx K Qp) m (listed.setIfInBounds j true)) a w := by
      rintro m rfl hk j hj
      simp only [planOk, Bool.not_false, Bool.true_or, Bool.true_and, Bool.and_eq_true] at hk
      rcases List.mem_cons.1 hj with rfl | hj
      · obtain ⟨o, hi, ho⟩ := hix h.1
        exact wpOpIn_mono (fun a' w' ⟨st', e', s', h1, h2⟩ => (ihp m _ st' e' s' a' w' h1 h2).1 hk.1) (one_ok hi (hdo j o hi) ho hs hQ)
      · exact (ihr (m + 1) listed st e s a w h.2 hs).2 m rfl hk.2 j hj
    refine ⟨fun hk => ?_, key⟩
    cases n with
    | zero => simp [planOk] at hk
    | succ n =>
      have hk' := hk
      simp only [planOk, Bool.not_true, Bool.false_or, Bool.and_eq_true] at hk
      obtain ⟨⟨⟨h0, h1⟩, h2⟩, h3⟩ := hk
      refine wpAnyIn_all rfl (by intro h; simp [h] at h0) fun j hj => key n rfl ?_ j ?_
      · simp [planOk, h2, h3]
      · have := List.all_eq_true.1 h1 j hj
        simpa [Plan.heads] using this
  | stop =>
    intro n listed st e s a w h hs
    exact ⟨fun hk => by cases n <;> simp [planOk] at hk, fun m _ _ i hi => by cases hi⟩

theorem Sat1.drawn {st : St} {e : Env} {s : Hp} {a : Act} {w : World} (h : Sat1 cx st e s a w) : Sat1 cx st e s a { w with drawn := w.drawn + 1 } :=
  { h with own := ⟨fun k t hk => Thing.holds_block (h.own.holds k t hk) fun _ _ => rfl, h.own.apart, h.own.free⟩, inw := ⟨h.inw.cell, h.inw.mp, h.inw.ob⟩ }
end
theorem SC.drawn {P : Program} {nt : Nat} {Q : SEx → St → Prop} {st : St} {id : Nat} {ops : Array Oper} (p : Plan) (hm : P.follows .mixedOrders = true) (hp : (Region.noSelect ops && planOk ops true ops.size (Array.replicate ops.size false) p) = true) (hQ : ∀ v st, Q (.pan v) st → Q (.pan v) ⟨[], st.th, st.F⟩)
    (h : plx P (panQ Q) ops.toList (Q .nrm) p st) : SC P nt (.region id ops true) st Q := by
  intro cx hn hok a w hs
  obtain ⟨e, s, hs⟩ := hs
  rw [Bool.and_eq_true] at hp
  refine wp_mono ((wpIn_wide (n := 0)).1 (wpIn_region_any (Q := Lift cx (Q .nrm) (panQ Q)) hm ((plan_ok (Qp := panQ Q) (K := Q .nrm) (by rw [hn]; exact hok) hp.1 hQ p ops.size _ st e s a _ h hs.drawn).1 hp.2))) fun e a w hq => ?_
  cases e <;> first | exact hq | exact hq.elim
end Go.Proofs.YtmamodnpghlgcaaDoor
/- States turned: some of a state, keys renamed, what is owned made lasting, an empty row taken up. -/
set_option linter.unusedVariables false
set_option linter.unusedSimpArgs false
namespace Go.Proofs.YtmamodnpghlgcaaDoor
open Go.RowKit

/-! ### Some of a state, in an order -/
def selK {K A : Type} (k : K) (r : List (K × A)) : Option A → List (K × A)
  | some a => (k, a) :: r
  | none => r
def sel {K A : Type} [DecidableEq K] (l : List (K × A)) : List K → List (K × A)
  | [] => []
  | k :: r => selK k (sel l r) (fd l k)
theorem fd_sel {K A : Type} [DecidableEq K] (l : List (K × A)) (i : K) (x : A) : ∀ ks, fd (sel l ks) i = some x → fd l i = some x
  | [], h => by simp [sel, fd] at h
  | k :: r, h => by
    simp only [sel] at h
    cases hk : fd l k with
    | none => rw [hk] at h; exact fd_sel l i x r h
    | some a =>
      rw [hk] at h
      simp only [selK, fd] at h
      split at h
      · rename_i he; subst he; rw [hk]; exact h
      · exact fd_sel l i x r h
def St.norm (st : St) (tl : List Nat) (kl : List Key) : St := ⟨sel st.tm tl, sel st.th kl, st.F⟩
theorem Sat1.norm {cx : Cx} {st : St} {e : Env} {s : Hp} {a : Act} {w : World} (h : Sat1 cx st e s a w) (tl : List Nat) (kl : List Key) : Sat1 cx (st.norm tl kl) e s a w :=
  { h with
    tm := fun i x hx => h.tm i x (fd_sel _ _ _ _ hx)
    own := ⟨fun k t hk => h.own.holds k t (fd_sel _ _ _ _ hk), fun k k' t t' g hk hk' => h.own.apart k k' t t' g (fd_sel _ _ _ _ hk) (fd_sel _ _ _ _ hk'), fun k t g hk => h.own.free k t g (fd_sel _ _ _ _ hk)⟩
    fresh := fun k t g hk => h.fresh k t g (fd_sel _ _ _ _ hk) }
theorem Le.norm (st : St) (tl : List Nat) (kl : List Key) : Le st (st.norm tl kl) := fun cx a w ⟨e, s, h⟩ => ⟨e, s, h.norm tl kl⟩
theorem Le.refl (st : St) : Le st st := fun _ _ _ h => h
theorem Le.trans {a b c : St} (h : Le a b) (k : Le b c) : Le a c := fun cx x w y => k cx x w (h cx x w y)
theorem Le.fact {st : St} {G : Fact} (h : ∀ s, st.F.p s → G.p s) : Le st { st with F := G } := fun cx a w ⟨e, s, hs⟩ => ⟨e, s, { hs with fact := h s hs.fact }⟩
section
variable {P : Program} {nt : Nat} {Q : SEx → St → Prop} {st : St}
theorem SC.norm {c : Code} (tl : List Nat) (kl : List Key) (h : SC P nt c (st.norm tl kl) Q) : SC P nt c st Q := SC.of_le h (Le.norm st tl kl)
/-- What follows, of some of the state. -/
theorem SC.seqN {x y : Code} (tl : List Nat) (kl : List Key) (h : ∀ K : St → Prop, (∀ st, SC P nt y st Q → K st) → SC P nt x st (thenK (fun st => K (st.norm tl kl)) Q)) : SC P nt (.seq x y) st Q :=
  SC.seqK fun K hK => SC.mono (h (fun st => SC P nt y st Q) (fun _ h => h)) fun e st he => by
    cases e with
    | nrm => exact hK st (SC.norm tl kl he)
    | ext id => exact he
    | ret => exact he
    | pan v => exact he
end

/-! ### Keys renamed -/
def sw1 (a b n : Nat) : Nat := if n = a then b else if n = b then a else n
theorem sw1_sw1 (a b n : Nat) : sw1 a b (sw1 a b n) = n := by
  unfold sw1
  by_cases h : n = a
  · subst h
    rw [if_pos rfl]
    by_cases h' : b = n
    · rw [if_pos h', h']
    · rw [if_neg h', if_pos rfl]
  · rw [if_neg h]
    by_cases h' : n = b
    · subst h'; rw [if_pos rfl, if_pos rfl]
    · rw [if_neg h', if_neg h, if_neg h']
def swn : List (Nat × Nat) → Nat → Nat
  | [], n => n
  | (a, b) :: l, n => swn l (sw1 a b n)
def swi : List (Nat × Nat) → Nat → Nat
  | [], n => n
  | (a, b) :: l, n => sw1 a b (swi l n)
theorem swi_swn : ∀ (l : List (Nat × Nat)) (n : Nat), swi l (swn l n) = n
  | [], _ => rfl
  | (a, b) :: l, n => by simp only [swn, swi]; rw [swi_swn l, sw1_sw1]
theorem swn_swi : ∀ (l : List (Nat × Nat)) (n : Nat), swn l (swi l n) = n
  | [], _ => rfl
  | (a, b) :: l, n => by simp only [swn, swi]; rw [sw1_sw1, swn_swi l]
def Key.sw (l : List (Nat × Nat)) : Key → Key
  | .l n => .l (swn l n)
  | .b n => .b n
def Key.si (l : List (Nat × Nat)) : Key → Key
  | .l n => .l (swi l n)
  | .b n => .b n
theorem Key.si_sw (l : List (Nat × Nat)) (k : Key) : (k.sw l).si l = k := by cases k <;> simp [Key.sw, Key.si, swi_swn]
theorem Key.sw_si (l : List (Nat × Nat)) (k : Key) : (k.si l).sw l = k := by cases k <;> simp [Key.sw, Key.si, swn_swi]
mutual
def SV.sw (l : List (Nat × Nat)) : SV → SV
  | .v x => .v x
  | .own k o => .own (k.sw l) o
  | .row k => .row (k.sw l)
  | .elt k o => .elt (k.sw l) o
  | .mp k => .mp (k.sw l)
  | .clo f cs => .clo f (SV.swL l cs)
  | .agg cs => .agg (SV.swL l cs)
  | .tup cs => .tup (SV.swL l cs)
  | .any => .any
def SV.swL (l : List (Nat × Nat)) : List SV → List SV
  | [] => []
  | x :: r => SV.sw l x :: SV.swL l r
end
def Env.sw (e : Env) (l : List (Nat × Nat)) : Env := ⟨fun k => e.B (k.si l), fun k => e.R (k.si l)⟩
mutual
theorem SV.is_sw (e : Env) (l : List (Nat × Nat)) : ∀ (x : SV) (y : Value), x.is e y → (x.sw l).is (e.sw l) y
  | .v x, y, h => by simpa [SV.sw, SV.is] using h
  | .own k o, y, h => by simpa [SV.sw, SV.is, Env.sw, Key.si_sw] using h
  | .row k, y, h => by simpa [SV.sw, SV.is, Env.sw, Key.si_sw] using h
  | .elt k o, y, h => by simpa [SV.sw, SV.is, Env.sw, Key.si_sw] using h
  | .mp k, y, h => by simpa [SV.sw, SV.is, Env.sw, Key.si_sw] using h
  | .clo f cs, y, h => by
    simp only [SV.sw, SV.is] at h ⊢
    obtain ⟨ys, h1, h2⟩ := h
    exact ⟨ys, h1, SV.isL_sw e l cs _ h2⟩
  | .agg cs, y, h => by
    simp only [SV.sw, SV.is] at h ⊢
    obtain ⟨ys, h1, h2⟩ := h
    exact ⟨ys, h1, SV.isL_sw e l cs _ h2⟩
  | .tup cs, y, h => by
    simp only [SV.sw, SV.is] at h ⊢
    obtain ⟨ys, h1, h2⟩ := h
    exact ⟨ys, h1, SV.isL_sw e l cs _ h2⟩
  | .any, y, h => by simp [SV.sw, SV.is]
theorem SV.isL_sw (e : Env) (l : List (Nat × Nat)) : ∀ (xs : List SV) (ys : List Value), SV.isL e xs ys → SV.isL (e.sw l) (SV.swL l xs) ys
  | [], ys, h => by simpa [SV.swL, SV.isL] using h
  | x :: xs, ys, h => by
    simp only [SV.swL, SV.isL] at h ⊢
    obtain ⟨y, ys', h1, h2, h3⟩ := h
    exact ⟨y, ys', h1, SV.is_sw e l x y h2, SV.isL_sw e l xs ys' h3⟩
end
def Thing.sw (l : List (Nat × Nat)) : Thing → Thing
  | .box cs t => .box (SV.swL l cs) t
  | .row t s n xs => .row t s n xs
  | .mp es c => .mp es c
def swT (l : List (Nat × Nat)) : List (Nat × SV) → List (Nat × SV)
  | [] => []
  | (i, x) :: r => (i, x.sw l) :: swT l r
def swH (l : List (Nat × Nat)) : List (Key × Thing) → List (Key × Thing)
  | [] => []
  | (k, t) :: r => (k.sw l, t.sw l) :: swH l r
def St.sw (st : St) (l : List (Nat × Nat)) : St := ⟨swT l st.tm, swH l st.th, st.F⟩
theorem fd_swT (l : List (Nat × Nat)) : ∀ (tm : List (Nat × SV)) (i : Nat) (y : SV), fd (swT l tm) i = some y → ∃ x, y = x.sw l ∧ fd tm i = some x
  | [], i, y, h => by simp [swT, fd] at h
  | (j, x) :: r, i, y, h => by
    simp only [swT, fd] at h ⊢
    split at h
    · rename_i hj; rw [if_pos hj]; exact ⟨x, (Option.some.inj h).symm, rfl⟩
    · rename_i hj; rw [if_neg hj]; exact fd_swT l r i y h
theorem fd_swH (l : List (Nat × Nat)) : ∀ (th : List (Key × Thing)) (k : Key) (t : Thing), fd (swH l th) k = some t → ∃ t0, t = t0.sw l ∧ fd th (k.si l) = some t0
  | [], k, t, h => by simp [swH, fd] at h
  | (j, x) :: r, k, t, h => by
    simp only [swH, fd] at h ⊢
    split at h
    · rename_i hj
      rw [if_pos (by rw [← hj, Key.si_sw])]
      exact ⟨x, (Option.some.inj h).symm, rfl⟩
    · rename_i hj
      rw [if_neg (fun he => hj (by rw [he, Key.sw_si]))]
      exact fd_swH l r k t h
theorem Thing.holds_sw {e : Env} {l : List (Nat × Nat)} {k : Key} {w : World} {t : Thing} (h : t.holds e (k.si l) w) : (t.sw l).holds (e.sw l) k w := by
  cases t with
  | box cs ty =>
    obtain ⟨ys, h1, h2⟩ := h
    exact ⟨ys, h1, SV.isL_sw e l cs _ h2⟩
  | row t s n xs => exact h
  | mp es c => exact h
theorem Thing.blk_sw {e : Env} {l : List (Nat × Nat)} {k : Key} {t : Thing} : (t.sw l).blk (e.sw l) k = t.blk e (k.si l) := by cases t <;> rfl
theorem Sat1.sw {cx : Cx} {st : St} {e : Env} {s : Hp} {a : Act} {w : World} (h : Sat1 cx st e s a w) (l : List (Nat × Nat)) : Sat1 cx (st.sw l) (e.sw l) s a w := by
  refine { h with tm := ?_, own := ⟨?_, ?_, ?_⟩, fresh := ?_, borB := fun n g hb => h.borB n g hb, bnB := fun n => h.bnB n }
  · intro i y hy
    obtain ⟨x, rfl, hx⟩ := fd_swT l _ _ _ hy
    exact SV.is_sw e l x _ (h.tm i x hx)
  · intro k t hk
    obtain ⟨t0, rfl, h0⟩ := fd_swH l _ _ _ hk
    exact Thing.holds_sw (h.own.holds _ _ h0)
  · intro k k' t t' g hk hk' hg hg'
    obtain ⟨t0, rfl, h0⟩ := fd_swH l _ _ _ hk
    obtain ⟨t0', rfl, h0'⟩ := fd_swH l _ _ _ hk'
    rw [Thing.blk_sw] at hg hg'
    have := h.own.apart _ _ _ _ g h0 h0' hg hg'
    rw [← Key.sw_si l k, this, Key.sw_si]
  · intro k t g hk hg
    obtain ⟨t0, rfl, h0⟩ := fd_swH l _ _ _ hk
    rw [Thing.blk_sw] at hg
    exact h.own.free _ _ g h0 hg
  · intro k t g hk hg
    obtain ⟨t0, rfl, h0⟩ := fd_swH l _ _ _ hk
    rw [Thing.blk_sw] at hg
    exact h.fresh _ _ g h0 hg
theorem Le.sw (st : St) (l : List (Nat × Nat)) : Le st (st.sw l) := fun cx a w ⟨e, s, h⟩ => ⟨e.sw l, s, h.sw l⟩

/-! ### What is owned, made lasting -/
mutual
def SV.fz (k : Key) (r : Value) (b : Nat) : SV → SV
  | .v x => .v x
  | .own k' o => if k' = k then .v (.pointer (some ⟨b, o, none⟩)) else .own k' o
  | .row k' => if k' = k then .v r else .row k'
  | .elt k' o => if k' = k then .v (.pointer (some ⟨b, o, none⟩)) else .elt k' o
  | .mp k' => .mp k'
  | .clo f cs => mkClo f (SV.fzL k r b cs)
  | .agg cs => mkAgg (SV.fzL k r b cs)
  | .tup cs => .tup (SV.fzL k r b cs)
  | .any => .any
def SV.fzL (k : Key) (r : Value) (b : Nat) : List SV → List SV
  | [] => []
  | x :: l => SV.fz k r b x :: SV.fzL k r b l
end
mutual
theorem SV.is_fz (e : Env) (k : Key) : ∀ (x : SV) (y : Value), x.is e y → (x.fz k (e.R k) (e.B k)).is e y
  | .v x, y, h => by simpa [SV.fz] using h
  | .own k' o, y, h => by
    simp only [SV.fz]
    split
    · rename_i hk; subst hk; simpa [SV.is] using h
    · exact h
  | .row k', y, h => by
    simp only [SV.fz]
    split
    · rename_i hk; subst hk; simp only [SV.is] at h ⊢; exact h.1
    · exact h
  | .elt k' o, y, h => by
    simp only [SV.fz]
    split
    · rename_i hk; subst hk; simp only [SV.is] at h ⊢; obtain ⟨_, _, _, h⟩ := h; exact h
    · exact h
  | .mp k', y, h => by simpa [SV.fz] using h
  | .clo f cs, y, h => by
    simp only [SV.fz]
    simp only [SV.is] at h
    obtain ⟨ys, rfl, h2⟩ := h
    exact mkClo_is (SV.isL_fz e k cs _ h2)
  | .agg cs, y, h => by
    simp only [SV.fz]
    simp only [SV.is] at h
    obtain ⟨ys, rfl, h2⟩ := h
    exact mkAgg_is (SV.isL_fz e k cs _ h2)
  | .tup cs, y, h => by
    simp only [SV.fz, SV.is] at h ⊢
    obtain ⟨ys, h1, h2⟩ := h
    exact ⟨ys, h1, SV.isL_fz e k cs _ h2⟩
  | .any, y, h => by simp [SV.fz, SV.is]
theorem SV.isL_fz (e : Env) (k : Key) : ∀ (xs : List SV) (ys : List Value), SV.isL e xs ys → SV.isL e (SV.fzL k (e.R k) (e.B k) xs) ys
  | [], ys, h => by simpa [SV.fzL] using h
  | x :: xs, ys, h => by
    simp only [SV.fzL, SV.isL] at h ⊢
    obtain ⟨y, ys', h1, h2, h3⟩ := h
    exact ⟨y, ys', h1, SV.is_fz e k x y h2, SV.isL_fz e k xs ys' h3⟩
end
def fzT (k : Key) (r : Value) (b : Nat) : List (Nat × SV) → List (Nat × SV)
  | [] => []
  | (i, x) :: l => (i, x.fz k r b) :: fzT k r b l
def Thing.fz (k : Key) (r : Value) (b : Nat) : Thing → Thing
  | .box cs t => .box (SV.fzL k r b cs) t
  | .row t s n xs => .row t s n xs
  | .mp es c => .mp es c
def fzH (k : Key) (r : Value) (b : Nat) : List (Key × Thing) → List (Key × Thing)
  | [] => []
  | (j, t) :: l => (j, t.fz k r b) :: fzH k r b l
theorem fd_fzT (k : Key) (r : Value) (b : Nat) : ∀ (tm : List (Nat × SV)) (i : Nat) (y : SV), fd (fzT k r b tm) i = some y → ∃ x, y = x.fz k r b ∧ fd tm i = some x
  | [], i, y, h => by simp [fzT, fd] at h
  | (j, x) :: l, i, y, h => by
    simp only [fzT, fd] at h ⊢
    split at h
    · rename_i hj; rw [if_pos hj]; exact ⟨x, (Option.some.inj h).symm, rfl⟩
    · rename_i hj; rw [if_neg hj]; exact fd_fzT k r b l i y h
theorem fd_fzH (k : Key) (r : Value) (b : Nat) : ∀ (th : List (Key × Thing)) (i : Key) (y : Thing), fd (fzH k r b th) i = some y → ∃ x, y = x.fz k r b ∧ fd th i = some x
  | [], i, y, h => by simp [fzH, fd] at h
  | (j, x) :: l, i, y, h => by
    simp only [fzH, fd] at h ⊢
    split at h
    · rename_i hj; rw [if_pos hj]; exact ⟨x, (Option.some.inj h).symm, rfl⟩
    · rename_i hj; rw [if_neg hj]; exact fd_fzH k r b l i y h
def St.fz (st : St) (k : Key) (r : Value) (b : Nat) (vs : List Value) : St := ⟨fzT k r b st.tm, fzH k r b (rm st.th k), st.F.and (cellsF b 0 vs)⟩
def Hp.add (s : Hp) (b : Nat) (vs : List Value) : Hp := ⟨fun g o => if g = b ∧ o < vs.length then vs[o]? else s.cell g o, s.mp, s.ob⟩
/-- A thing that becomes lasting. -/
theorem Sat1.fz {cx : Cx} {st : St} {e : Env} {s : Hp} {a : Act} {w : World} (h : Sat1 cx st e s a w) {k : Key} {t : Thing} {vs : List Value} (hk : fd st.th k = some t) (hb : vs ≠ [] → t.blk e k = some (e.B k))
    (hc : ∀ o v, vs[o]? = some v → w.cell? ⟨e.B k, o, none⟩ = some v) : Sat1 cx (st.fz k (e.R k) (e.B k) vs) e (s.add (e.B k) vs) a w := by
  have hno : vs ≠ [] → ¬ s.has (e.B k) := fun hv => h.own.free k t _ hk (hb hv)
  have hle : s.le (s.add (e.B k) vs) := by
    refine ⟨fun g o v hv => ?_, fun _ _ hm => hm, fun _ _ hm => hm⟩
    simp only [Hp.add]
    split
    · rename_i hg
      obtain ⟨rfl, ho⟩ := hg
      exact absurd (.inl ⟨o, v, hv⟩) (hno (by intro hn; subst hn; cases ho))
    · exact hv
  have hhas : ∀ g, (s.add (e.B k) vs).has g → s.has g ∨ (g = e.B k ∧ vs ≠ []) := by
    rintro g (⟨o, v, hv⟩ | hm)
    · simp only [Hp.add] at hv
      split at hv
      · rename_i hg
        exact .inr ⟨hg.1, by intro hn; subst hn; cases hg.2⟩
      · exact .inl (.inl ⟨o, v, hv⟩)
    · exact .inl (.inr hm)
  refine { h with tm := ?_, own := ⟨?_, ?_, ?_⟩, fresh := ?_, inw := ⟨?_, h.inw.mp, h.inw.ob⟩, ge := Hp.le_trans h.ge hle, new := ?_, fact := ⟨st.F.mono _ _ hle h.fact, ?_⟩ }
  · intro i y hy
    obtain ⟨x, rfl, hx⟩ := fd_fzT _ _ _ _ _ _ hy
    exact SV.is_fz e k x _ (h.tm i x hx)
  · intro k' t' hk'
    obtain ⟨t0, rfl, h0⟩ := fd_fzH _ _ _ _ _ _ hk'
    rw [fd_rm] at h0
    split at h0
    · cases h0
    · have := h.own.holds k' t0 h0
      cases t0 with
      | box cs ty =>
        obtain ⟨ys, h1, h2⟩ := this
        exact ⟨ys, h1, SV.isL_fz e k cs _ h2⟩
      | row t s n xs => exact this
      | mp es c => exact this
  · intro k1 k2 t1 t2 g hk1 hk2 hg1 hg2
    obtain ⟨u1, rfl, h1⟩ := fd_fzH _ _ _ _ _ _ hk1
    obtain ⟨u2, rfl, h2⟩ := fd_fzH _ _ _ _ _ _ hk2
    rw [fd_rm] at h1 h2
    split at h1
    · cases h1
    · split at h2
      · cases h2
      · exact h.own.apart k1 k2 u1 u2 g h1 h2 (by cases u1 <;> exact hg1) (by cases u2 <;> exact hg2)
  · intro k1 t1 g hk1 hg1 hs
    obtain ⟨u1, rfl, h1⟩ := fd_fzH _ _ _ _ _ _ hk1
    rw [fd_rm] at h1
    split at h1
    · cases h1
    · rename_i hne
      have hg : u1.blk e k1 = some g := by cases u1 <;> exact hg1
      rcases hhas g hs with h2 | ⟨rfl, h2⟩
      · exact h.own.free k1 u1 g h1 hg h2
      · exact hne (h.own.apart k k1 t u1 _ hk h1 (hb h2) hg)
  · intro k1 t1 g hk1 hg1
    obtain ⟨u1, rfl, h1⟩ := fd_fzH _ _ _ _ _ _ hk1
    rw [fd_rm] at h1
    split at h1
    · cases h1
    · exact h.fresh k1 u1 g h1 (by cases u1 <;> exact hg1)
  · intro g o v hv
    simp only [Hp.add] at hv
    split at hv
    · rename_i hg
      obtain ⟨rfl, ho⟩ := hg
      exact hc o v hv
    · exact h.inw.cell g o v hv
  · intro g hg
    rcases hhas g hg with h2 | ⟨rfl, h2⟩
    · exact h.new g h2
    · exact .inr (h.fresh k t _ hk (hb h2))
  · intro j v hv
    rw [Nat.zero_add]
    have hj : j < vs.length := (List.getElem?_eq_some_iff.1 hv).1
    show (if e.B k = e.B k ∧ j < vs.length then vs[j]? else s.cell (e.B k) j) = some v
    rw [if_pos ⟨rfl, hj⟩]; exact hv
section
variable {P : Program} {nt : Nat} {Q : SEx → St → Prop} {st : St} {c : Code}
theorem SC.frzB {k : Key} {cs : List SV} {t : TypeId} {vs : List Value} (hk : fd st.th k = some (.box cs t)) (hv : vals cs = some vs) (h : ∀ (b : Nat) (r : Value), SC P nt c (st.fz k r b vs) Q) : SC P nt c st Q := by
  intro cx hn hok a w ⟨e, s, hs⟩
  refine h (e.B k) (e.R k) cx hn hok a w ⟨e, _, hs.fz hk (fun _ => rfl) fun o v ho => ?_⟩
  obtain ⟨ys, h1, h2⟩ := hs.own.holds _ _ hk
  rw [vals_spec (e := e) hv] at h2
  have := SV.isL_map_eq vs h2
  rw [cell_box h1, ← Array.getElem?_toList, this]
  exact ho
theorem SC.frzR {k : Key} {et : TypeId} {sz n : Nat} {xs : List Value} (hk : fd st.th k = some (.row et sz n xs))
    (h : ∀ (b : Nat) (r : Value), (r = .slice none 0 0 ∧ n = 0 ∨ ∃ c, r = .slice (some ⟨b, 0, none⟩) n c ∧ n ≤ c) → SC P nt c (st.fz k r b xs) Q) : SC P nt c st Q := by
  intro cx hn hok a w ⟨e, s, hs⟩
  obtain ⟨⟨h1, h2⟩, h3⟩ := hs.own.holds _ _ hk
  have hx : xs ≠ [] → ∃ g cap cur, e.R k = .slice (some ⟨g, 0, none⟩) n cap ∧ g = e.B k ∧ n ≤ cap ∧ w.heap[g]? = some (.cells cur et (0, 0)) ∧ cur.toList.take (n * sz) = xs := by
    intro hne
    rcases h2 with ⟨_, hz⟩ | ⟨g, cap, cur, hv, _, hh, h4, _, _, h5⟩
    · subst hz; rw [Nat.zero_mul] at h1; exact absurd (List.eq_nil_of_length_eq_zero h1) hne
    · exact ⟨g, cap, cur, hv, h3 g (by rw [hv]; rfl), h4, hh, h5⟩
  refine h (e.B k) (e.R k) ?_ cx hn hok a w ⟨e, _, hs.fz hk (fun hne => ?_) fun o v ho => ?_⟩
  · rcases h2 with ⟨hv, hz⟩ | ⟨g, cap, cur, hv, _, _, h4, _⟩
    · exact .inl ⟨hv, hz⟩
    · exact .inr ⟨cap, by rw [hv, h3 g (by rw [hv]; rfl)], h4⟩
  · obtain ⟨g, cap, cur, hv, hg, _⟩ := hx hne
    simp only [Thing.blk, hv, Value.ownBlock, hg]
  · have hne : xs ≠ [] := by intro hn; subst hn; simp at ho
    obtain ⟨g, cap, cur, hv, rfl, _, hh, h5⟩ := hx hne
    rw [cell_box hh, ← Array.getElem?_toList]
    have hlt : o < n * sz := by have := (List.getElem?_eq_some_iff.1 ho).1; omega
    rw [← h5, List.getElem?_take, if_pos hlt] at ho
    exact ho
end
end Go.Proofs.YtmamodnpghlgcaaDoor
/- An empty row taken up; a call walked in its caller's state. -/
set_option linter.unusedVariables false
set_option linter.unusedSimpArgs false
namespace Go.Proofs.YtmamodnpghlgcaaDoor
open Go.RowKit

/-! ### An empty row -/
theorem Sat1.adopt {cx : Cx} {st : St} {e : Env} {s : Hp} {a : Act} {w : World} (h : Sat1 cx st e s a w) {q : Nat} (hA : nmA (.l q) st.tm) (hB : nmB (.l q) st.th) (et : TypeId) (sz : Nat) :
    Sat1 cx { st with th := up st.th (.l q) (.row et sz 0 []) } (e.set (.l q) 0 (.slice none 0 0)) s a w := by
  have hr : (e.set (.l q) 0 (.slice none 0 0)).R (.l q) = .slice none 0 0 := Env.set_R _ _ _ _
  have hblk : ∀ g, Thing.blk (e.set (.l q) 0 (.slice none 0 0)) (.l q) (.row et sz 0 []) ≠ some g := by
    intro g; simp [Thing.blk, hr, Value.ownBlock]
  refine { h with tm := fun i x hx => SV.is_set e _ _ _ x _ (nmA_spec hA i x hx) (h.tm i x hx), own := ?_, fresh := ?_, borB := ?_, bnB := fun n => by rw [Env.set_B' _ _ _ (by simp)]; exact h.bnB n }
  · refine h.own.put _ _ _ _ (fun k cs ty _ hk => nmB_spec hB k cs ty hk) ?_ (fun k u g hk hu hg => ⟨rfl, hblk g⟩) (fun g hg => absurd hg (hblk g))
    refine ⟨⟨by simp, .inl ⟨hr, rfl⟩⟩, fun g hg => ?_⟩
    rw [hr] at hg
    simp [Value.ownBlock] at hg
  · intro k u g hu hg
    rw [fd_up] at hu
    split at hu
    · rename_i h1
      subst h1
      obtain rfl := Option.some.inj hu
      exact absurd hg (hblk g)
    · rename_i h1
      rw [Thing.blk_set (Ne.symm h1)] at hg
      exact h.fresh k u g hu hg
  · intro n g hb
    rw [Env.set_B' _ _ _ (by simp)]
    exact h.borB n g hb
theorem SV.isL_repl {e : Env} {y' : SV} : ∀ {cs : List SV} {ys : List Value} {j : Nat} {x : SV}, SV.isL e cs ys → cs[j]? = some x → (∀ v, x.is e v → y'.is e v) → SV.isL e (cs.set j y') ys
  | [], _, _, _, _, h, _ => by simp at h
  | c :: cs, ys, 0, x, h, hx, hy => by
    simp only [SV.isL, List.set_cons_zero] at h ⊢
    obtain ⟨y, ys', h1, h2, h3⟩ := h
    simp at hx
    subst hx
    exact ⟨y, ys', h1, hy _ h2, h3⟩
  | c :: cs, ys, j + 1, x, h, hx, hy => by
    simp only [SV.isL, List.set_cons_succ] at h ⊢
    obtain ⟨y, ys', h1, h2, h3⟩ := h
    exact ⟨y, ys', h1, h2, SV.isL_repl h3 (by simpa using hx) hy⟩
section
variable {P : Program} {nt : Nat} {Q : SEx → St → Prop} {st : St} {c : Code}
/-- The empty slice in a slot. -/
theorem SC.adT {i q : Nat} {et : TypeId} {sz : Nat} (hi : fd st.tm i = some (.v (.slice none 0 0))) (hA : nmA (.l q) st.tm) (hB : nmB (.l q) st.th)
    (h : SC P nt c ⟨up st.tm i (.row (.l q)), up st.th (.l q) (.row et sz 0 []), st.F⟩ Q) : SC P nt c st Q := by
  intro cx hn hok a w ⟨e, s, hs⟩
  have h1 := hs.adopt hA hB et sz
  refine h cx hn hok a w ⟨_, s, { h1 with tm := ?_ }⟩
  intro j y hy
  simp only at hy
  rw [fd_up] at hy
  split at hy
  · rename_i hj
    subst hj
    obtain rfl := Option.some.inj hy
    have := h1.tm i _ hi
    simp only [SV.is] at this ⊢
    rw [this]
    exact ⟨(Env.set_R _ _ _ _).symm, _, _, _, rfl⟩
  · exact h1.tm j y hy
/-- The empty slice in a box. -/
theorem SC.adB {k : Key} {cs : List SV} {t : TypeId} {j q : Nat} {et : TypeId} {sz : Nat} (hk : fd st.th k = some (.box cs t)) (hj : cs[j]? = some (.v (.slice none 0 0))) (hkq : k ≠ .l q) (hA : nmA (.l q) st.tm) (hB : nmB (.l q) st.th)
    (h : SC P nt c ⟨st.tm, up (up st.th k (.box (cs.set j (.row (.l q))) t)) (.l q) (.row et sz 0 []), st.F⟩ Q) : SC P nt c st Q := by
  intro cx hn hok a w ⟨e, s, hs⟩
  have h1 := hs.adopt hA hB et sz
  have hk1 : fd (up st.th (.l q) (.row et sz 0 [])) k = some (.box cs t) := by rw [fd_up, if_neg (Ne.symm hkq)]; exact hk
  have hfd : ∀ k' t', fd (up (up st.th k (.box (cs.set j (.row (.l q))) t)) (.l q) (.row et sz 0 [])) k' = some t' → (k' = k ∧ t' = .box (cs.set j (.row (.l q))) t) ∨ (k' ≠ k ∧ fd (up st.th (.l q) (.row et sz 0 [])) k' = some t') := by
    intro k' t' hf
    rw [fd_up] at hf ⊢
    by_cases hq' : Key.l q = k'
    · rw [if_pos hq'] at hf ⊢
      exact .inr ⟨fun e' => hkq (by rw [← e', hq']), hf⟩
    · rw [if_neg hq'] at hf ⊢
      rw [fd_up] at hf
      split at hf
      · rename_i he
        exact .inl ⟨he.symm, (Option.some.inj hf).symm⟩
      · rename_i he
        exact .inr ⟨fun e' => he e'.symm, hf⟩
  have hblk : ∀ k' t', fd (up (up st.th k (.box (cs.set j (.row (.l q))) t)) (.l q) (.row et sz 0 [])) k' = some t' → ∃ t0, fd (up st.th (.l q) (.row et sz 0 [])) k' = some t0 ∧ ∀ g, t'.blk (e.set (.l q) 0 (.slice none 0 0)) k' = some g → t0.blk (e.set (.l q) 0 (.slice none 0 0)) k' = some g := by
    intro k' t' hf
    rcases hfd k' t' hf with ⟨rfl, rfl⟩ | ⟨_, hf⟩
    · exact ⟨_, hk1, fun g hg => hg⟩
    · exact ⟨_, hf, fun g hg => hg⟩
  refine h cx hn hok a w ⟨_, s, { h1 with own := ⟨?_, ?_, ?_⟩, fresh := ?_ }⟩
  · intro k' t' hf
    rcases hfd k' t' hf with ⟨rfl, rfl⟩ | ⟨_, hf⟩
    · obtain ⟨ys, h2, h3⟩ := h1.own.holds _ _ hk1
      refine ⟨ys, h2, SV.isL_repl h3 hj fun v hv => ?_⟩
      simp only [SV.is] at hv ⊢
      rw [hv]
      exact ⟨(Env.set_R _ _ _ _).symm, _, _, _, rfl⟩
    · exact h1.own.holds _ _ hf
  · intro k1 k2 t1 t2 g hf1 hf2 hg1 hg2
    obtain ⟨u1, h3, h4⟩ := hblk k1 t1 hf1
    obtain ⟨u2, h5, h6⟩ := hblk k2 t2 hf2
    exact h1.own.apart k1 k2 u1 u2 g h3 h5 (h4 g hg1) (h6 g hg2)
  · intro k1 t1 g hf1 hg1
    obtain ⟨u1, h3, h4⟩ := hblk k1 t1 hf1
    exact h1.own.free k1 u1 g h3 (h4 g hg1)
  · intro k1 t1 g hf1 hg1
    obtain ⟨u1, h3, h4⟩ := hblk k1 t1 hf1
    exact h1.fresh k1 u1 g h3 (h4 g hg1)
end

/-! ### A call walked in its caller's state -/
def tmS : Nat → List SV → List (Nat × SV) → List (Nat × SV)
  | _, [], r => r
  | i, x :: l, r => (i, x) :: tmS (i + 1) l r
def shT : List (Nat × SV) → List (Nat × SV)
  | [] => []
  | (i, x) :: l => (i + 1000000, x) :: shT l
def unT : List (Nat × SV) → List (Nat × SV)
  | [] => []
  | (i, x) :: l => if 1000000 ≤ i then (i - 1000000, x) :: unT l else unT l
theorem fd_shT : ∀ (l : List (Nat × SV)) (i : Nat) (x : SV), fd (shT l) i = some x → 1000000 ≤ i ∧ fd l (i - 1000000) = some x
  | [], i, x, h => by simp [shT, fd] at h
  | (j, y) :: l, i, x, h => by
    simp only [shT, fd] at h ⊢
    split at h
    · rename_i hj
      subst hj
      rw [if_pos (by omega)]
      exact ⟨by omega, h⟩
    · rename_i hj
      obtain ⟨h1, h2⟩ := fd_shT l i x h
      rw [if_neg (by omega)]
      exact ⟨h1, h2⟩
theorem fd_unT : ∀ (l : List (Nat × SV)) (i : Nat) (x : SV), fd (unT l) i = some x → fd l (i + 1000000) = some x
  | [], i, x, h => by simp [unT, fd] at h
  | (j, y) :: l, i, x, h => by
    simp only [unT] at h
    simp only [fd]
    split at h
    · rename_i hj
      simp only [fd] at h
      split at h
      · rename_i he; rw [if_pos (by omega)]; exact h
      · rename_i he; rw [if_neg (by omega)]; exact fd_unT l i x h
    · rename_i hj
      rw [if_neg (by omega)]
      exact fd_unT l i x h
theorem fd_tmS : ∀ (l : List SV) (i : Nat) (r : List (Nat × SV)) (j : Nat) (x : SV), fd (tmS i l r) j = some x → (i ≤ j ∧ l[j - i]? = some x) ∨ fd r j = some x
  | [], i, r, j, x, h => .inr h
  | y :: l, i, r, j, x, h => by
    simp only [tmS, fd] at h
    split at h
    · rename_i hij
      subst hij
      exact .inl ⟨Nat.le_refl _, by simpa using h⟩
    · rename_i hij
      rcases fd_tmS l (i + 1) r j x h with ⟨h1, h2⟩ | h1
      · refine .inl ⟨by omega, ?_⟩
        have : j - i = (j - (i + 1)) + 1 := by omega
        rw [this, List.getElem?_cons_succ]; exact h2
      · exact .inr h1
def tupS : List SV → SV
  | [x] => x
  | l => .tup l
def inV (st : St) (k : SV → St → Prop) (l : List SV) : Prop := k (tupS l) ⟨unT st.tm, st.th, st.F⟩
/-- Behind a call that is walked in its caller's state. -/
def inQ (P : Program) (rs : Array ResultVar) (k : SV → St → Prop) (Qp : Value → St → Prop) : SEx → St → Prop
  | .nrm, st => rsx P st rs.toList (inV st k) []
  | .ret, st => rsx P st rs.toList (inV st k) []
  | .pan v, st => Qp v ⟨unT st.tm, st.th, st.F⟩
  | .ext _, _ => False
theorem inQ_nrm (P : Program) (rs : Array ResultVar) (k : SV → St → Prop) (Qp : Value → St → Prop) (st : St) : inQ P rs k Qp .nrm st = rsx P st rs.toList (inV st k) [] := rfl
theorem inQ_ret (P : Program) (rs : Array ResultVar) (k : SV → St → Prop) (Qp : Value → St → Prop) (st : St) : inQ P rs k Qp .ret st = rsx P st rs.toList (inV st k) [] := rfl
theorem inQ_pan (P : Program) (rs : Array ResultVar) (k : SV → St → Prop) (Qp : Value → St → Prop) (v : Value) (st : St) : inQ P rs k Qp (.pan v) st = Qp v ⟨unT st.tm, st.th, st.F⟩ := rfl
theorem callL_in {P : Program} {f : FuncId} {fn : Func} {c : Code} {args : List SV} {st : St} {k : SV → St → Prop} {Qp : Value → St → Prop} (hf : P.funcs[f]? = some fn) (hb : fn.body = some c) (hn : args.length ≤ fn.ntmps) (hnb : fn.ntmps ≤ 1000000) (hok : okC fn.ntmps c = true)
    (h : SC P fn.ntmps c ⟨tmS 0 args (shT st.tm), st.th, st.F⟩ (inQ P fn.results k Qp)) : callL P f args st k Qp := by
  refine ⟨?_⟩
  intro cx e s a w vs hs hl
  refine calls_of_wp hf hb ?_
  let cx' : Cx := { cx with nt := fn.ntmps, gv := fun i => cx.slot a (i - 1000000), dfs := [] }
  have hlen := SV.isL_length hl
  have back : ∀ {st' : St} {e' : Env} {s' : Hp} {a' : Act} {w' : World}, Sat1 cx' st' e' s' a' w' → Sat1 cx ⟨unT st'.tm, st'.th, st'.F⟩ e' s' a w' := by
    intro st' e' s' a' w' h'
    refine { size := hs.size, ntB := hs.ntB, nodef := hs.nodef, tm := ?_, own := h'.own, fresh := h'.fresh, inw := h'.inw, ge := h'.ge, new := h'.new, fact := h'.fact, os := h'.os, tape := h'.tape, output := h'.output, grow := h'.grow, frame := h'.frame, borB := h'.borB, bnB := h'.bnB }
    intro i x hx
    have := h'.tm _ _ (fd_unT _ _ _ hx)
    have he : cx'.slot a' (i + 1000000) = cx.slot a i := by
      have hlt : ¬ i + 1000000 < 1000000 := by omega
      have h1 : cx'.slot a' (i + 1000000) = cx'.gv (i + 1000000) := by
        generalize i + 1000000 = m at hlt
        rw [Cx.slot, if_neg hlt]
      have h2 : cx'.gv (i + 1000000) = cx.slot a i := by
        have h3 : i + 1000000 - 1000000 = i := by omega
        generalize i + 1000000 = m at h3
        rw [← h3]
      exact h1.trans h2
    rwa [he] at this
  have hs' : Sat1 cx' ⟨tmS 0 args (shT st.tm), st.th, st.F⟩ e s { tmps := vs.toArray ++ Array.replicate (fn.ntmps - vs.toArray.size) undef, defers := [] } w := by
    refine { size := ?_, ntB := hnb, nodef := rfl, tm := ?_, own := hs.own, fresh := hs.fresh, inw := hs.inw, ge := hs.ge, new := hs.new, fact := hs.fact, os := hs.os, tape := hs.tape, output := hs.output, grow := hs.grow, frame := hs.frame, borB := hs.borB, bnB := hs.bnB }
    · simp only [Array.size_append, List.size_toArray, Array.size_replicate]; show _ = fn.ntmps; omega
    · intro i x hx
      rcases fd_tmS _ _ _ _ _ hx with ⟨_, h1⟩ | h1
      · rw [Nat.sub_zero] at h1
        obtain ⟨y, h2, h3⟩ := SV.isL_get hl i x h1
        have hlt := (List.getElem?_eq_some_iff.1 h2).1
        have he : cx'.slot { tmps := vs.toArray ++ Array.replicate (fn.ntmps - vs.toArray.size) undef, defers := [] } i = y := by
          rw [Cx.slot, if_pos (by omega), Array.getD_eq_getD_getElem?, Array.getElem?_append_left (by simpa using hlt)]
          simp [h2]
        rw [he]; exact h3
      · obtain ⟨h2, h3⟩ := fd_shT _ _ _ h1
        have he : cx'.slot { tmps := vs.toArray ++ Array.replicate (fn.ntmps - vs.toArray.size) undef, defers := [] } i = cx.slot a (i - 1000000) := by
          rw [Cx.slot, if_neg (by omega)]
        rw [he]; exact hs.tm _ _ h3
  refine wp_mono (h cx' rfl hok _ w ⟨e, s, hs'⟩) fun ex a' w' hq => ?_
  have fin : ∀ st', rsx P st' fn.results.toList (inV st' k) [] → Sat cx' st' a' w' → a'.defers = [] ∧ ∃ v, (results fn a'.tmps).run P w' = .ok v w' ∧ CallPost cx a k Qp (.returned v) w' := by
    rintro st' h1 ⟨e', s', h'⟩
    refine ⟨h'.nodef, ?_⟩
    obtain ⟨l', ys, h2, h3, h4⟩ := rsx_run h' fn.results.toList _ [] [] (by simp [SV.isL]) h1
    rw [List.nil_append] at h3
    refine ⟨tupV ys, ?_, tupS l', _, e', s', h2, back h', ?_⟩
    · unfold results
      rw [Sem.run_bind]
      have hm : (fn.results.mapM (resF a'.tmps)).run P w' = .ok ys.toArray w' := by
        rw [Array.mapM_eq_mapM_toList, ← bind_pure_comp, Sem.run_bind, h4]; rfl
      change ((Sem.run P (Array.mapM (resF a'.tmps) fn.results) w').andThen _) = _
      rw [hm]
      simp only [Result.andThen_ok, Sem.run_pure]
      congr 1
      cases ys with
      | nil => rfl
      | cons y l => cases l with
        | nil => rfl
        | cons z l => simp [tupV]
    · cases l' with
      | nil =>
        simp only [SV.isL] at h3
        subst h3
        simp [tupS, tupV, SV.is, SV.isL]
      | cons x l => cases l with
        | nil =>
          simp only [SV.isL] at h3
          obtain ⟨y, ys', rfl, h5, rfl⟩ := h3
          exact h5
        | cons x2 l =>
          have h3' := h3
          simp only [SV.isL] at h3
          obtain ⟨y, ys', rfl, h5, y2, ys2, rfl, h6, h7⟩ := h3
          simp only [tupS, tupV, SV.is]
          exact ⟨_, rfl, by simpa using h3'⟩
  cases ex with
  | normal => obtain ⟨st', h1, h2⟩ := hq; exact fin st' h1 h2
  | ret => obtain ⟨st', h1, h2⟩ := hq; exact fin st' h1 h2
  | exit id => obtain ⟨st', h1, h2⟩ := hq; exact h1.elim
  | panic c =>
    obtain ⟨v, st', hc, h1, e', s', h2⟩ := hq
    exact ⟨h2.nodef, v, _, e', s', hc, h1, back h2⟩
  | outgrown => exact hq.elim
  | goto l => exact hq.elim
end Go.Proofs.YtmamodnpghlgcaaDoor
/- The rules by which turned states and drawn regions are reckoned. -/
set_option linter.unusedVariables false
namespace Go.Proofs.YtmamodnpghlgcaaDoor
open Go.RowKit
theorem mkClo_v (f : Go.Fn) (vs : List Value) : mkClo f (vs.map .v) = .v (.func f #[] vs.toArray) := by simp [mkClo, vals_map]
theorem St.norm_mk (tm : List (Nat × SV)) (th : List (Key × Thing)) (F : Fact) (tl : List Nat) (kl : List Key) : St.norm ⟨tm, th, F⟩ tl kl = ⟨sel tm tl, sel th kl, F⟩ := rfl
theorem St.sw_mk (tm : List (Nat × SV)) (th : List (Key × Thing)) (F : Fact) (l : List (Nat × Nat)) : St.sw ⟨tm, th, F⟩ l = ⟨swT l tm, swH l th, F⟩ := rfl
theorem St.fz_mk (tm : List (Nat × SV)) (th : List (Key × Thing)) (F : Fact) (k : Key) (r : Value) (b : Nat) (vs : List Value) : St.fz ⟨tm, th, F⟩ k r b vs = ⟨fzT k r b tm, fzH k r b (rm th k), F.and (cellsF b 0 vs)⟩ := rfl
theorem i64_min : IntKind.i64.min = -9223372036854775808 := by decide
theorem i64_max : IntKind.i64.max = 9223372036854775807 := by decide
theorem u8_min : IntKind.u8.min = 0 := by decide
theorem u8_max : IntKind.u8.max = 255 := by decide
theorem binx_eql_qq (l : Bool) (q : KQ) (P : Program) (t : TypeId) (a b : Bool) (k : SV → Prop) : binx l q P t .eql (SV.q a) (SV.q b) k = (q = .bool ∧ k (SV.q (a == b))) := rfl
theorem binx_neq_qq (l : Bool) (q : KQ) (P : Program) (t : TypeId) (a b : Bool) (k : SV → Prop) : binx l q P t .neq (SV.q a) (SV.q b) k = (q = .bool ∧ k (SV.q (a != b))) := rfl
theorem binx_eql_vq (l : Bool) (q : KQ) (P : Program) (t : TypeId) (a b : Bool) (k : SV → Prop) : binx l q P t .eql (.v (.bool a)) (SV.q b) k = (q = .bool ∧ k (SV.q (a == b))) := rfl
theorem binx_eql_qv (l : Bool) (q : KQ) (P : Program) (t : TypeId) (a b : Bool) (k : SV → Prop) : binx l q P t .eql (SV.q a) (.v (.bool b)) k = (q = .bool ∧ k (SV.q (a == b))) := rfl
theorem binx_neq_vq (l : Bool) (q : KQ) (P : Program) (t : TypeId) (a b : Bool) (k : SV → Prop) : binx l q P t .neq (.v (.bool a)) (SV.q b) k = (q = .bool ∧ k (SV.q (a != b))) := rfl
theorem binx_neq_qv (l : Bool) (q : KQ) (P : Program) (t : TypeId) (a b : Bool) (k : SV → Prop) : binx l q P t .neq (SV.q a) (.v (.bool b)) k = (q = .bool ∧ k (SV.q (a != b))) := rfl
attribute [push_cast] binx_eql_qq binx_neq_qq binx_eql_vq binx_eql_qv binx_neq_vq binx_neq_qv
theorem oc_int (k : IntKind) (n : Int) : (Value.int k n).oneCell' = true := rfl
theorem oc_bool (b : Bool) : (Value.bool b).oneCell' = true := rfl
theorem oc_str (b : ByteArray) : (Value.string b).oneCell' = true := rfl
theorem oc_slice (a : Option Addr) (n c : Nat) : (Value.slice a n c).oneCell' = true := rfl
theorem oc_ptr (a : Option Addr) : (Value.pointer a).oneCell' = true := rfl
theorem oc_nil : (Value.nilIface).oneCell' = true := rfl
attribute [push_cast] oc_int oc_bool oc_str oc_slice oc_ptr oc_nil
attribute [push_cast] Classical.not_not decide_eq_true_eq decide_eq_false_iff_not Bool.not_eq_eq_eq_not
attribute [push_cast] i64_min i64_max u8_min u8_max
attribute [push_cast] sel selK St.norm_mk St.sw_mk St.fz_mk sw1 swn Key.sw SV.sw SV.swL Thing.sw swT swH mkClo mkClo_v SV.fz SV.fzL fzT Thing.fz fzH tmS shT unT tupS inV inQ_nrm inQ_ret inQ_pan one_plain one_guard oneK_eq oneA_eq oneB_eq plx_done plx_take plx_fork plx_stop plK_eq kv
attribute [push_cast] Key.l.injEq Key.b.injEq Option.getD_some Option.getD_none List.nil_append List.cons_append and_true true_and List.length_nil List.length_cons Option.map_some Option.map_none List.take_zero List.take_succ_cons List.drop_zero List.drop_succ_cons List.drop_nil List.take_nil List.map_cons List.map_nil and_self implies_true forall_const List.set_cons_zero List.set_cons_succ List.append_nil not_false_eq_true ne_eq not_true_eq_false Nat.zero_add Nat.add_zero fnQ Bool.not_true Bool.not_false
end Go.Proofs.YtmamodnpghlgcaaDoor
/- Rows that never turn: loads out of them, parts of them. -/
set_option linter.unusedVariables false
namespace Go.Proofs.YtmamodnpghlgcaaDoor
open Go.RowKit
theorem atA_mono {s t : Hp} (h : s.le t) {ad : Addr} {cs : List Value} (k : atA s ad cs) : atA t ad cs := ⟨k.1, fun j v hv => h.1 _ _ _ (k.2 j v hv)⟩
def rowF (a : Option Addr) (cs : List Value) : Fact := ⟨fun s => rowA s a cs, fun s t h k => k.imp id fun ⟨ad, h1, h2⟩ => ⟨ad, h1, atA_mono h h2⟩⟩
/-- A fact that gives another. -/
def Fact.to (F G : Fact) : Prop := ∀ s, F.p s → G.p s
theorem Fact.to_refl (F : Fact) : F.to F := fun _ h => h
theorem Fact.to_left {F G H : Fact} (h : F.to H) : (F.and G).to H := fun s k => h s k.1
theorem Fact.to_right {F G H : Fact} (h : G.to H) : (F.and G).to H := fun s k => h s k.2
theorem Fact.to_and {F G H : Fact} (h : F.to G) (k : F.to H) : F.to (G.and H) := fun s x => ⟨h s x, k s x⟩
theorem Fact.to_trans {F G H : Fact} (h : F.to G) (k : G.to H) : F.to H := fun s x => k s (h s x)
theorem Fact.to_tt (F : Fact) : F.to .tt := fun _ _ => trivial
theorem rowF_some {F : Fact} {a : Option Addr} {cs : List Value} (h : F.to (rowF a cs)) (hn : cs ≠ []) : ∀ s, F.p s → a.isSome = true := by
  intro s hs
  rcases h s hs with h1 | ⟨ad, h1, _⟩
  · exact absurd h1 hn
  · simp [h1]
theorem Addr.add_none {a : Addr} (h : a.spot = none) (n : Nat) : a.add n = ⟨a.block, a.off + n, none⟩ := by
  unfold Addr.add
  split
  · rename_i hn; subst hn; cases a; simp_all
  · rfl
theorem rowF_part {F : Fact} {a : Option Addr} {cs : List Value} (h : F.to (rowF a cs)) (o : Nat) (ds : List Value) (hn : ds ≠ []) (hd : ∀ j v, ds[j]? = some v → cs[o + j]? = some v) : ∀ s, F.p s → atA s ((a.getD default).add o) ds := by
  intro s hs
  rcases h s hs with h1 | ⟨ad, h1, h2⟩
  · subst h1
    cases ds with
    | nil => exact absurd rfl hn
    | cons d ds => have := hd 0 d rfl; simp at this
  · subst h1
    rw [Option.getD_some, Addr.add_none h2.1]
    refine ⟨rfl, fun j v hv => ?_⟩
    have := h2.2 _ _ (hd j v hv)
    rw [Nat.add_assoc]; exact this
theorem Addr.add_add (a : Addr) (m n : Nat) : (a.add m).add n = a.add (m + n) := by
  unfold Addr.add
  by_cases hm : m = 0
  · subst hm; simp
  · by_cases hn : n = 0
    · subst hn; simp
    · have : m + n ≠ 0 := by omega
      simp [hm, hn, Nat.add_assoc]
theorem loadF_agg {n : Nat} {F : Fact} {a : Option Addr} {cs : List Value} {o : Nat} {k : SV → Prop} (ds : List Value) (h : F.to (rowF a cs)) (hl : ds.length = n) (hn : n ≠ 0) (hd : ∀ j v, ds[j]? = some v → cs[o + j]? = some v) (hk : k (.v (.agg ds.toArray))) :
    loadF (some (true, n)) F ((a.getD default).add o) k := ⟨ds, hl, rowF_part h o ds (by intro he; subst he; exact hn hl.symm) hd, hk⟩
theorem loadF_one {n : Nat} {F : Fact} {a : Option Addr} {cs : List Value} {o : Nat} {k : SV → Prop} (c : Value) (h : F.to (rowF a cs)) (hd : cs[o]? = some c) (hk : k (.v c)) :
    loadF (some (false, n)) F ((a.getD default).add o) k := by
  refine ⟨c, rowF_part h o [c] (by simp) ?_, hk⟩
  intro j v hv
  cases j with
  | zero => simp at hv; subst hv; simpa using hd
  | succ j => simp at hv
theorem rowF_nil (F : Fact) (a : Option Addr) : F.to (rowF a []) := fun _ _ => .inl rfl
theorem rowF_drop {F : Fact} {a : Option Addr} {cs : List Value} {c z : Nat} (h : F.to (rowF a cs)) (l : Nat) (hc : cs.length ≤ c * z) : F.to (rowF (slA a l c z) (cs.drop (l * z))) := by
  intro s hs
  rcases h s hs with h1 | ⟨ad, h1, h2⟩
  · subst h1; exact .inl (by simp)
  · unfold slA
    split
    · rename_i he
      subst he
      exact .inl (List.drop_eq_nil_of_le hc)
    · refine .inr ⟨ad.add (l * z), by simp [h1], ?_⟩
      rw [Addr.add_none h2.1]
      refine ⟨rfl, fun j v hv => ?_⟩
      rw [List.getElem?_drop] at hv
      have := h2.2 _ _ hv
      rw [Nat.add_assoc]; exact this
theorem rowF_take {F : Fact} {a : Option Addr} {cs : List Value} (h : F.to (rowF a cs)) (n : Nat) : F.to (rowF a (cs.take n)) := by
  intro s hs
  rcases h s hs with h1 | ⟨ad, h1, h2⟩
  · subst h1; exact .inl (by simp)
  · refine .inr ⟨ad, h1, h2.1, fun j v hv => h2.2 j v ?_⟩
    rw [List.getElem?_take] at hv
    split at hv
    · exact hv
    · cases hv
/-- An own row made lasting. -/
theorem SC.frzRow {P : Program} {nt : Nat} {Q : SEx → St → Prop} {st : St} {c : Code} {k : Key} {et : TypeId} {sz n : Nat} {xs : List Value} (hk : fd st.th k = some (.row et sz n xs)) (hl : xs.length = n * sz)
    (h : ∀ (a : Option Addr) (b cp : Nat), n ≤ cp → SC P nt c ⟨fzT k (.slice a n cp) b st.tm, fzH k (.slice a n cp) b (rm st.th k), st.F.and (rowF a xs)⟩ Q) : SC P nt c st Q := by
  refine SC.frzR hk fun b r hr => ?_
  rcases hr with ⟨rfl, rfl⟩ | ⟨cp, rfl, hc⟩
  · refine SC.of_le (h none b 0 (Nat.le_refl _)) ?_
    exact Le.fact (st := St.fz st k (.slice none 0 0) b xs) fun s hs => ⟨hs.1, .inl (List.eq_nil_of_length_eq_zero (by rw [hl, Nat.zero_mul]))⟩
  · refine SC.of_le (h (some ⟨b, 0, none⟩) b cp hc) ?_
    exact Le.fact (st := St.fz st k (.slice (some ⟨b, 0, none⟩) n cp) b xs) fun s hs => ⟨hs.1, .inr ⟨_, rfl, rfl, fun j v hv => hs.2 j v hv⟩⟩
end Go.Proofs.YtmamodnpghlgcaaDoor
/- Equality of structs and arrays, cell by cell. -/
set_option linter.unusedVariables false
namespace Go.Proofs.YtmamodnpghlgcaaDoor
open Go.RowKit
/-- The fields as an equality asks them. -/
def fieldsL (P : Program) (t : TypeId) : List (Bool × TypeId × Nat) := (P.fieldsOf t).toList.map fun f => (f.name == "_", f.type, f.offset)
def eqFL (d : Nat) (xs ys : Array Value) : List (Bool × TypeId × Nat) → Sem Bool
  | [] => pure true
  | (u, t, o) :: fs => if u = false then do
      let a ← part t xs o
      let b ← part t ys o
      let r ← Op.equalIn d t a b
      if (!r) = true then pure false else eqFL d xs ys fs
    else eqFL d xs ys fs
theorem eqFL_eq (d : Nat) (xs ys : Array Value) : ∀ fs : List Field, Op.eqFields d xs ys fs = eqFL d xs ys (fs.map fun f => (f.name == "_", f.type, f.offset))
  | [] => rfl
  | f :: fs => by
    simp only [Op.eqFields, List.map_cons, eqFL, eqFL_eq d xs ys fs]
    by_cases h : f.name = "_" <;> simp [h]
section
variable {P : Program} {d : Nat} {xs ys : Array Value} {w : World}
theorem part_one_run {t : TypeId} (hq : tq P t = some (false, 1)) {off : Nat} {v : Value} (hv : xs[off]? = some v) : (part t xs off).run P w = .ok v w := by
  simp [part, tqa_run hq, hv]
theorem part_agg_run {t : TypeId} {n : Nat} (hq : tq P t = some (true, n)) (off : Nat) : (part t xs off).run P w = .ok (.agg (xs.extract off (off + n))) w := by
  simp [part, tqa_run hq, tqs_run hq]
theorem eqFL_int {t : TypeId} {o : Nat} {fs : List (Bool × TypeId × Nat)} {k : IntKind} {a b : Int} {r : Bool} (hq : tq P t = some (false, 1)) (hk : P.underlying t = some (.int k)) (ha : xs[o]? = some (.int k a)) (hb : ys[o]? = some (.int k b)) (hr : (eqFL (d + 1) xs ys fs).run P w = .ok r w) :
    (eqFL (d + 1) xs ys ((false, t, o) :: fs)).run P w = .ok ((a == b) && r) w := by
  simp only [eqFL, if_true, Sem.run_bind, part_one_run hq ha, part_one_run hq hb, Result.andThen_ok, run_equalIn_int w d t k k a b hk]
  cases h : (a == b) <;> simp [hr]
theorem eqFL_any {t : TypeId} {o n : Nat} {fs : List (Bool × TypeId × Nat)} {r q : Bool} (hq : tq P t = some (true, n)) (he : (Op.equalIn d t (.agg (xs.extract o (o + n))) (.agg (ys.extract o (o + n)))).run P w = .ok q w) (hr : (eqFL d xs ys fs).run P w = .ok r w) :
    (eqFL d xs ys ((false, t, o) :: fs)).run P w = .ok (q && r) w := by
  simp only [eqFL, if_true, Sem.run_bind, part_agg_run hq o, Result.andThen_ok, he]
  cases q <;> simp [hr]
theorem eqFL_nil : (eqFL d xs ys []).run P w = .ok true w := by simp [eqFL]
theorem eqI_cons {e : TypeId} {c i : Nat} {is : List Nat} {k : IntKind} {a b : Int} {r : Bool} (hq : tq P e = some (false, 1)) (hk : P.underlying e = some (.int k)) (ha : xs[i * c]? = some (.int k a)) (hb : ys[i * c]? = some (.int k b)) (hr : (Op.eqItems (d + 1) e c xs ys is).run P w = .ok r w) :
    (Op.eqItems (d + 1) e c xs ys (i :: is)).run P w = .ok ((a == b) && r) w := by
  simp only [Op.eqItems, Sem.run_bind, part_one_run hq ha, part_one_run hq hb, Result.andThen_ok, run_equalIn_int w d e k k a b hk]
  cases h : (a == b) <;> simp [hr]
theorem eqI_nil {e : TypeId} {c : Nat} : (Op.eqItems d e c xs ys []).run P w = .ok true w := by simp [Op.eqItems]
theorem eqA_run {t : TypeId} {r : Bool} {fs : List (Bool × TypeId × Nat)} (hS : P.underlying t = some (.struct (P.fieldsOf t))) (hp : P.stoodInHeld t = false) (hf : fieldsL P t = fs) (h : (eqFL 9999 xs ys fs).run P w = .ok r w) : (Op.equal t (.agg xs) (.agg ys)).run P w = .ok r w := by
  rw [Op.equal, show Op.maxDepth = 9999 + 1 from rfl, run_equalIn_struct w 9999 t xs ys hS hp, eqFL_eq]
  rw [← hf] at h
  exact h
end
end Go.Proofs.YtmamodnpghlgcaaDoor
