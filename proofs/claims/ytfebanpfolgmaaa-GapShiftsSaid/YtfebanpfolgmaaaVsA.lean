/- A verified symbolic evaluator of the loaded Go code, first part: typed data, and what it means that a value in memory reads as data. -/
import Derived.WalkKit
import Derived.Orders
namespace Go.Vs
set_option linter.unusedVariables false

/-- Types of data: one cell each, but for records. -/
inductive Ty where
  | int (k : IntKind)
  | bool
  | str
  | sl (t : Ty)
  | rc (n : Nat)
  deriving DecidableEq

/-- What a cell reads as, without types: an address-free value, or a slice of rows of cells. -/
inductive D where
  | v (x : Value)
  | sl (sz : Nat) (l : List (List D))

def Ty.den (T : Nat → Type) : Ty → Type
  | .int _ => Int
  | .bool => Bool
  | .str => ByteArray
  | .sl t => List (t.den T)
  | .rc n => T n

/-- Records: their Lean types, cells and readings. -/
structure Env where
  T : Nat → Type
  dflt : ∀ n, T n
  sz : Nat → Nat
  enc : ∀ n, T n → List D
  cells : ∀ n, T n → List (Sigma (Ty.den T))
  fold : ∀ n, List (Sigma (Ty.den T)) → Option (T n)
  scal : Nat → Bool

variable (Γ : Env)

abbrev Den (t : Ty) : Type := t.den Γ.T
abbrev Cell : Type := Sigma (Ty.den Γ.T)

variable {Γ}

def Ty.zero (Γ : Env) : (t : Ty) → Den Γ t
  | .int _ => (0 : Int)
  | .bool => false
  | .str => (⟨#[]⟩ : ByteArray)
  | .sl _ => []
  | .rc n => Γ.dflt n

def Ty.size (Γ : Env) : Ty → Nat
  | .rc n => Γ.sz n
  | _ => 1

def encL : (t : Ty) → Den Γ t → List D
  | .int k, x => [.v (.int k x)]
  | .bool, b => [.v (.bool b)]
  | .str, s => [.v (.string s)]
  | .sl t, l => [.sl (t.size Γ) (List.map (encL t) l)]
  | .rc n, x => Γ.enc n x

def Cell.enc (c : Cell Γ) : D := (encL c.1 c.2).headD (.v undef)

def cellsOf : (t : Ty) → Den Γ t → List (Cell Γ)
  | .rc n, x => Γ.cells n x
  | .int k, x => [⟨.int k, x⟩]
  | .bool, x => [⟨.bool, x⟩]
  | .str, x => [⟨.str, x⟩]
  | .sl t, x => [⟨.sl t, x⟩]

def asTy (c : Cell Γ) (t : Ty) : Option (Den Γ t) := if h : c.1 = t then some (h ▸ c.2) else none

theorem asTy_some {c : Cell Γ} {t : Ty} {x : Den Γ t} (h : asTy c t = some x) : c = ⟨t, x⟩ := by
  unfold asTy at h
  split at h
  · rename_i e
    obtain ⟨a, y⟩ := c
    simp only at e
    subst e
    simp at h
    rw [h]
  · simp at h

def one? (cs : List (Cell Γ)) (t : Ty) : Option (Den Γ t) :=
  match cs with
  | [c] => asTy c t
  | _ => none

theorem one?_some {cs : List (Cell Γ)} {t : Ty} {x : Den Γ t} (h : one? cs t = some x) : cs = [⟨t, x⟩] := by
  cases cs with
  | nil => simp [one?] at h
  | cons c r =>
    cases r with
    | nil => rw [asTy_some (show asTy c t = some x from h)]
    | cons _ _ => simp [one?] at h

def mkOf : (t : Ty) → List (Cell Γ) → Option (Den Γ t)
  | .rc n, cs => Γ.fold n cs
  | .int k, cs => one? cs (.int k)
  | .bool, cs => one? cs .bool
  | .str, cs => one? cs .str
  | .sl t, cs => one? cs (.sl t)

/-- No slice in it. -/
def Ty.scal0 : Ty → Bool
  | .int _ => true
  | .bool => true
  | .str => true
  | _ => false

def Ty.flat : Ty → Bool
  | .rc _ => false
  | _ => true

/-- The laws of the records. -/
structure Env.Ok (Γ : Env) : Prop where
  enc : ∀ n (x : Γ.T n), Γ.enc n x = (Γ.cells n x).map Cell.enc
  size : ∀ n (x : Γ.T n), (Γ.cells n x).length = Γ.sz n
  fold : ∀ n cs (x : Γ.T n), Γ.fold n cs = some x → Γ.cells n x = cs
  flat : ∀ n (x : Γ.T n), ∀ c ∈ Γ.cells n x, c.1.flat = true
  scal : ∀ n (x : Γ.T n), Γ.scal n = true → ∀ c ∈ Γ.cells n x, c.1.scal0 = true

theorem encL_cells (hΓ : Γ.Ok) : ∀ (t : Ty) (x : Den Γ t), encL t x = (cellsOf t x).map Cell.enc
  | .rc n, x => hΓ.enc n x
  | .int _, _ => rfl
  | .bool, _ => rfl
  | .str, _ => rfl
  | .sl _, _ => rfl

theorem cellsOf_size (hΓ : Γ.Ok) : ∀ (t : Ty) (x : Den Γ t), (cellsOf t x).length = t.size Γ
  | .rc n, x => hΓ.size n x
  | .int _, _ => rfl
  | .bool, _ => rfl
  | .str, _ => rfl
  | .sl _, _ => rfl

theorem encL_size (hΓ : Γ.Ok) (t : Ty) (x : Den Γ t) : (encL t x).length = t.size Γ := by
  rw [encL_cells hΓ, List.length_map, cellsOf_size hΓ]

theorem mkOf_cells (hΓ : Γ.Ok) (t : Ty) (cs : List (Cell Γ)) (x : Den Γ t) (h : mkOf t cs = some x) : cellsOf t x = cs := by
  cases t with
  | rc n => exact hΓ.fold n cs x h
  | int k => exact (one?_some h).symm
  | bool => exact (one?_some h).symm
  | str => exact (one?_some h).symm
  | sl t => exact (one?_some h).symm

/-- THE READING: in world w, out of blocks of F alone, a value reads as data. -/
inductive RepD (F : Nat → Prop) (w : World) : D → Value → Prop
  | v (x : Value) : RepD F w (.v x) x
  | nil (sz : Nat) : RepD F w (.sl sz []) (.slice none 0 0)
  | sl (a : Addr) (cap sz : Nat) (l : List (List D)) (u : Nat → Nat → Value) (hsz : ∀ r ∈ l, r.length = sz) (hc : l.length ≤ cap) (hm : cap ≤ maxLen)
      (hF : ∀ i j, i < l.length → j < sz → F a.block) (hcell : ∀ i j, i < l.length → j < sz → w.cell? (a.add (i * sz + j)) = some (u i j))
      (hr : ∀ i j, i < l.length → j < sz → RepD F w ((l.getD i []).getD j (.v undef)) (u i j)) : RepD F w (.sl sz l) (.slice (some a) l.length cap)

/-- Blocks of F are as they were. -/
structure Keeps (F : Nat → Prop) (w w' : World) : Prop where
  size : w.heap.size ≤ w'.heap.size
  block : ∀ b, F b → w'.heap[b]? = w.heap[b]?

theorem Keeps.refl (F : Nat → Prop) (w : World) : Keeps F w w := ⟨Nat.le_refl _, fun _ _ => rfl⟩
theorem Keeps.trans {F F' : Nat → Prop} {a b c : World} (h : Keeps F a b) (k : Keeps F' b c) (hF : ∀ x, F x → F' x) : Keeps F a c :=
  ⟨Nat.le_trans h.size k.size, fun x hx => (k.block x (hF x hx)).trans (h.block x hx)⟩

theorem RepD.mono {F F' : Nat → Prop} {w w' : World} {d : D} {x : Value} (h : RepD F w d x) (hk : Keeps F w w') (hF : ∀ b, F b → F' b) : RepD F' w' d x := by
  induction h with
  | v x => exact .v x
  | nil sz => exact .nil sz
  | sl a cap sz l u hsz hc hm hFa hcell hr ih =>
    refine .sl a cap sz l u hsz hc hm (fun i j hi hj => hF _ (hFa i j hi hj)) (fun i j hi hj => ?_) ih
    rw [World.cell?_of_block (w := w) (hk.block _ (by have := hFa i j hi hj; unfold Addr.add; split <;> exact this))]
    exact hcell i j hi hj

/-- A list of cells reads as a list of data. -/
def RepL (F : Nat → Prop) (w : World) (ds : List D) (vs : List Value) : Prop := vs.length = ds.length ∧ ∀ i, i < ds.length → RepD F w (ds.getD i (.v undef)) (vs.getD i undef)

theorem RepL.mono {F F' : Nat → Prop} {w w' : World} {ds : List D} {vs : List Value} (h : RepL F w ds vs) (hk : Keeps F w w') (hF : ∀ b, F b → F' b) : RepL F' w' ds vs :=
  ⟨h.1, fun i hi => (h.2 i hi).mono hk hF⟩

theorem RepL.nil (F : Nat → Prop) (w : World) : RepL F w [] [] := ⟨rfl, fun i hi => absurd hi (Nat.not_lt_zero _)⟩

theorem RepL.append {F : Nat → Prop} {w : World} {ds es : List D} {vs us : List Value} (h : RepL F w ds vs) (k : RepL F w es us) : RepL F w (ds ++ es) (vs ++ us) := by
  refine ⟨by simp [h.1, k.1], fun i hi => ?_⟩
  simp only [List.getD_eq_getElem?_getD, List.getElem?_append, h.1]
  split
  · rename_i hlt
    have := h.2 i hlt
    simpa only [List.getD_eq_getElem?_getD] using this
  · rename_i hge
    have := k.2 (i - ds.length) (by simp at hi; omega)
    simpa only [List.getD_eq_getElem?_getD] using this

theorem RepL.set {F : Nat → Prop} {w : World} {ds : List D} {vs : List Value} (h : RepL F w ds vs) (i : Nat) {d : D} {v : Value} (hd : RepD F w d v) : RepL F w (ds.set i d) (vs.set i v) := by
  refine ⟨by simp [h.1], fun j hj => ?_⟩
  have hj' : j < ds.length := by simpa using hj
  have := h.2 j hj'
  simp only [List.getD_eq_getElem?_getD, List.getElem?_set] at *
  by_cases e : i = j
  · subst e
    simpa [h.1, hj'] using hd
  · simpa [e] using this

end Go.Vs
