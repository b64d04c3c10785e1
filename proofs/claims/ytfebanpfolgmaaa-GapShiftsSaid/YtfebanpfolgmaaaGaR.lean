/- How the arguments of the gap laws are read, and how a call of a law ends. -/
import Derived.Test.YtfebanpfolgmaaaGaK
import Derived.Test.YtfebanpfolgmaaaRows
import Derived.ProofKit
import Derived.Deep.Strs
import Derived.Below
import Derived.OpenShut
namespace Go.Vs.Ga
set_option linter.unusedVariables false
set_option linter.unusedSimpArgs false
set_option maxRecDepth 100000
open Go.Proofs Go.RowKit Go.ChangeShapes Go.WideShapes

section read
variable {H : Type} {enc : TypeId × Value → H} {W : World} {sp : Nat → Bool} {base : Nat}

def Old (W : World) : Nat → Prop := fun b => b < W.heap.size

theorem cell_old {a : Addr} {v : Value} (h : W.cell? a = some v) : a.block < W.heap.size := by
  unfold World.cell? at h
  rcases Nat.lt_or_ge a.block W.heap.size with hl | hl
  · exact hl
  · rw [Array.getElem?_eq_none hl] at h
    simp at h

theorem rep_int {T : TypeId} {k : IntKind} {fuel : Nat} {c : Value} {x : DataW H × List MemPlace} (ht : Try.prog.underlying T = some (.int k)) (h : DataW.trod enc Try.prog W base sp true fuel T [c] = some x) : ∃ n, c = .int k n ∧ (Lit.int k n).wf = true := by
  cases fuel with
  | zero => simp [DataW.trod] at h
  | succ m =>
    unfold DataW.trod at h
    rw [ht] at h
    split at h <;> simp_all

theorem rep_bool {T : TypeId} {fuel : Nat} {c : Value} {x : DataW H × List MemPlace} (ht : Try.prog.underlying T = some .bool) (h : DataW.trod enc Try.prog W base sp true fuel T [c] = some x) : ∃ n, c = .bool n := by
  cases fuel with
  | zero => simp [DataW.trod] at h
  | succ m =>
    unfold DataW.trod at h
    rw [ht] at h
    split at h <;> simp_all

theorem rep_ints {T e : TypeId} {k : IntKind} {fuel : Nat} {c : Value} {x : DataW H × List MemPlace} (ht : Try.prog.underlying T = some (.slice e)) (he : Try.prog.underlying e = some (.int k)) (hc : Try.prog.cellsOf e = 1)
    (h : DataW.trod enc Try.prog W base sp true fuel T [c] = some x) : ∃ l : List Int, RepD (Old W) W (.sl 1 (l.map fun n => [.v (.int k n)])) c ∧ ∀ n ∈ l, (Lit.int k n).wf = true := by
  rcases open_ints ht he hc h with ⟨hcs, _⟩ | ⟨a, len, cap, zs, hcs, _, hl, hm, hz, _, hcell, hw⟩
  · injection hcs with hcs
    subst hcs
    exact ⟨[], .nil _, fun n hn => by cases hn⟩
  · injection hcs with hcs
    subst hcs
    have hlz : len ≤ zs.length := by rw [hz]; split <;> omega
    have hll : (zs.take len).length = len := by rw [List.length_take, Nat.min_eq_left hlz]
    refine ⟨zs.take len, ?_, fun n hn => hw n (List.mem_of_mem_take hn)⟩
    have := RepD.sl (F := Old W) (w := W) a cap 1 ((zs.take len).map fun n => [D.v (.int k n)]) (fun i j => .int k (zs.getD i 0)) (fun r hr => by obtain ⟨n, _, rfl⟩ := List.mem_map.1 hr; rfl) (by rw [List.length_map, hll]; exact hl) hm
      (fun i j hi hj => cell_old (hcell i (by rw [List.length_map, hll] at hi; omega)) |> fun h => by rwa [add_block] at h)
      (fun i j hi hj => by
        obtain rfl : j = 0 := by omega
        rw [Nat.mul_one, Nat.add_zero]
        exact hcell i (by rw [List.length_map, hll] at hi; omega))
      (fun i j hi hj => by
        obtain rfl : j = 0 := by omega
        rw [List.length_map, hll] at hi
        have e : ((zs.take len).map fun n => [D.v (.int k n)]).getD i [] = [.v (.int k (zs.getD i 0))] := by
          have h1 : i < zs.length := by omega
          simp [List.getD_eq_getElem?_getD, List.getElem?_take, hi, h1]
        rw [e]
        exact .v _)
    rw [List.length_map, hll] at this
    exact this

theorem co24 : Try.prog.cellsOf 24 = 3 := by kernel_rfl
theorem co5 : Try.prog.cellsOf 5 = 1 := by kernel_rfl
theorem co3 : Try.prog.cellsOf 3 = 1 := by kernel_rfl
theorem co4 : Try.prog.cellsOf 4 = 1 := by kernel_rfl
theorem co21 : Try.prog.cellsOf 21 = 1 := by kernel_rfl
theorem co22 : Try.prog.cellsOf 22 = 1 := by kernel_rfl
theorem co25 : Try.prog.cellsOf 25 = 1 := by kernel_rfl
theorem co26 : Try.prog.cellsOf 26 = 1 := by kernel_rfl
theorem co28 : Try.prog.cellsOf 28 = 5 := by kernel_rfl
theorem co29 : Try.prog.cellsOf 29 = 2 := by kernel_rfl
theorem co30 : Try.prog.cellsOf 30 = 2 := by kernel_rfl
theorem co32 : Try.prog.cellsOf 32 = 11 := by kernel_rfl

def OkRaw (x : Raw) : Prop := (0 ≤ x.vars ∧ x.vars ≤ 255) ∧ (0 ≤ x.params ∧ x.params ≤ 255)

theorem wf_u8 {n : Int} (h : (Lit.int .u8 n).wf = true) : 0 ≤ n ∧ n ≤ 255 := by
  simp [Lit.wf, IntKind.min, IntKind.max, IntKind.signed, IntKind.bits] at h
  omega
theorem wf_i32 {n : Int} (h : (Lit.int .i32 n).wf = true) : -2147483648 ≤ n ∧ n ≤ 2147483647 := by
  simp [Lit.wf, IntKind.min, IntKind.max, IntKind.signed, IntKind.bits] at h
  omega
theorem wf_i64 {n : Int} (h : (Lit.int .i64 n).wf = true) : -9223372036854775808 ≤ n ∧ n ≤ 9223372036854775807 := by
  simp [Lit.wf, IntKind.min, IntKind.max, IntKind.signed, IntKind.bits] at h
  omega

theorem len3 {α : Type} {l : List α} (h : l.length = 3) : ∃ a b c, l = [a, b, c] := by
  match l, h with
  | [a, b, c], _ => exact ⟨a, b, c, rfl⟩
theorem len5 {α : Type} {l : List α} (h : l.length = 5) : ∃ a b c d e, l = [a, b, c, d, e] := by
  match l, h with
  | [a, b, c, d, e], _ => exact ⟨a, b, c, d, e, rfl⟩
theorem len2 {α : Type} {l : List α} (h : l.length = 2) : ∃ a b, l = [a, b] := by
  match l, h with
  | [a, b], _ => exact ⟨a, b, rfl⟩
theorem len11 {α : Type} {l : List α} (h : l.length = 11) : ∃ a b c d e f g h i j k, l = [a, b, c, d, e, f, g, h, i, j, k] := by
  match l, h with
  | [a, b, c, d, e, f, g, h, i, j, k], _ => exact ⟨a, b, c, d, e, f, g, h, i, j, k, rfl⟩

theorem repL3 {F : Nat → Prop} {w : World} {d0 d1 d2 : D} {c0 c1 c2 : Value} (h0 : RepD F w d0 c0) (h1 : RepD F w d1 c1) (h2 : RepD F w d2 c2) : RepL F w [d0, d1, d2] [c0, c1, c2] := .cons h0 (.cons h1 (.cons h2 (.nil _ _)))

theorem rep_raw {fuel : Nat} {cs : List Value} {y : DataW H × List MemPlace} (h : DataW.trod enc Try.prog W base sp true fuel 24 cs = some y) : ∃ x : Raw, RepL (Old W) W (List.map (Cell.enc (Γ := Γ)) (cells3 x)) cs ∧ OkRaw x := by
  obtain ⟨y0, y1, y2, m, _, hl, h0, h1, h2⟩ := Go.Deep.trod_struct3 Try.underlying24 h
  rw [co24] at hl
  obtain ⟨c0, c1, c2, rfl⟩ := len3 hl
  simp only [co5, co22] at h0 h1 h2
  obtain ⟨n0, rfl, w0⟩ := rep_int Try.underlying5 h0
  obtain ⟨n1, rfl, w1⟩ := rep_int Try.underlying5 h1
  obtain ⟨l, hl, _⟩ := rep_ints Try.underlying22 Try.underlying3 co3 h2
  exact ⟨⟨n0, n1, l⟩, repL3 (.v _) (.v _) hl, wf_u8 w0, wf_u8 w1⟩

theorem val_raw {t : TypeId} {v : Value} {d : DataW H} {p : List MemPlace} (hv : Value.okWide Try.prog W .any base 24 v) (h : DataW.Trod enc Try.prog W 0 sp true 24 v d p) : ∃ x : Raw, ValRep (Γ := Γ) (Old W) W (.rc 3) x v ∧ OkRaw x := by
  obtain ⟨cs, rfl, hsz⟩ := okWide_struct Try.underlying24 hv
  obtain ⟨fuel, hf⟩ := h
  obtain ⟨x, hr, ho⟩ := rep_raw (show DataW.trod enc Try.prog W 0 sp true fuel 24 cs.toList = some (d, p) from hf)
  exact ⟨x, ⟨cs, rfl, ConcL.of_cells hr⟩, ho⟩

theorem rep_arr2 {fuel : Nat} {T e : TypeId} {cs : List Value} {y : DataW H × List MemPlace} (ht : Try.prog.underlying T = some (.array 2 e)) (hc : Try.prog.cellsOf T = 2) (he : Try.prog.cellsOf e = 1) (h : DataW.trod enc Try.prog W base sp true fuel T cs = some y) :
    ∃ m c0 c1 y0 y1, cs = [c0, c1] ∧ DataW.trod enc Try.prog W base sp true m e [c0] = some y0 ∧ DataW.trod enc Try.prog W base sp true m e [c1] = some y1 := by
  obtain ⟨xs, m, _, _, hl, hx, hf⟩ := DataW.trod_array ht h
  rw [hc] at hl
  obtain ⟨c0, c1, rfl⟩ := len2 hl
  obtain ⟨y0, y1, rfl⟩ := len2 hx
  have h0 := hf 0 (by omega)
  have h1 := hf 1 (by omega)
  simp only [he] at h0 h1
  exact ⟨m, c0, c1, y0, y1, rfl, h0, h1⟩

def OkInput (x : Input) : Prop := ((0 ≤ x.vars ∧ x.vars ≤ 255) ∧ (0 ≤ x.params ∧ x.params ≤ 255)) ∧ (∀ n ∈ x.l, -2147483648 ≤ n ∧ n ≤ 2147483647) ∧ ∀ n ∈ x.more, 0 ≤ n ∧ n ≤ 255

theorem val_input {v : Value} {d : DataW H} {p : List MemPlace} (hv : Value.okWide Try.prog W .any base 28 v) (h : DataW.Trod enc Try.prog W 0 sp true 28 v d p) : ∃ x : Input, ValRep (Γ := Γ) (Old W) W (.rc 4) x v ∧ OkInput x := by
  obtain ⟨cs, rfl, hsz⟩ := okWide_struct Try.underlying28 hv
  obtain ⟨fuel, hf⟩ := h
  obtain ⟨y0, y1, y2, m, _, hl, h0, h1, h2⟩ := Go.Deep.trod_struct3 Try.underlying28 (show DataW.trod enc Try.prog W 0 sp true fuel 28 cs.toList = some (d, p) from hf)
  rw [co28] at hl
  obtain ⟨c0, c1, c2, c3, c4, hcs⟩ := len5 hl
  rw [hcs] at h0 h1 h2
  simp only [co24, co25, co26] at h0 h1 h2
  obtain ⟨x, hr, ho⟩ := rep_raw h0
  obtain ⟨l, hl1, wl⟩ := rep_ints Try.underlying25 Try.underlying21 co21 h1
  obtain ⟨more, hl2, wm⟩ := rep_ints Try.underlying26 Try.underlying5 co5 h2
  refine ⟨⟨x.vars, x.params, x.n, l, more⟩, ⟨cs, rfl, ?_⟩, ho, fun n hn => wf_i32 (wl n hn), fun n hn => wf_u8 (wm n hn)⟩
  rw [hcs]
  have key := RepL.append (show RepL (Old W) W (List.map (Cell.enc (Γ := Γ)) (cells3 x)) [c0, c1, c2] from hr) (RepL.cons (d := Cell.enc (Γ := Γ) ⟨.sl i32, l⟩) hl1 (.cons (d := Cell.enc (Γ := Γ) ⟨.sl u8, more⟩) hl2 (.nil _ _)))
  have key2 : RepL (Old W) W (List.map (Cell.enc (Γ := Γ)) (cells4 ⟨x.vars, x.params, x.n, l, more⟩)) [c0, c1, c2, c3, c4] := key
  exact ConcL.of_cells key2

def I64 (n : Int) : Prop := -9223372036854775808 ≤ n ∧ n ≤ 9223372036854775807
def OkStep (x : Step) : Prop := I64 x.op ∧ I64 x.v ∧ I64 x.w ∧ I64 x.u ∧ I64 x.c ∧ I64 x.d ∧ (0 ≤ x.f0 ∧ x.f0 ≤ 255) ∧ (0 ≤ x.f1 ∧ x.f1 ≤ 255)

theorem val_step {v : Value} {d : DataW H} {p : List MemPlace} (hv : Value.okWide Try.prog W .any base 32 v) (h : DataW.Trod enc Try.prog W 0 sp true 32 v d p) : ∃ x : Step, ValRep (Γ := Γ) (Old W) W (.rc 5) x v ∧ OkStep x := by
  obtain ⟨cs, rfl, hsz⟩ := okWide_struct Try.underlying32 hv
  obtain ⟨fuel, hf⟩ := h
  obtain ⟨xs, m, _, _, hl, hx, hq⟩ := DataW.trod_struct Try.underlying32 (show DataW.trod enc Try.prog W 0 sp true fuel 32 cs.toList = some (d, p) from hf)
  rw [co32] at hl
  obtain ⟨c0, c1, c2, c3, c4, c5, c6, c7, c8, c9, c10, hcs⟩ := len11 hl
  rw [hcs] at hq
  have g : ∀ i, i < xs.length → ∃ z, xs[i]? = some z := fun i hi => ⟨_, List.getElem?_eq_getElem hi⟩
  have hx9 : xs.length = 9 := hx
  obtain ⟨z0, e0⟩ := g 0 (by omega)
  obtain ⟨z1, e1⟩ := g 1 (by omega)
  obtain ⟨z2, e2⟩ := g 2 (by omega)
  obtain ⟨z3, e3⟩ := g 3 (by omega)
  obtain ⟨z4, e4⟩ := g 4 (by omega)
  obtain ⟨z5, e5⟩ := g 5 (by omega)
  obtain ⟨z6, e6⟩ := g 6 (by omega)
  obtain ⟨z7, e7⟩ := g 7 (by omega)
  obtain ⟨z8, e8⟩ := g 8 (by omega)
  have q0 := (hq 0 _ rfl).trans e0
  have q1 := (hq 1 _ rfl).trans e1
  have q2 := (hq 2 _ rfl).trans e2
  have q3 := (hq 3 _ rfl).trans e3
  have q4 := (hq 4 _ rfl).trans e4
  have q5 := (hq 5 _ rfl).trans e5
  have q6 := (hq 6 _ rfl).trans e6
  have q7 := (hq 7 _ rfl).trans e7
  have q8 := (hq 8 _ rfl).trans e8
  simp only [List.getElem_toArray, List.getElem_cons_zero, List.getElem_cons_succ, co3, co4, co29, co30] at q0 q1 q2 q3 q4 q5 q6 q7 q8
  obtain ⟨n0, rfl, w0⟩ := rep_int Try.underlying3 q0
  obtain ⟨n1, rfl, w1⟩ := rep_int Try.underlying3 q1
  obtain ⟨n2, rfl, w2⟩ := rep_int Try.underlying3 q2
  obtain ⟨n3, rfl, w3⟩ := rep_int Try.underlying3 q3
  obtain ⟨n4, rfl, w4⟩ := rep_int Try.underlying3 q4
  obtain ⟨n5, rfl, w5⟩ := rep_int Try.underlying3 q5
  obtain ⟨m6, a6, b6, y6, y6', hs6, h6, h6'⟩ := rep_arr2 Try.underlying29 co29 co5 q6
  cases hs6
  obtain ⟨n6, rfl, w6⟩ := rep_int Try.underlying5 h6
  obtain ⟨n7, rfl, w7⟩ := rep_int Try.underlying5 h6'
  obtain ⟨n8, rfl⟩ := rep_bool Try.underlying4 q7
  obtain ⟨m9, a9, b9, y9, y9', hs9, h9, h9'⟩ := rep_arr2 Try.underlying30 co30 co4 q8
  cases hs9
  obtain ⟨n9, rfl⟩ := rep_bool Try.underlying4 h9
  obtain ⟨n10, rfl⟩ := rep_bool Try.underlying4 h9'
  refine ⟨⟨n0, n1, n2, n3, n4, n5, n6, n7, n8, n9, n10⟩, ⟨cs, rfl, ?_⟩, wf_i64 w0, wf_i64 w1, wf_i64 w2, wf_i64 w3, wf_i64 w4, wf_i64 w5, wf_u8 w6, wf_u8 w7⟩
  rw [hcs]
  exact ConcL.of_cells (.cons (.v _) (.cons (.v _) (.cons (.v _) (.cons (.v _) (.cons (.v _) (.cons (.v _) (.cons (.v _) (.cons (.v _) (.cons (.v _) (.cons (.v _) (.cons (.v _) (.nil _ _))))))))))))

theorem val_u8 {v : Value} {d : DataW H} {p : List MemPlace} (hv : Value.okWide Try.prog W .any base 5 v) (h : DataW.Trod enc Try.prog W 0 sp true 5 v d p) : ∃ x : Int, ValRep (Γ := Γ) (Old W) W u8 x v ∧ 0 ≤ x ∧ x ≤ 255 := by
  obtain ⟨n, rfl⟩ := okWide_int Try.underlying5 hv
  obtain ⟨fuel, hf⟩ := h
  obtain ⟨n', e, w⟩ := rep_int Try.underlying5 (show DataW.trod enc Try.prog W 0 sp true fuel 5 [.int .u8 n] = some (d, p) from hf)
  exact ⟨n, .v _, by injection e with _ e; rw [e]; exact wf_u8 w⟩

theorem val_ints {T e : TypeId} {k : IntKind} {v : Value} {d : DataW H} {p : List MemPlace} (ht : Try.prog.underlying T = some (.slice e)) (he : Try.prog.underlying e = some (.int k)) (hc : Try.prog.cellsOf e = 1) (hv : Value.okWide Try.prog W .any base T v) (h : DataW.Trod enc Try.prog W 0 sp true T v d p) :
    ∃ l : List Int, ValRep (Γ := Γ) (Old W) W (.sl (.int k)) l v ∧ ∀ n ∈ l, (Lit.int k n).wf = true := by
  obtain ⟨a, len, cap, rfl⟩ := okWide_slice ht hv
  obtain ⟨fuel, hf⟩ := h
  obtain ⟨l, hr, hw⟩ := rep_ints ht he hc (show DataW.trod enc Try.prog W 0 sp true fuel T [.slice a len cap] = some (d, p) from hf)
  exact ⟨l, hr, hw⟩

end read

/-! ### how a law ends -/

section ends
variable {H : Type} {enc : TypeId × Value → H}

theorem laid : laidOutB Try.prog = true := by kernel_rfl
theorem own : ownKnob Try.prog.godebug = none := by kernel_rfl

theorem carry {W W' : World} (hb : Below W.heap.size W W') {sp' : Nat → Bool} : ∀ {ts : List TypeId} {vs : List Value} {ds : List (DataW H)} {ps : List MemPlace}, (∀ t ∈ ts, Try.prog.readableRec t = true ∧ t < Try.prog.types.size) →
    DataW.TrodAll enc Try.prog W 0 (fun _ => true) true ts vs ds ps → (∀ x ∈ ps, x.block < W.heap.size) → (∀ x ∈ ps, sp' x.block = true) → DataW.TrodAll enc Try.prog W' 0 sp' true ts vs ds ps
  | [], vs, ds, ps, _, h, _, _ => by
    obtain ⟨rfl, rfl, rfl⟩ := trodAll_nil h
    exact trodAll_mk0
  | t :: ts, vs, ds, ps, hr, h, hl, hs => by
    obtain ⟨v, vs', d, ds', p, q, rfl, rfl, rfl, h1, h2⟩ := trodAll_cons h
    obtain ⟨r1, r2⟩ := hr t List.mem_cons_self
    exact trodAll_cons_mk (WideElems.Trod_stays laid r1 r2 h1 (fun x hx => hb.same (hl x (List.mem_append_left _ hx))) (fun x hx => hs x (List.mem_append_left _ hx)))
      (carry hb (fun u hu => hr u (List.mem_cons_of_mem _ hu)) h2 (fun x hx => hl x (List.mem_append_right _ hx)) (fun x hx => hs x (List.mem_append_right _ hx)))

/-- A law returned true, and left alone what was there. -/
theorem law_post {f : Func} {s : ChangeSpec} {W W' : World} {args : Array Value} {ds : List (DataW H)} {before : List MemPlace} (hvars : s.vars = []) (hres : f.resultTypes = #[4]) (hfn : (s.fn H ds).results = [.lit (.bool true)] ∧ (s.fn H ds).args = ds ∧ (s.fn H ds).vars = [])
    (hr : ∀ t ∈ f.params.toList, Try.prog.readableRec t = true ∧ t < Try.prog.types.size) (hW : DataW.Whole enc Try.prog f.params.toList s.vars false W args.toList ds [] before) (hb : Below W.heap.size W W') :
    s.post enc Try.prog f false true false false W args (.bool true) W' := by
  have hlt : ∀ p ∈ before, p.block < W.heap.size := fun p hp => hW.lt p hp
  have hW0 := hW
  obtain ⟨p, q, hA, hV, rfl, hz, hn⟩ := hW0
  rw [hvars] at hV
  obtain ⟨_, rfl⟩ := trodVars_none hV
  obtain ⟨f1, f2, f3⟩ := hfn
  have e : ds ++ ([] : List (DataW H)) = ds := List.append_nil _
  have hp : ∀ x ∈ p, x.block < W.heap.size := fun x hx => hlt x (List.mem_append_left _ hx)
  have hargs : ∀ sp : Nat → Bool, (∀ x ∈ p, sp x.block = true) → DataW.TrodAll enc Try.prog W' 0 sp true f.params.toList args.toList (s.fn H (ds ++ [])).args p := fun sp hsp => by
    rw [e, f2]
    exact carry hb hr hA hp hsp
  have hres' : ∀ (b : Nat) (sp : Nat → Bool) (hd : Bool), DataW.TrodAll enc Try.prog W' b sp hd f.resultTypes.toList (Value.resultList f.resultTypes.size (.bool true)) (s.fn H (ds ++ [])).results [] := fun b sp hd => by
    rw [e, f1, hres]
    exact trodAll_mk1 (shut_bool Try.underlying4 true)
  have hvars' : ∀ sp : Nat → Bool, DataW.TrodVars enc Try.prog W' sp s.vars (s.fn H (ds ++ [])).vars [] := fun sp => by
    rw [e, f3, hvars]
    exact rfl
  refine ⟨ds, [], p ++ [], [], p, [], hW, hres' _ _ _, hargs (fun b => decide (b < W.heap.size)) (fun x hx => by simpa using hp x hx), hvars' _, World.keptBut_mono (fun x hx => ⟨hx, ?_⟩) (hb.frame (· ∈ p ++ [])), fun h => by cases h⟩
  exact .inr (by simpa using hx)

theorem fr_below {F F' : Nat → Prop} {W W' : World} (h : Fr F (fun b => False) W F' W') : Below W.heap.size W W' := ⟨h.os, h.tape, h.output, h.size, fun k hk => h.block k hk (fun h => h)⟩

end ends

end Go.Vs.Ga
