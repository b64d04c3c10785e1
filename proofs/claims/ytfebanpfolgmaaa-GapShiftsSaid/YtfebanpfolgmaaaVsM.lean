/- The evaluator's thirteenth part: append. -/
import Derived.Test.YtfebanpfolgmaaaVsL
namespace Go.Vs
set_option linter.unusedVariables false
set_option linter.unusedSimpArgs false
open Go.RowKit

variable {Γ : Env}

section ops
variable {R : Type} (P : Program) (ti : TypeId → Option (TI Γ)) (ev : Operand → AV Γ) (s : Nat → RStat Γ) (o : Oper)

theorem dstOf_congr {s2 : Nat → RStat Γ} {E : TypeId} {c : CV Γ} (h : ∀ k ∈ cvKeys c, s2 k = s k) : dstOf s2 E c = dstOf s E c := by
  unfold dstOf
  split <;> first | rfl | rw [h _ (List.mem_singleton.2 rfl)]

theorem elemOk_spec {ti : TypeId → Option (TI Γ)} (hti : TIOk P ti) {E : TypeId} {inf : TI Γ} (hE : ti E = some inf) {t : Ty} (h : elemOk inf t = true) :
    ∃ f z, P.info? E = some f ∧ f.zero = some z ∧ f.size = t.size Γ ∧ f.bytes = inf.bytes ∧ z.cells.size = t.size Γ ∧ 0 < t.size Γ := by
  unfold elemOk at h
  split at h
  · rename_i zs hzs
    simp only [Bool.and_eq_true, decide_eq_true_eq] at h
    obtain ⟨⟨h1, h2⟩, h3⟩ := h
    obtain ⟨f, z, hf, hz, hfs, hfb, hzsz, _, _⟩ := run_zeros P hti hE hzs h1
    exact ⟨f, z, hf, hz, by omega, hfb, by omega, by omega⟩
  · cases h

/-- Where the appended slice is given up: its block is free. -/
theorem dst_drop {w0 : Base} {w : World} {F : Nat → Prop} {ρ : Nat → RI} {s : Nat → RStat Γ} (hR : RelR w0 F ρ s w) {E : TypeId} {cx : CV Γ} {q : Option Nat} {t : Ty} {l : List (Den Γ t)} {v : Value} (h : dstOf s E cx = some (q, ⟨t, l⟩)) (hc : ConcC F ρ s w cx v) {key : Nat} (hk : s key = .never) (hq : q ≠ some key) :
    ∃ xs, w.ownsRow 0 E (t.size Γ) v l.length xs ∧ RepL F w (l.flatMap (encL t)) xs ∧ Ext F ρ s w F ρ (apply s (killOf q)) w ∧ RelR w0 F ρ (apply s (killOf q)) w ∧ apply s (killOf q) key = .never ∧ ∀ b, v.ownBlock = some b → Free w0 F ρ (apply s (killOf q)) key w b := by
  unfold dstOf at h
  split at h
  · injection h with h
    injection h with h1 h2
    subst h1
    injection h2 with h2 h3
    subst h2
    have h3' := eq_of_heq h3
    subst h3'
    have hv : v = .slice none 0 0 := hc
    subst hv
    exact ⟨[], World.ownsRow_nil _ _ _ _, RepL.nil _ _, Ext.refl _ _ _ _, hR, hk, fun b hb => by cases hb⟩
  · rename_i k
    split at h
    · rename_i E' t' l' e
      split at h
      · rename_i eE
        subst eE
        injection h with h
        injection h with h1 h2
        subst h1
        injection h2 with h2 h3
        subst h2
        have h3' := eq_of_heq h3
        subst h3'
        obtain ⟨xs, g1, g2, g3⟩ := hR.res k _ e
        obtain ⟨x1, R1⟩ := hR.drop e false
        rw [or_false_and] at x1 R1
        have hne : key ≠ k := fun e' => hq (by rw [e'])
        refine ⟨xs, by rw [hc.2]; exact g1, g2, x1, R1, by show updR s k .dead key = .never; rw [updR_other hne]; exact hk, fun b hb => ?_⟩
        rw [hc.2] at hb
        obtain ⟨a1, a2, a3⟩ := hR.own k _ b e (g3 b hb)
        refine ⟨a1, a2, a3, fun k' r' _ hl hb' => ?_⟩
        have hl' : updR s k .dead k' = .live r' := hl
        by_cases e2 : k' = k
        · subst e2; rw [updR_same] at hl'; cases hl'
        · rw [updR_other e2] at hl'
          exact hR.disj k k' _ r' b (Ne.symm e2) e hl' (g3 b hb) hb'
      · cases h
    · rename_i E' E2' t' m e
      split at h
      · rename_i eE
        subst eE
        injection h with h
        injection h with h1 h2
        subst h1
        injection h2 with h2 h3
        subst h2
        have h3' := eq_of_heq h3
        subst h3'
        obtain ⟨g1, _, g3, _⟩ := hR.res k _ e
        obtain ⟨x1, R1⟩ := hR.drop e false
        rw [or_false_and] at x1 R1
        have hne : key ≠ k := fun e' => hq (by rw [e'])
        refine ⟨[], by
          have hr : (ρ k).rows = [] := List.eq_nil_of_length_eq_zero (by rw [g1.1]; simp)
          rw [hr] at g1
          rw [hc.2]; exact g1, RepL.nil _ _, x1, R1, by show updR s k .dead key = .never; rw [updR_other hne]; exact hk, fun b hb => ?_⟩
        rw [hc.2] at hb
        obtain ⟨a1, a2, a3⟩ := hR.own k _ b e (g3 b hb)
        refine ⟨a1, a2, a3, fun k' r' _ hl hb' => ?_⟩
        have hl' : updR s k .dead k' = .live r' := hl
        by_cases e2 : k' = k
        · subst e2; rw [updR_same] at hl'; cases hl'
        · rw [updR_other e2] at hl'
          exact hR.disj k k' _ r' b (Ne.symm e2) e hl' (g3 b hb) hb'
      · cases h
    · cases h
  · cases h

theorem vAppend_sound (hΓ : Γ.Ok) (hti : TIOk P ti) (args : Array Operand) (tys : Array TypeId) (key : Nat) (ho : o.op = .call { callee := .builtin .append, args := args, argTypes := tys }) : Goal P ev s o (vAppend (R := R) ti ev s args tys key) := by
  intro k r h
  unfold vAppend at h
  split at h
  · rename_i x y T T2 hargs htys
    have hargs' : args = #[x, y] := by rw [← hargs]
    have htys' : tys = #[T, T2] := by rw [← htys]
    split at h
    · rename_i E cx cy hT hx hy
      split at h
      · rename_i inf hE
        split at h
        · rename_i q t l t2 l2 hdst hsrc
          split at h
          · rename_i l2' hl2
            split at h
            · rename_i hcond
              obtain ⟨rfl, hnever, helem, hqk⟩ := hcond
              obtain ⟨hb, h⟩ := chk_some h
              simp only [Bool.and_eq_true, decide_eq_true_eq, room] at hb
              obtain ⟨h63, hroom⟩ := hb
              have hl2s := asTy_some hl2
              obtain rfl : t2 = t := by injection hl2s with e _; injection e
              obtain rfl : l2 = l2' := by injection hl2s
              obtain ⟨f, z, hf, hz, hfs, hfb, hzsz, hpos⟩ := elemOk_spec P hti hE helem
              refine ⟨_, _, _, h, fun s2 hs w0 F ρ ac w hR hop next Q hnext => ?_⟩
              have hk : s2 key = .never := by rw [hs key List.mem_cons_self]; exact isNever_spec hnever
              have h1 := hop x (by simp [ho, Op.operands, Call.operands, hargs'])
              have h2 := hop y (by simp [ho, Op.operands, Call.operands, hargs'])
              rw [hx] at h1
              rw [hy] at h2
              have hdst2 : dstOf s2 E cx = some (q, ⟨t2, l⟩) := by rw [dstOf_congr s (fun k hk => hs k (List.mem_cons_of_mem _ (List.mem_append_left _ hk)))]; exact hdst
              have hsrc2 : srcOf s2 cy = some ⟨t2, l2⟩ := by rw [srcOf_congr s (fun k hk => hs k (List.mem_cons_of_mem _ (List.mem_append_right _ hk)))]; exact hsrc
              obtain ⟨xs, g1, g2, x1, R1, hk1, hfree⟩ := dst_drop hR hdst2 h1 hk hqk
              obtain ⟨cs, hcs⟩ := call_builtin P o ac _ args tys ho
              have hfin : ∀ v' w', (execOp ac.eval o).run P w = .ok (.value v') w' → w'.ownsRow 0 E (t2.size Γ) v' (List.append l l2).length (xs ++ (if l2 = [] then [] else [])) → True := fun _ _ _ _ => trivial
              rcases srcOf_spec s2 hΓ hR hsrc2 h2 with ⟨hv, hl0⟩ | ⟨ad, cap, news, hv, hnl, hncell, hnrep, hnone⟩
              · have hrun : (execOp ac.eval o).run P w = .ok (.value (ac.eval x)) w := by
                  rw [hcs]
                  have := run_append_owned_none (P := P) (w := w) 0 T2 o.type E f (t2.size Γ) (sliceAt?_spec P hti hT) hf (ac.eval x) l.length xs g1
                  simp [hargs', htys', hv, builtin, this]
                obtain ⟨x2, R2⟩ := R1.appArr hk1 (l := List.append l l2) (v := ac.eval x) (v' := ac.eval x) (xs := xs) hfree (by rw [hl0]; simpa using g1) ⟨rfl, rfl, rfl, Nat.le_refl _, fun _ _ _ => rfl⟩ (.inl rfl) (by rw [hl0]; simpa using g2)
                unfold Oper.wp
                rw [hrun]
                refine hnext _ _ F _ ⟨by rw [apply_append]; exact x1.trans x2, by rw [apply_append]; exact R2, ?_, ?_⟩
                · rw [apply_append]; simp [apply, updR_same]
                · rw [updI_same]; rfl
              · have hlen : (List.append l l2).length = l.length + l2.length := List.length_append
                have hby : (l.length + l2.length) * inf.bytes ≤ 140737488355328 := by
                  have : ((inf.bytes * (l.length + l2.length) : Nat) : Int) ≤ 140737488355328 := by rw [Int.natCast_mul]; exact hroom
                  rw [Nat.mul_comm]; omega
                obtain ⟨v', w', hr, q1, q2, q3, q4⟩ := run_append_own_at (P := P) w 0 T2 o.type E f z (t2.size Γ) inf.bytes (sliceAt?_spec P hti hT) hf hz hfs hfb hzsz hpos (ac.eval x) l.length xs g1 ad l2.length cap news hnl hncell hnone (by simp only [maxLen]; omega) hby (Nat.zero_le _)
                have hrun : (execOp ac.eval o).run P w = .ok (.value v') w' := by
                  rw [hcs]
                  simp [hargs', htys', hv, builtin, hr]
                obtain ⟨x2, R2⟩ := R1.appArr hk1 (l := List.append l l2) (v := ac.eval x) (v' := v') (xs := xs ++ news) hfree (by rw [hlen]; exact q1) q2 q4 (by
                  have e : (List.append l l2).flatMap (encL t2) = l.flatMap (encL t2) ++ l2.flatMap (encL t2) := List.flatMap_append
                  rw [e]
                  exact g2.append hnrep)
                unfold Oper.wp
                rw [hrun]
                refine hnext _ _ F _ ⟨by rw [apply_append]; exact x1.trans x2, by rw [apply_append]; exact R2, ?_, ?_⟩
                · rw [apply_append]; simp [apply, updR_same]
                · rw [updI_same]; rfl
            · cases h
          · cases h
        · cases h
      · cases h
    · cases h
  · cases h

/-! ### append on slices whose arrays are owned with them -/

def dstMat (s : Nat → RStat Γ) (E : TypeId) : CV Γ → Option (Option Nat × Sigma fun t : Ty => List (List (Den Γ t)))
  | .nilT (.sl t) => some (none, ⟨t, []⟩)
  | .own k => match s k with
    | .live (.mat E' _ t l _) => if E' = E then some (some k, ⟨t, l⟩) else none
    | _ => none
  | _ => none

def vAppendMat (args : Array Operand) (tys : Array TypeId) (key : Nat) (k : K Γ R) : Option R :=
  match args.toList, tys.toList with
  | [x, y], [T, T2] => match sliceAt? ti T, ev x, ev y with
    | some E, .v (.one cx), .v (.one (.own j)) => match ti E, sliceAt? ti E with
      | some inf, some E2 => match s j with
        | .live (.mat E' E2' t2 l2 _) => match cx with
          | .own q => match s q with
            | .live (.mat E'' E2'' t l _) => match asTy (Γ := Γ) ⟨.sl (.sl t2), l2⟩ (.sl (.sl t)) with
              | some l2 => if T2 = T ∧ E' = E ∧ E'' = E ∧ E2' = E2 ∧ E2'' = E2 ∧ isNever (s key) = true ∧ elemOk inf (.sl t) = true ∧ q ≠ j ∧ q ≠ key ∧ j ≠ key then
                  chk (decide (((List.length (α := List (Den Γ t)) l + List.length (α := List (Den Γ t)) l2 : Nat) : Int) ≤ 9223372036854775807) && room inf.bytes ((List.length (α := List (Den Γ t)) l + List.length (α := List (Den Γ t)) l2 : Nat) : Int))
                    (k (AV.one (.own key)) [key, q, j] [(q, .dead), (j, .dead), (key, .live (.mat E E2 t (List.append (α := List (Den Γ t)) l l2) 0))])
                else none
              | none => none
            | _ => none
          | .nilT _ => if T2 = T ∧ E' = E ∧ E2' = E2 ∧ isNever (s key) = true ∧ elemOk inf (.sl t2) = true ∧ j ≠ key then
              chk (decide (((List.length (α := List (Den Γ t2)) l2 : Nat) : Int) ≤ 9223372036854775807) && room inf.bytes ((List.length (α := List (Den Γ t2)) l2 : Nat) : Int))
                (k (AV.one (.own key)) [key, j] [(j, .dead), (key, .live (.mat E E2 t2 l2 0))])
            else none
          | _ => none
        | _ => none
      | _, _ => none
    | _, _, _ => none
  | _, _ => none

end ops
end Go.Vs
