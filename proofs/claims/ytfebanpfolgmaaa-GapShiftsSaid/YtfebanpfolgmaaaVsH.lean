/- The evaluator's eighth part: the operations that store, build values, make and extend slices. -/
import Derived.Test.YtfebanpfolgmaaaVsG
namespace Go.Vs
set_option linter.unusedVariables false
set_option linter.unusedSimpArgs false
open Go.RowKit

variable {Γ : Env}

section ops
variable {R : Type} (P : Program) (ti : TypeId → Option (TI Γ)) (ev : Operand → AV Γ) (s : Nat → RStat Γ) (o : Oper)

def undA : AV Γ := .v (.one .undef)

theorem run_storeAt {ti : TypeId → Option (TI Γ)} (hti : TIOk P ti) {T : TypeId} {n : Nat} (hsz : szOf ti T = n) (hsome : (ti T).isSome = true) {w : World} {g off : Nat} {E : TypeId} {cur : Array Value} (hg : w.heap[g]? = some (.cells cur E (0, 0))) {v : Value} (hn : v.cells.toList.length = n)
    (hle : off + v.cells.toList.length ≤ cur.size) (h1 : ∀ u ∈ v.cells.toList, u.oneCell' = true) :
    (Instr.storeAt T (.pointer (some ⟨g, off, none⟩)) v).run P w = .ok () (w.setRow g (cur.toList.take off ++ v.cells.toList ++ cur.toList.drop (off + v.cells.toList.length)).toArray) := by
  obtain ⟨i, hi⟩ := Option.isSome_iff_exists.1 hsome
  rw [szOf_of hi] at hsz
  have hn' : v.cells.size = i.size := by rw [hsz, ← hn]; simp
  have := run_storeCells_at P g off E v.cells.toList 0 cur w hg (by omega) h1
  simp only [Nat.add_zero] at this
  simp only [Instr.storeAt, Instr.sureAddr, storeVar, Sem.run_bind, Sem.run_pure, Result.andThen_ok, run_sizeOf P hti hi, hn', ne_eq, not_true_eq_false, if_false, this]

def storeKeys (a : AV Γ) (l : List (CV Γ)) : List Nat := subKeys a ++ l.flatMap storKeys ++ l.flatMap cvKeys

def vStore (T : TypeId) (a x : Operand) (k : K Γ R) : Option R :=
  match fixNil (tyAt ti T) (ev x) with
  | .v y =>
    if y.cvs.all (CV.stor s) = true ∧ szOf ti T = y.cvs.length ∧ (ti T).isSome = true then
      match ev a with
      | .v (.one (.ptr q off)) => match s q with
        | .live (.var E cells) =>
          if off + y.cvs.length ≤ cells.length then k undA (storeKeys (ev a) y.cvs) [(q, .live (.var E (cells.take off ++ y.cvs ++ cells.drop (off + y.cvs.length))))] else none
        | _ => none
      | .v (.one (.eaO q i off)) => match s q with
        | .live (.arr E t l) => match cvCells s y.cvs with
          | some (ds, ks) =>
            if off + ds.length ≤ t.size Γ ∧ ks.Nodup ∧ q ∉ ks then
              match mkOf t ((cellsOf t (l.getD i.toNat (t.zero Γ))).take off ++ ds ++ (cellsOf t (l.getD i.toNat (t.zero Γ))).drop (off + ds.length)) with
              | some z => k undA (storeKeys (ev a) y.cvs) (ks.map (fun k => (k, .dead)) ++ [(q, .live (.arr E t (l.set i.toNat z)))])
              | none => none
            else none
          | none => none
        | .live (.mat E E2 t l m) => match y with
          | .one (.own j) => match s j with
            | .live (.arr E3 t3 l3) => match asTy (Γ := Γ) ⟨.sl t3, l3⟩ (.sl t) with
              | some z => if j ≠ q ∧ E3 = E2 ∧ off = 0 then k undA [q, j] [(j, .dead), (q, .live (.mat E E2 t (l.set i.toNat z) (m + 1)))] else none
              | none => none
            | _ => none
          | _ => none
        | .live (.mix E E2 t l) => match y with
          | .one (.own j) => match s j with
            | .live (.arr E3 t3 l3) => match asTy (Γ := Γ) ⟨.sl t3, l3⟩ (.sl t) with
              | some z => if j ≠ q ∧ E3 = E2 ∧ off = 0 then k undA [q, j] [(j, .dead), (q, .live (.mix E E2 t (l.set i.toNat (true, z))))] else none
              | none => none
            | _ => none
          | _ => none
        | _ => none
      | .v (.one (.eaR q ver i j off)) => match s q with
        | .live (.mat E E2 t l m) => match cvCells s y.cvs with
          | some (ds, ks) =>
            if off = 0 ∧ ks.Nodup ∧ q ∉ ks ∧ m = ver then
              match mkOf t ds with
              | some z => k undA (storeKeys (ev a) y.cvs) (ks.map (fun k => (k, .dead)) ++ [(q, .live (.mat E E2 t (l.set i.toNat ((l.getD i.toNat []).set j.toNat z)) m))])
              | none => none
            else none
          | none => none
        | _ => none
      | _ => none
    else none
  | _ => none

theorem cvCells_live : ∀ {cs : List (CV Γ)} {ds : List (Cell Γ)} {ks : List Nat} {s : Nat → RStat Γ}, cvCells s cs = some (ds, ks) → ∀ k ∈ ks, ∃ r, s k = .live r
  | [], ds, ks, s, h, k, hk => by cases h; cases hk
  | c :: r, ds, ks, s, h, k, hk => by
    unfold cvCells at h
    split at h
    · rename_i d k1 ds' k2 h1 h2
      cases h
      rcases List.mem_append.1 hk with hk | hk
      · unfold cvCell at h1
        split at h1
        · cases h1; cases hk
        · cases h1; cases hk
        · split at h1
          · rename_i e; cases h1; cases List.mem_singleton.1 hk; exact ⟨_, e⟩
          · rename_i e; cases h1; cases List.mem_singleton.1 hk; exact ⟨_, e⟩
          · cases h1
        · split at h1
          · split at h1
            · rename_i e _; cases h1; cases List.mem_singleton.1 hk; exact ⟨_, e⟩
            · cases h1
          · cases h1
        · cases h1
      · exact cvCells_live h2 k hk
    · cases h

theorem cvCells_length : ∀ {cs : List (CV Γ)} {ds : List (Cell Γ)} {ks : List Nat} {s : Nat → RStat Γ}, cvCells s cs = some (ds, ks) → ds.length = cs.length
  | [], ds, ks, s, h => by cases h; rfl
  | c :: r, ds, ks, s, h => by
    unfold cvCells at h
    split at h
    · rename_i d k1 ds' k2 h1 h2
      cases h
      simp [cvCells_length h2]
    · cases h

theorem mem_storeKeys_sub {a : AV Γ} {l : List (CV Γ)} {k : Nat} (h : k ∈ subKeys a) : k ∈ storeKeys a l := List.mem_append_left _ (List.mem_append_left _ h)
theorem mem_storeKeys_stor {a : AV Γ} {l : List (CV Γ)} {k : Nat} (h : k ∈ l.flatMap storKeys) : k ∈ storeKeys a l := List.mem_append_left _ (List.mem_append_right _ h)
theorem mem_storeKeys_cv {a : AV Γ} {l : List (CV Γ)} {k : Nat} (h : k ∈ l.flatMap cvKeys) : k ∈ storeKeys a l := List.mem_append_right _ h

theorem mem_map_dead {ks : List Nat} {q : Nat} (h : q ∉ ks) : ∀ p ∈ ks.map (fun k => ((k, .dead) : Nat × RStat Γ)), p.1 ≠ q := by
  intro p hp e
  obtain ⟨k, hk, rfl⟩ := List.mem_map.1 hp
  exact h (e ▸ hk)

theorem vStore_sound (hΓ : Γ.Ok) (hti : TIOk P ti) (T : TypeId) (a x : Operand) (ho : o.op = .store T a x) : Goal P ev s o (vStore (R := R) ti ev s T a x) := by
  intro k r h
  unfold vStore at h
  split at h
  · rename_i y hy
    split at h
    · rename_i hcond
      obtain ⟨hst, hsz, hsome⟩ := hcond
      have hval : ∀ {s2 : Nat → RStat Γ} {w0 F ρ} {ac : Act} {w}, (∀ k ∈ y.cvs.flatMap storKeys, s2 k = s k) → RelR w0 F ρ s2 w → (∀ z ∈ o.op.operands, ConcA F ρ s2 w (ev z) (ac.eval z)) →
          Conc1 F ρ s2 w y (ac.eval x) ∧ ConcL F ρ s2 w y.cvs (ac.eval x).cells.toList ∧ ∀ u ∈ (ac.eval x).cells.toList, u.oneCell' = true := by
        intro s2 w0 F ρ ac w hs hR hop
        have hx := fixNil_conc (tyAt ti T) (hop x (by simp [ho, Op.operands]))
        rw [hy] at hx
        exact ⟨hx, stor_cells hR (by rw [stor_all_congr hs]; exact hst) hx⟩
      split at h
      · rename_i q off ha
        split at h
        · rename_i E cells hq
          split at h
          · rename_i hle
            refine ⟨_, _, _, h, fun s2 hs w0 F ρ ac w hR hop next Q hnext => ?_⟩
            obtain ⟨_, hcl, hone⟩ := hval (fun k hk => hs k (mem_storeKeys_stor hk)) hR hop
            have hq2 : s2 q = .live (.var E cells) := by rw [hs q (mem_storeKeys_sub (by rw [ha]; exact List.mem_singleton.2 rfl))]; exact hq
            have had := hop a (by simp [ho, Op.operands])
            rw [ha] at had
            obtain ⟨_, hv⟩ := had
            obtain ⟨arr, g1, g2, g3⟩ := hR.res q _ hq2
            obtain ⟨xx, hR'⟩ := hR.storeVar hq2 hcl hle g1
            have hasz : arr.size = cells.length := by have := g3.1; simpa using this
            have hrun := run_storeAt P hti hsz hsome g1 (v := ac.eval x) (off := off) hcl.1 (by rw [hcl.1]; omega) hone
            unfold Oper.wp
            simp only [execOp, ho, hv, Sem.run_bind, hrun, Result.andThen_ok, Sem.run_pure]
            exact hnext undef _ F _ ⟨xx, hR', trivial⟩
          · cases h
        · cases h
      · rename_i q i off ha
        split at h
        · rename_i E t l hq
          split at h
          · rename_i ds ks hds
            split at h
            · rename_i hc2
              obtain ⟨hle, hnd, hqk⟩ := hc2
              split at h
              · rename_i z hz
                refine ⟨_, _, _, h, fun s2 hs w0 F ρ ac w hR hop next Q hnext => ?_⟩
                obtain ⟨_, hcl, hone⟩ := hval (fun k hk => hs k (mem_storeKeys_stor hk)) hR hop
                have hq2 : s2 q = .live (.arr E t l) := by rw [hs q (mem_storeKeys_sub (by rw [ha]; exact List.mem_singleton.2 rfl))]; exact hq
                have hds2 : cvCells s2 y.cvs = some (ds, ks) := by rw [cvCells_congr (fun k hk => hs k (mem_storeKeys_cv hk))]; exact hds
                have had := hop a (by simp [ho, Op.operands])
                rw [ha] at had
                obtain ⟨_, hall⟩ := had
                obtain ⟨b1, b2, b, b3, hv⟩ := hall _ hq2
                have hrep := cvCells_spec hΓ hR hds2 hcl
                obtain ⟨x1, R1⟩ := hR.dropAll ks (cvCells_live hds2) hnd
                have hq3 : apply s2 (ks.map fun k => (k, .dead)) q = .live (.arr E t l) := by rw [apply_other _ _ _ (mem_map_dead hqk)]; exact hq2
                obtain ⟨cur, c1, c2, x2, R2⟩ := R1.storeArr hΓ hq3 b2 hrep hle (mkOf_cells hΓ t _ z hz) b3
                have hlen := cvCells_length hds
                have hrun := run_storeAt P hti hsz hsome c1 (v := ac.eval x) (off := i.toNat * t.size Γ + off) hcl.1 c2 hone
                have hv' : ac.eval a = .pointer (some ⟨b, i.toNat * t.size Γ + off, none⟩) := hv
                unfold Oper.wp
                simp only [execOp, ho, hv', Sem.run_bind, hrun, Result.andThen_ok, Sem.run_pure]
                refine hnext undef _ (U F ρ ks) (updI ρ q (ρ q)) ⟨?_, ?_, trivial⟩
                · rw [apply_append]; exact x1.trans x2
                · rw [apply_append]; exact R2
              · cases h
            · cases h
          · cases h
        · rename_i E E2 t l m hq
          split at h
          · rename_i j
            split at h
            · rename_i E3 t3 l3 hj
              split at h
              · rename_i z hz
                split at h
                · rename_i hc2
                  obtain ⟨hjq, rfl, rfl⟩ := hc2
                  have hz' := asTy_some hz
                  obtain rfl : t3 = t := by injection hz' with e _; injection e
                  obtain rfl : l3 = z := by injection hz'
                  refine ⟨_, _, _, h, fun s2 hs w0 F ρ ac w hR hop next Q hnext => ?_⟩
                  have hq2 : s2 q = .live (.mat E E3 t3 l m) := by rw [hs q List.mem_cons_self]; exact hq
                  have hj2 : s2 j = .live (.arr E3 t3 l3) := by rw [hs j (List.mem_cons_of_mem _ (List.mem_singleton.2 rfl))]; exact hj
                  obtain ⟨hy1, hcl, hone⟩ := hval (fun k hk => by
                    have : k = j := by simpa [V1.cvs, storKeys] using hk
                    subst this
                    exact hs k (List.mem_cons_of_mem _ (List.mem_singleton.2 rfl))) hR hop
                  have had := hop a (by simp [ho, Op.operands])
                  rw [ha] at had
                  obtain ⟨_, hall⟩ := had
                  obtain ⟨b1, b2, b, b3, hv⟩ := hall _ hq2
                  obtain ⟨cur, c1, c2, ρ', x2, R2⟩ := hR.storeMatRow hΓ hq2 b2 hj2 hjq b3
                  obtain ⟨_, hxv⟩ := hy1
                  have hcells : (ac.eval x).cells.toList = [(ρ j).val] := by
                    have h1 := hcl.1
                    rw [hxv]
                    obtain ⟨xs, q1, _⟩ := hR.res j _ hj2
                    rcases ownsRow_nilOrBlock q1 with ⟨e, _⟩ | ⟨g, cap, e, _⟩ <;> rw [e] <;> rfl
                  have hlen1 : (ac.eval x).cells.toList.length = 1 := by rw [hcells]; rfl
                  have hrun := run_storeAt P hti hsz hsome c1 (v := ac.eval x) (off := i.toNat) (by rw [hlen1]; rfl) (by rw [hlen1]; exact c2) hone
                  rw [hcells] at hrun
                  have hv' : ac.eval a = .pointer (some ⟨b, i.toNat, none⟩) := by rw [hv]; simp [Res.esz]
                  unfold Oper.wp
                  simp only [execOp, ho, hv', Sem.run_bind, hrun, Result.andThen_ok, Sem.run_pure]
                  exact hnext undef _ F ρ' ⟨x2, R2, trivial⟩
                · cases h
              · cases h
            · cases h
          · cases h
        · rename_i E E2 t l hq
          split at h
          · rename_i j
            split at h
            · rename_i E3 t3 l3 hj
              split at h
              · rename_i z hz
                split at h
                · rename_i hc2
                  obtain ⟨hjq, rfl, rfl⟩ := hc2
                  have hz' := asTy_some hz
                  obtain rfl : t3 = t := by injection hz' with e _; injection e
                  obtain rfl : l3 = z := by injection hz'
                  refine ⟨_, _, _, h, fun s2 hs w0 F ρ ac w hR hop next Q hnext => ?_⟩
                  have hq2 : s2 q = .live (.mix E E3 t3 l) := by rw [hs q List.mem_cons_self]; exact hq
                  have hj2 : s2 j = .live (.arr E3 t3 l3) := by rw [hs j (List.mem_cons_of_mem _ (List.mem_singleton.2 rfl))]; exact hj
                  obtain ⟨hy1, hcl, hone⟩ := hval (fun k hk => by
                    have : k = j := by simpa [V1.cvs, storKeys] using hk
                    subst this
                    exact hs k (List.mem_cons_of_mem _ (List.mem_singleton.2 rfl))) hR hop
                  have had := hop a (by simp [ho, Op.operands])
                  rw [ha] at had
                  obtain ⟨_, hall⟩ := had
                  obtain ⟨b1, b2, b, b3, hv⟩ := hall _ hq2
                  obtain ⟨cur, c1, c2, ρ', x2, R2⟩ := hR.storeMixRow hΓ hq2 b2 hj2 hjq b3
                  obtain ⟨_, hxv⟩ := hy1
                  have hcells : (ac.eval x).cells.toList = [(ρ j).val] := by
                    have h1 := hcl.1
                    rw [hxv]
                    obtain ⟨xs, q1, _⟩ := hR.res j _ hj2
                    rcases ownsRow_nilOrBlock q1 with ⟨e, _⟩ | ⟨g, cap, e, _⟩ <;> rw [e] <;> rfl
                  have hlen1 : (ac.eval x).cells.toList.length = 1 := by rw [hcells]; rfl
                  have hrun := run_storeAt P hti hsz hsome c1 (v := ac.eval x) (off := i.toNat) (by rw [hlen1]; rfl) (by rw [hlen1]; exact c2) hone
                  rw [hcells] at hrun
                  have hv' : ac.eval a = .pointer (some ⟨b, i.toNat, none⟩) := by rw [hv]; simp [Res.esz]
                  unfold Oper.wp
                  simp only [execOp, ho, hv', Sem.run_bind, hrun, Result.andThen_ok, Sem.run_pure]
                  exact hnext undef _ F ρ' ⟨x2, R2, trivial⟩
                · cases h
              · cases h
            · cases h
          · cases h
        · cases h
      · rename_i q ver i j off ha
        split at h
        · rename_i E E2 t l m hq
          split at h
          · rename_i ds ks hds
            split at h
            · rename_i hc2
              obtain ⟨rfl, hnd, hqk, rfl⟩ := hc2
              split at h
              · rename_i z hz
                refine ⟨_, _, _, h, fun s2 hs w0 F ρ ac w hR hop next Q hnext => ?_⟩
                obtain ⟨_, hcl, hone⟩ := hval (fun k hk => hs k (mem_storeKeys_stor hk)) hR hop
                have hq2 : s2 q = .live (.mat E E2 t l m) := by rw [hs q (mem_storeKeys_sub (by rw [ha]; exact List.mem_singleton.2 rfl))]; exact hq
                have hds2 : cvCells s2 y.cvs = some (ds, ks) := by rw [cvCells_congr (fun k hk => hs k (mem_storeKeys_cv hk))]; exact hds
                have had := hop a (by simp [ho, Op.operands])
                rw [ha] at had
                obtain ⟨_, hall⟩ := had
                obtain ⟨_, h2⟩ := hall E E2 t l m hq2
                obtain ⟨d1, d2, d3, d4, b, d5, hv⟩ := h2 rfl
                have hrep := cvCells_spec hΓ hR hds2 hcl
                obtain ⟨x1, R1⟩ := hR.dropAll ks (cvCells_live hds2) hnd
                have hq3 : apply s2 (ks.map fun k => (k, .dead)) q = .live (.mat E E2 t l m) := by rw [apply_other _ _ _ (mem_map_dead hqk)]; exact hq2
                obtain ⟨cur, c1, c2, x2, R2⟩ := R1.storeMatElem hΓ hq3 d2 d4 (z := z) (vs := (ac.eval x).cells.toList) (by rw [encL_cells hΓ, mkOf_cells hΓ t _ z hz]; exact hrep) d5
                have hrun := run_storeAt P hti hsz hsome c1 (v := ac.eval x) (off := j.toNat * t.size Γ) hcl.1 c2 hone
                unfold Oper.wp
                simp only [execOp, ho, hv, Nat.add_zero, Sem.run_bind, hrun, Result.andThen_ok, Sem.run_pure]
                refine hnext undef _ (U F ρ ks) (updI ρ q (ρ q)) ⟨?_, ?_, trivial⟩
                · rw [apply_append]; exact x1.trans x2
                · rw [apply_append]; exact R2
              · cases h
            · cases h
          · cases h
        · cases h
      · cases h
    · cases h
  · cases h

end ops
end Go.Vs
