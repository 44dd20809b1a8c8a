import Derived.Test.YthgocpanlbmalaaGreatBmA
import Derived.Laws.Cover2
import Derived.Laws.Tables
set_option linter.unusedVariables false
set_option linter.unusedSimpArgs false
/- Operations that touch nothing. -/
namespace Go.Bm
open Go.RowKit (Below)
theorem addr_add (b off j : Nat) : (⟨b, off, none⟩ : Addr).add j = ⟨b, off + j, none⟩ := by
 unfold Addr.add; split <;> simp_all
section
variable {P : Program}
theorem ofConst_rep (g : Gh) {v : Value} {m : M} (h : ofConst v = some m) : RepM g v m := by
 cases v with
 | agg => simp [ofConst] at h
 | tuple => simp [ofConst] at h
 | slice a n c =>
  cases a with
  | some a => simp [ofConst] at h
  | none =>
   cases n <;> cases c <;> simp [ofConst] at h
   subst h
   exact .tight none 0 [] .nil (fun _ h => by cases h)
 | float k b =>
  cases k <;> simp [ofConst] at h
  subst h
  exact .t _ _ (.f b)
 | bool => simp [ofConst] at h; subst h; exact .t _ _ (.s _ rfl)
 | int => simp [ofConst] at h; subst h; exact .t _ _ (.s _ rfl)
 | complex => simp [ofConst] at h; subst h; exact .t _ _ (.s _ rfl)
 | string => simp [ofConst] at h; subst h; exact .t _ _ (.s _ rfl)
 | pointer => simp [ofConst] at h; subst h; exact .t _ _ (.s _ rfl)
 | map => simp [ofConst] at h; subst h; exact .t _ _ (.s _ rfl)
 | chan => simp [ofConst] at h; subst h; exact .t _ _ (.s _ rfl)
 | func => simp [ofConst] at h; subst h; exact .t _ _ (.s _ rfl)
 | nilFunc => simp [ofConst] at h; subst h; exact .t _ _ (.s _ rfl)
 | iface => simp [ofConst] at h; subst h; exact .t _ _ (.s _ rfl)
 | nilIface => simp [ofConst] at h; subst h; exact .t _ _ (.s _ rfl)
theorem ofConsts_rep (g : Gh) : ∀ {vs : List Value} {ms : List M}, ofConsts vs = some ms → RepL g vs ms
 | [], ms, h => by simp [ofConsts] at h; subst h; exact .nil g
 | v :: r, ms, h => by
  simp only [ofConsts] at h
  split at h
  ·rename_i m ns hm hns
   cases h
   exact .cons (ofConst_rep g hm) (ofConsts_rep g hns)
  ·cases h
variable {D0 : Dm} {w0 : World} {X : Foot} {DF : Env} {B : List (Nat × M)} {g : Gh} {st : St} {a : Act} {w : World}
theorem ev_rep (h : FInv DF D0 w0 X g st a w) {x : Operand} {m : M} (he : ev st.sg x = some m) : RepM g (a.eval x) m := by
 cases x with
 | tmp t => simp [ev] at he; subst he; exact h.sg t
 | const v => exact ofConst_rep g he
 | func f => simp [ev] at he; subst he; exact .clo f [] [] rfl (fun j v c hv => by simp at hv)
 | global => simp [ev] at he
theorem evs_rep (h : FInv DF D0 w0 X g st a w) : ∀ {xs : List Operand} {ms : List M}, evs st.sg xs = some ms → RepL g (xs.map a.eval) ms
 | [], ms, he => by simp [evs] at he; subst he; exact .nil g
 | x :: r, ms, he => by
  simp only [evs] at he
  split at he
  ·rename_i m ns hm hns
   cases he
   exact .cons (ev_rep h hm) (evs_rep h hns)
  ·cases he
theorem slOf_rep {v : Value} {m : M} {xs : List (List T)} (h : RepM g v m) (hs : slOf m = some xs) : RepT g.D v (.sl xs) := by
 cases m with
 | t x =>
  cases x with
  | sl ys => simp [slOf] at hs; subst hs; exact h.t_inv
  | s => simp [slOf] at hs
  | f => simp [slOf] at hs
 | tight ys => simp [slOf] at hs; subst hs; exact (h.tight_inv).choose_spec.choose_spec.2
 | own id z ys => simp [slOf] at hs; subst hs; exact h.own_inv.1
 | _ => simp [slOf] at hs
theorem sl_form {D : Dm} {v : Value} {xs : List (List T)} (h : RepT D v (.sl xs)) : ∃ ad c, v = .slice ad xs.length c ∧ xs.length ≤ c ∧ (ad = none → c = 0) := by
 cases h with
 | nil => exact ⟨none, 0, rfl, Nat.le_refl _, fun _ => rfl⟩
 | spot a => exact ⟨some a, 0, rfl, Nat.le_refl _, fun h => by cases h⟩
 | sl b off n cap z _ cell hn hc _ _ _ => subst hn; exact ⟨_, _, rfl, hc.1, fun h => by cases h⟩
theorem szOf_info {t : TypeId} {n : Nat} (h : szOf P t = some n) : ∃ i, P.info? t = some i ∧ i.size = n := by
 unfold szOf at h
 split at h
 ·rename_i i hi; cases h; exact ⟨i, hi, rfl⟩
 ·cases h
theorem run_sizeOf {t : TypeId} {n : Nat} (h : szOf P t = some n) (w : World) : (sizeOf t).run P w = .ok n w := by
 obtain ⟨i, hi, rfl⟩ := szOf_info h
 simp [sizeOf, typeInfo, hi]
theorem run_isAgg {t : TypeId} {b : Bool} (h : isAggB P t = some b) (w : World) : (isAgg t).run P w = .ok b w := by
 unfold isAggB at h
 cases hu : P.underlying t with
 | none => simp [hu] at h
 | some d => cases d <;> simp [hu] at h <;> subst h <;> simp [isAgg, run_underlying hu]
theorem cut_spec {α : List M} {off n : Nat} {ds : List M} (h : cut α off n = some ds) : ds = (α.drop off).take n ∧ ds.length = n := by
 unfold cut at h
 dsimp only at h
 cases e : Nat.beq ((α.drop off).take n).length n with
 | false => rw [e] at h; cases h
 | true => rw [e] at h; cases h; exact ⟨rfl, nbeq_t e⟩
theorem run_loadVar {t : TypeId} {n : Nat} (hn : szOf P t = some n) (b off : Nat) {us : List Value} {ds : List M} (hr : RepL g us ds) (hl : ds.length = n)
  (hc : ∀ (j : Nat) (u : Value), us[j]? = some u → w.cell? ⟨b, off + j, none⟩ = some u) {m : M} (hm : mk P t ds = some m) :
  ∃ v, (loadVar t ⟨b, off, none⟩).run P w = .ok v w ∧ RepM g v m := by
 unfold mk at hm
 have hus : us.length = n := by rw [hr.1, hl]
 cases hb : isAggB P t with
 | none => simp [hb] at hm
 | some q =>
  cases q with
  | true =>
   simp [hb] at hm
   subst hm
   have hload := run_loadCells_list (P := P) w ⟨b, off, none⟩ us (fun j u hu => by rw [addr_add]; exact hc j u hu)
   rw [hus] at hload
   refine ⟨.agg us.toArray, ?_, .agg us ds hr.1 hr.2⟩
   simp [loadVar, run_isAgg hb, run_sizeOf hn, hload]
  | false =>
   cases ds with
   | nil => simp [hb] at hm
   | cons c r =>
    cases r with
    | cons _ _ => simp [hb] at hm
    | nil =>
     simp [hb] at hm
     subst hm
     obtain ⟨u, r, rfl, hu, hr'⟩ := hr.cons_inv
     have h0 := hc 0 u rfl
     rw [Nat.add_zero] at h0
     exact ⟨u, by simp [loadVar, run_isAgg hb, h0], hu⟩
theorem cell_of_heap {w : World} {b : Nat} {vs : Array Value} {ty : TypeId} {fr : Nat × Nat} (h : w.heap[b]? = some (.cells vs ty fr)) (j : Nat) : w.cell? ⟨b, j, none⟩ = vs[j]? := by
 simp [World.cell?, h]
theorem loadC_run (dw : g.D.inW w) {t : TypeId} {n : Nat} (hn : szOf P t = some n) {v : Value} {cs : List T} {ds : List M} {m : M} (hp : RepM g v (.cp cs)) (hc : cut (cs.map .t) 0 n = some ds) (hm : mk P t ds = some m) :
  ∃ u, (Instr.loadAt t v).run P w = .ok u w ∧ RepM g u m := by
 obtain ⟨b, off, cell, rfl, hD, hr⟩ := hp.cp_inv
 obtain ⟨rfl, hl⟩ := cut_spec hc
 rw [List.drop_zero] at hm hl
 have hnl : n ≤ cs.length := by rw [List.length_take, List.length_map] at hl; omega
 have hrl : RepL g ((List.range n).map cell) ((cs.map M.t).take n) := by
  refine ⟨by rw [hl]; simp, fun j v c hv hc => ?_⟩
  have hj : j < n := by have := (List.getElem?_eq_some_iff.1 hv).1; simpa using this
  rw [List.getElem?_map, List.getElem?_range hj] at hv
  simp at hv; subst hv
  rw [List.getElem?_take, if_pos hj, List.getElem?_map] at hc
  obtain ⟨x, hx, rfl⟩ := Option.map_eq_some_iff.1 hc
  exact .t _ x (hr j x hx)
 obtain ⟨u, hu, hru⟩ := run_loadVar (w := w) hn b off hrl hl (fun j u hu => by
   have hj : j < n := by have := (List.getElem?_eq_some_iff.1 hu).1; simpa using this
   rw [List.getElem?_map, List.getElem?_range hj] at hu
   simp at hu; subst hu
   exact dw _ _ _ (hD j (by omega))) hm
 exact ⟨u, by simp [Instr.loadAt, Instr.sureAddr, hu], hru⟩
theorem OwN.cell {D : Dm} {w : World} {m : M} {v : Value} {F : Foot} (h : OwN D w m v F) (hm : isOwned m = false) : RepM (Gh.of D) v m ∧ ∀ x, ¬ F x := by
 cases h with
 | leaf m v F h hF => exact ⟨h, hF⟩
 | _ => simp [isOwned] at hm
theorem isCell_owned {m : M} (h : isCell m = true) : isOwned m = false := by cases m <;> first | rfl | (simp [isCell] at h)
theorem OwC.cell {g : Gh} {w : World} {m : M} {v : Value} {F : Foot} (h : OwC g w m v F) (hm : isOwned m = false) : RepM g v m ∧ ∀ x, ¬ F x := by
 rcases h with h | h
 ·exact ⟨(h.cell hm).1.of_le (Dm.le_refl _), (h.cell hm).2⟩
 ·exact h
theorem only_le (g : Gh) (hs : List Nat) : (g.only hs).le g := ⟨Dm.le_refl _, fun k b h => by
 unfold Gh.only at h
 simp only at h
 split at h
 ·exact h
 ·cases h⟩
theorem allCell_get {cs : List M} (h : allCell cs = true) {j : Nat} {c : M} (hc : cs[j]? = some c) : isCell c = true := by
 induction cs generalizing j with
 | nil => simp at hc
 | cons x r ih =>
  simp only [allCell, Bool.and_eq_true] at h
  cases j with
  | zero => simp at hc; subst hc; exact h.1
  | succ j => exact ih h.2 (by simpa using hc)
theorem loadB_run (h : LInv g B w) {t : TypeId} {v : Value} {p : M} {os : List O} {r : Res} (hp : RepM g v p) (hm : loadB P (lookB B) t p os = some r) (hps : ∀ p ∈ r.ps, p) :
  ∃ u, (Instr.loadAt t v).run P w = .ok u w ∧ RepM g u r.eff.val ∧ r.eff.new = [] ∧ r.eff.put = [] ∧ r.eff.del = [] ∧ r.eff.stop = none ∧ r.cs = [] := by
 unfold loadB at hm
 cases hn : szOf P t with
 | none => cases p <;> simp [hn] at hm
 | some n =>
  cases p with
  | ptr k off =>
   simp only [hn] at hm
   obtain ⟨b, rfl, hb⟩ := hp.ptr_inv
   cases hk : lookB B k with
   | none => simp [hk] at hm
   | some o =>
    cases o <;> simp only [hk] at hm <;> try (cases hm; done)
    rename_i cs
    cases hc : cut cs off n with
    | none => simp [hc] at hm
    | some ds =>
     simp only [hc] at hm
     cases ha : allCell ds with
     | false => simp [ha] at hm
     | true =>
      simp only [ha, cond_true] at hm
      cases hmk : mk P t ds with
      | none => simp [hmk] at hm
      | some m =>
       simp only [hmk, Option.some.injEq] at hm
       subst hm
       obtain ⟨rfl, hl⟩ := cut_spec hc
       obtain ⟨hd, hb', hok⟩ := h.bx k _ hk
       rw [hb] at hb'; cases hb'
       cases hok with
       | os b ty vs cs A F hlv hh hd hA hdis hF hr =>
        have hr2 : RepL g ((vs.drop off).take n) ((cs.drop off).take n) := by
         refine ⟨by simp [hlv], fun j v c hv hc => ?_⟩
         have hcell := allCell_get ha hc
         rw [List.getElem?_take] at hv hc
         split at hv
         ·rename_i hj
          simp only [hj, if_true] at hc
          rw [List.getElem?_drop] at hv hc
          exact ((hr _ v c hv hc).cell (isCell_owned hcell)).1
         ·cases hv
        obtain ⟨u, hu, hru⟩ := run_loadVar (w := w) hn b off hr2 hl (fun j u hu => by
         rw [cell_of_heap hh, List.getElem?_toArray]
         rw [List.getElem?_take] at hu
         split at hu
         ·rwa [List.getElem?_drop] at hu
         ·cases hu) hmk
        exact ⟨u, by simp [Instr.loadAt, Instr.sureAddr, hu], hru, rfl, rfl, rfl, rfl, rfl⟩
  | pe k i off =>
   simp only [hn] at hm
   obtain ⟨b, o, z, c, rfl, hb⟩ := hp.pe_inv
   cases hk : lookB B k with
   | none => simp [hk] at hm
   | some ob =>
    cases ob <;> simp only [hk] at hm <;> try (cases hm; done)
    rename_i hs z' xs
    cases os with
    | nil => cases hm
    | cons q os =>
     cases q <;> simp only at hm <;> try (cases hm; done)
     rename_i cs
     cases hc : cut cs off n with
     | none => simp [hc] at hm
     | some ds =>
      simp only [hc] at hm
      cases ha : allCell ds with
      | false => simp [ha] at hm
      | true =>
       simp only [ha, cond_true] at hm
       cases hmk : mk P t ds with
       | none => simp [hmk] at hm
       | some m =>
        simp only [hmk, Option.some.injEq] at hm
        subst hm
        have hcs : xs[i]? = some cs := hps _ (by simp)
        obtain ⟨rfl, hl⟩ := cut_spec hc
        obtain ⟨hd, hb', hok⟩ := h.bx k _ hk
        rw [hb] at hb'; cases hb'
        cases hok with
        | oae a q z hs F hF => simp at hcs
        | oa b o c z hs' cur ty xs A F hh hd hs h1c h0 hc hz hA hdis hF hr =>
         have hil : i < xs.length := (List.getElem?_eq_some_iff.1 hcs).1
         have hzl := hz i cs hcs
         have hin : ∀ j, j < z → o + (i * z + j) < cur.size := fun j hj => by
          have : (i + 1) * z ≤ c * z := Nat.mul_le_mul_right z (by omega)
          rw [Nat.add_mul] at this; omega
         have hlen : off + n ≤ z ∨ n = 0 := by
          have hl' := hl
          rw [List.length_take, List.length_drop] at hl'
          omega
         have hcur : ∀ j, j < n → ∃ u, cur[o + (i * z + (off + j))]? = some u := fun j hj => ⟨_, Array.getElem?_eq_getElem (hin (off + j) (by omega))⟩
         have hr2 : RepL g ((List.range n).map fun j => cur.getD (o + (i * z + (off + j))) undef) ((cs.drop off).take n) := by
          refine ⟨by rw [hl]; simp, fun j v c hv hc => ?_⟩
          have hj : j < n := by have := (List.getElem?_eq_some_iff.1 hv).1; simpa using this
          have hcell := allCell_get ha hc
          rw [List.getElem?_map, List.getElem?_range hj] at hv
          simp at hv
          rw [List.getElem?_take, if_pos hj, List.getElem?_drop] at hc
          obtain ⟨u, hu⟩ := hcur j hj
          have : v = u := by rw [← hv, hu]; rfl
          subst this
          exact ((hr i _ cs c v hcs hc hu).cell (isCell_owned hcell)).1.mono (only_le g _)
         obtain ⟨u, hu, hru⟩ := run_loadVar (w := w) hn b (o + (i * z + off)) hr2 hl (fun j u hu => by
          have hj : j < n := by have := (List.getElem?_eq_some_iff.1 hu).1; simpa using this
          rw [List.getElem?_map, List.getElem?_range hj] at hu
          simp at hu
          rw [cell_of_heap hh]
          obtain ⟨u', hu'⟩ := hcur j hj
          rw [show o + (i * z + off) + j = o + (i * z + (off + j)) by omega, hu']
          rw [hu'] at hu
          simpa using hu) hmk
         exact ⟨u, by simp [Instr.loadAt, Instr.sureAddr, hu], hru, rfl, rfl, rfl, rfl, rfl⟩
  | _ => simp at hm
theorem fieldAt_spec {t : TypeId} {i off n : Nat} {ft : TypeId} (h : fieldAt P t i = some (off, n, ft)) :
  ∃ fs f, P.underlying t = some (.struct fs) ∧ fs[i]? = some f ∧ f.offset = off ∧ f.type = ft ∧ szOf P ft = some n := by
 unfold fieldAt fieldsOf at h
 cases hu : P.underlying t with
 | none => simp [hu] at h
 | some d =>
  cases d <;> simp [hu] at h
  rename_i fs
  cases hf : fs[i]? with
  | none => simp [hf] at h
  | some f =>
   simp only [hf] at h
   cases hn : szOf P f.type with
   | none => simp [hn] at h
   | some n' =>
    simp [hn] at h
    obtain ⟨rfl, rfl, rfl⟩ := h
    exact ⟨fs, f, rfl, hf, rfl, rfl, hn⟩
theorem run_fieldAt {t : TypeId} {i off n : Nat} {ft : TypeId} (h : fieldAt P t i = some (off, n, ft)) (hn : n ≠ 0) (b o : Nat) (w : World) :
  (Instr.fieldAt t (.pointer (some ⟨b, o, none⟩)) i).run P w = .ok (.pointer (some ⟨b, o + off, none⟩)) w := by
 obtain ⟨fs, f, hu, hf, rfl, rfl, hs⟩ := fieldAt_spec h
 simp [Instr.fieldAt, run_underlying hu, hf, Instr.sureAddr, fieldPlace, run_sizeOf hs, hn, addr_add]
theorem run_field {t : TypeId} {i off n : Nat} {ft : TypeId} (h : fieldAt P t i = some (off, n, ft)) {vs : List Value} {cs ds : List M} (hr : RepL g vs cs)
  (hc : cut cs off n = some ds) {m : M} (hm : mk P ft ds = some m) (w : World) : ∃ v, (Instr.field t (.agg vs.toArray) i).run P w = .ok v w ∧ RepM g v m := by
 obtain ⟨fs, f, hu, hf, rfl, rfl, hs⟩ := fieldAt_spec h
 obtain ⟨rfl, hl⟩ := cut_spec hc
 have hr2 := (hr.drop f.offset).take n
 unfold mk at hm
 cases hb : isAggB P f.type with
 | none => simp [hb] at hm
 | some q =>
  cases q with
  | true =>
   simp [hb] at hm
   subst hm
   refine ⟨.agg ((vs.drop f.offset).take n).toArray, ?_, .agg _ _ hr2.1 hr2.2⟩
   simp [Instr.field, run_underlying hu, hf, asAgg, part, run_isAgg hb, run_sizeOf hs]
  | false =>
   generalize hds : (cs.drop f.offset).take n = ds at *
   cases ds with
   | nil => simp [hb] at hm
   | cons c r =>
    cases r with
    | cons _ _ => simp [hb] at hm
    | nil =>
     simp [hb] at hm
     subst hm
     obtain ⟨u, r, hu2, hu', _⟩ := hr2.cons_inv
     have h0 : vs[f.offset]? = some u := by
      have e1 : ((vs.drop f.offset).take n)[0]? = some u := by rw [hu2]; rfl
      rw [List.getElem?_take] at e1
      split at e1
      ·simpa using e1
      ·cases e1
     refine ⟨u, ?_, hu'⟩
     simp [Instr.field, run_underlying hu, hf, asAgg, part, run_isAgg hb, h0]
theorem fold_lay (off : Nat) (ds : List Value) : ∀ (k : Nat) (cs : Array Value), off + k + ds.length ≤ cs.size →
  ((ds.zipIdx k).foldl (fun cs (x : Value × Nat) => cs.setIfInBounds (off + x.2) x.1) cs).toList = cs.toList.take (off + k) ++ ds ++ cs.toList.drop (off + k + ds.length) := by
 induction ds with
 | nil => intro k cs _; simp
 | cons d ds ih =>
  intro k cs hs
  simp only [List.zipIdx_cons, List.foldl_cons, List.length_cons] at hs ⊢
  rw [ih (k + 1) _ (by simp; omega)]
  have hlt : off + k < cs.toList.length := by simp; omega
  have e1 : (cs.setIfInBounds (off + k) d).toList = cs.toList.set (off + k) d := by simp
  rw [e1, List.set_eq_take_append_cons_drop, if_pos hlt]
  have hl : (cs.toList.take (off + k)).length = off + k := by rw [List.length_take]; omega
  have hd : cs.toList.drop (off + k + (ds.length + 1)) = (cs.toList.drop (off + k + 1)).drop ds.length := by
   rw [List.drop_drop]; congr 1; omega
  rw [hd]
  generalize cs.toList.drop (off + k + 1) = R
  generalize cs.toList.take (off + k) = A at hl ⊢
  have h1 : (A ++ d :: R).take (off + (k + 1)) = A ++ [d] := by
   rw [show off + (k + 1) = A.length + 1 from by omega, List.take_length_add_append]; simp
  have h2 : (A ++ d :: R).drop (off + (k + 1) + ds.length) = R.drop ds.length := by
   rw [show off + (k + 1) + ds.length = A.length + (ds.length + 1) from by omega, List.drop_length_add_append]; simp
  rw [h1, h2]
  simp
theorem lay_spec {cs ds cs' : List M} {off : Nat} (h : lay cs off ds = some cs') : off + ds.length ≤ cs.length ∧ cs' = cs.take off ++ ds ++ cs.drop (off + ds.length) := by
 unfold lay at h
 cases e : Nat.ble (off + ds.length) cs.length with
 | false => simp [e] at h
 | true => simp [e] at h; exact ⟨Nat.le_of_ble_eq_true e, by rw [← h]; simp⟩
theorem RepL.lay {vs us : List Value} {cs ds cs' : List M} {off : Nat} (h : RepL g vs cs) (k : RepL g us ds) (hl : lay cs off ds = some cs') :
  RepL g (vs.take off ++ us ++ vs.drop (off + us.length)) cs' := by
 obtain ⟨_, rfl⟩ := lay_spec hl
 rw [k.1]
 exact ((h.take off).append k).append (h.drop _)
theorem fill_run {places : List (Nat × Nat)} (h : FInv DF D0 w0 X g st a w) : ∀ (ps : List (Nat × Operand)) {zs : List Value} {cs cs' : List M}, RepL g zs cs → fillM places st.sg ps cs = some cs' →
  ∃ us : List Value, Instr.fill (places[·]?) zs.toArray (ps.map fun p => (p.1, a.eval p.2)) = some us.toArray ∧ RepL g us cs'
 | [], zs, cs, cs', hr, hf => by simp [fillM] at hf; subst hf; exact ⟨zs, by simp [Instr.fill], hr⟩
 | (i, x) :: r, zs, cs, cs', hr, hf => by
  simp only [fillM] at hf
  cases hp : places[i]? with
  | none => simp [hp] at hf
  | some p =>
   obtain ⟨off, n⟩ := p
   cases he : ev st.sg x with
   | none => simp [hp, he] at hf
   | some m =>
    simp only [hp, he] at hf
    cases hc : cellsM m with
    | none => simp [hc] at hf
    | some ds =>
     simp only [hc] at hf
     cases hb : Nat.beq ds.length n with
     | false => rw [hb] at hf; cases hf
     | true =>
      rw [hb] at hf
      simp only [cond_true] at hf
      cases hl : lay cs off ds with
      | none => simp [hl] at hf
      | some cs1 =>
       simp only [hl] at hf
       obtain ⟨hrd, _⟩ := cellsM_rep (ev_rep h he) hc
       have hdl : (a.eval x).cells.toList.length = n := by rw [hrd.1]; exact nbeq_t hb
       have hr1 := hr.lay hrd hl
       obtain ⟨us, hus, hru⟩ := fill_run h r hr1 hf
       refine ⟨us, ?_, hru⟩
       simp only [List.map_cons, Instr.fill, hp]
       have hsz : (a.eval x).cells.size = n := by rw [← Array.length_toList]; exact hdl
       have hfit : ¬ (off + (a.eval x).cells.size > zs.toArray.size) := by
        have := (lay_spec hl).1
        have := hr.1
        have := hrd.1
        rw [hsz, List.size_toArray]; omega
       have hfold : (a.eval x).cells.zipIdx.foldl (fun cs (x : Value × Nat) => cs.setIfInBounds (off + x.2) x.1) zs.toArray =
         (zs.take off ++ (a.eval x).cells.toList ++ zs.drop (off + (a.eval x).cells.toList.length)).toArray := by
        have := fold_lay off (a.eval x).cells.toList 0 zs.toArray (by rw [hdl]; rw [hsz] at hfit; omega)
        simp only [Nat.add_zero] at this
        rw [← this, ← Array.foldl_toList, Array.toList_zipIdx]
       simp only [hsz, ne_eq, not_true_eq_false, decide_false, Bool.false_or, decide_eq_true_eq]
       rw [hsz] at hfit
       rw [if_neg (by simpa using hfit)]
       rw [hfold]; exact hus
end
structure Flat (D : Dm) (fl : List Value) (xs : List (List T)) (z : Nat) : Prop where
 len : fl.length = xs.length * z
 el : ∀ cs ∈ xs, cs.length = z
 rep : ∀ (i j : Nat) (cs : List T) (c : T), xs[i]? = some cs → cs[j]? = some c → ∃ u, fl[i * z + j]? = some u ∧ RepT D u c
theorem Flat.mono {D D' : Dm} (hD : D.le D') {fl : List Value} {xs : List (List T)} {z : Nat} (h : Flat D fl xs z) : Flat D' fl xs z :=
 ⟨h.len, h.el, fun i j cs c hi hj => let ⟨u, hu, hr⟩ := h.rep i j cs c hi hj; ⟨u, hu, hr.mono hD⟩⟩
theorem Flat.nil (D : Dm) (z : Nat) : Flat D [] [] z := ⟨by simp, by simp, fun i j cs c h => by simp at h⟩
theorem Flat.append {D : Dm} {fl gl : List Value} {xs ys : List (List T)} {z : Nat} (h : Flat D fl xs z) (k : Flat D gl ys z) : Flat D (fl ++ gl) (xs ++ ys) z := by
 refine ⟨by simp [h.len, k.len, Nat.add_mul], fun cs hc => ?_, fun i j cs c hi hj => ?_⟩
 ·rcases List.mem_append.1 hc with hc | hc
  ·exact h.el cs hc
  ·exact k.el cs hc
 ·have hjz : j < z := by
   have h1 : j < cs.length := (List.getElem?_eq_some_iff.1 hj).1
   have hm : cs ∈ xs ++ ys := List.mem_of_getElem? hi
   rcases List.mem_append.1 hm with hc | hc
   ·rw [h.el cs hc] at h1; exact h1
   ·rw [k.el cs hc] at h1; exact h1
  by_cases hlt : i < xs.length
  ·rw [List.getElem?_append_left hlt] at hi
   obtain ⟨u, hu, hr⟩ := h.rep i j cs c hi hj
   have : i * z + j < fl.length := (List.getElem?_eq_some_iff.1 hu).1
   exact ⟨u, by rw [List.getElem?_append_left this]; exact hu, hr⟩
  ·rw [List.getElem?_append_right (by omega)] at hi
   obtain ⟨u, hu, hr⟩ := k.rep _ j cs c hi hj
   refine ⟨u, ?_, hr⟩
   have e : i * z = xs.length * z + (i - xs.length) * z := by rw [← Nat.add_mul]; congr 1; omega
   rw [List.getElem?_append_right (by rw [h.len]; omega), h.len]
   rw [show i * z + j - xs.length * z = (i - xs.length) * z + j from by omega]
   exact hu
theorem RepT.flat {D : Dm} {v : Value} {xs : List (List T)} {z : Nat} (h : RepT D v (.sl xs)) (hz : ∀ cs ∈ xs, cs.length = z) (h0 : 0 < z) :
  ((∃ ad, v = .slice ad 0 0) ∧ xs = []) ∨ ∃ b off cap fl, v = .slice (some ⟨b, off, none⟩) xs.length cap ∧ (xs.length ≤ cap ∧ xs.length ≤ 274877906944) ∧ Flat D fl xs z ∧ ∀ (q : Nat) (u : Value), fl[q]? = some u → D b (off + q) = some u := by
 cases h with
 | nil => exact .inl ⟨⟨none, rfl⟩, rfl⟩
 | spot a => exact .inl ⟨⟨some a, rfl⟩, rfl⟩
 | sl b off n cap y _ cell hn hc hy hD hr =>
  subst hn
  refine .inr ⟨b, off, cap, (List.range (xs.length * z)).map (fun q => cell (q / z) (q % z)), rfl, hc, ⟨by simp, hz, fun i j cs c hi hj => ?_⟩, fun q u hu => ?_⟩
  ·have hjz : j < z := by rw [← hz cs (List.mem_of_getElem? hi)]; exact (List.getElem?_eq_some_iff.1 hj).1
   have hil : i < xs.length := (List.getElem?_eq_some_iff.1 hi).1
   have hlt : i * z + j < xs.length * z := by
    have : (i + 1) * z ≤ xs.length * z := Nat.mul_le_mul_right z hil
    rw [Nat.add_mul] at this; omega
   refine ⟨cell i j, ?_, hr i j cs c hi hj⟩
   rw [List.getElem?_map, List.getElem?_range hlt, Option.map_some]
   have e1 : (i * z + j) / z = i := by rw [Nat.add_comm, Nat.add_mul_div_right _ _ h0, Nat.div_eq_of_lt hjz, Nat.zero_add]
   have e2 : (i * z + j) % z = j := by rw [Nat.add_comm, Nat.add_mul_mod_self_right, Nat.mod_eq_of_lt hjz]
   rw [e1, e2]
  ·have hq : q < xs.length * z := by
    have := (List.getElem?_eq_some_iff.1 hu).1
    simpa using this
   rw [List.getElem?_map, List.getElem?_range hq, Option.map_some] at hu
   cases hu
   have hi : q / z < xs.length := Nat.div_lt_of_lt_mul (by rw [Nat.mul_comm]; exact hq)
   have hyz : y = z := by
    have h1 := List.getElem?_eq_getElem hi
    rw [← hy _ _ h1, hz _ (List.getElem_mem hi)]
   subst hyz
   have := hD (q / y) (q % y) hi (Nat.mod_lt _ h0)
   rw [Nat.div_add_mod' q y] at this
   exact this
theorem RepT.of_flat {D : Dm} {b off cap : Nat} {fl : List Value} {xs : List (List T)} {z : Nat} (hf : Flat D fl xs z) (hc : xs.length ≤ cap) (hm : xs.length ≤ 274877906944)
  (hD : ∀ (q : Nat) (u : Value), fl[q]? = some u → D b (off + q) = some u) : RepT D (.slice (some ⟨b, off, none⟩) xs.length cap) (.sl xs) := by
 refine .sl b off xs.length cap z xs (fun i j => fl.getD (i * z + j) undef) rfl ⟨hc, hm⟩ (fun i cs hi => hf.el cs (List.mem_of_getElem? hi)) (fun i j hi hj => ?_) (fun i j cs c hi hj => ?_)
 ·have hlt : i * z + j < fl.length := by
   rw [hf.len]
   have : (i + 1) * z ≤ xs.length * z := Nat.mul_le_mul_right z hi
   rw [Nat.add_mul] at this; omega
  have h1 := List.getElem?_eq_getElem hlt
  rw [hD _ _ h1]
  simp [List.getD, h1]
 ·obtain ⟨u, hu, hr⟩ := hf.rep i j cs c hi hj
  simpa [List.getD, hu] using hr
end Go.Bm
/- Operations on numbers, strings, slices; all that touches nothing. -/
namespace Go.Bm
open Go.RowKit (Below)
theorem order_nan_l {x : Nat} (y : Nat) (h : nanB x) : FloatKind.f64.format.order x y = none := by
 unfold nanB at h
 unfold Ieee.Format.order
 cases e : FloatKind.f64.format.read x <;> simp [e, Ieee.Datum.isNaN] at h
 cases FloatKind.f64.format.read y <;> rfl
theorem order_nan_r (x : Nat) {y : Nat} (h : nanB y) : FloatKind.f64.format.order x y = none := by
 unfold nanB at h
 unfold Ieee.Format.order
 cases e : FloatKind.f64.format.read y <;> simp [e, Ieee.Datum.isNaN] at h
 cases FloatKind.f64.format.read x <;> rfl
theorem sum_nan_l (s : Bool) (t : Nat) (d : Ieee.Datum) : (Ieee.Datum.nan s t).sum d = none := by cases d <;> rfl
theorem sum_nan_r (s : Bool) (t : Nat) (d : Ieee.Datum) : d.sum (Ieee.Datum.nan s t) = none := by cases d <;> rfl
theorem product_nan_l (s : Bool) (t : Nat) (d : Ieee.Datum) : (Ieee.Datum.nan s t).product d = none := by cases d <;> rfl
theorem product_nan_r (s : Bool) (t : Nat) (d : Ieee.Datum) : d.product (Ieee.Datum.nan s t) = none := by cases d <;> rfl
theorem quotient_nan_l (n : Nat) (s : Bool) (t : Nat) (d : Ieee.Datum) : (Ieee.Datum.nan s t).quotient n d = none := by cases d <;> rfl
theorem quotient_nan_r (n : Nat) (s : Bool) (t : Nat) (d : Ieee.Datum) : d.quotient n (Ieee.Datum.nan s t) = none := by cases d <;> rfl
theorem read_nan {x : Nat} (h : nanB x) : ∃ s t, FloatKind.f64.format.read x = .nan s t := by
 unfold nanB at h
 cases e : FloatKind.f64.format.read x <;> simp [e, Ieee.Datum.isNaN] at h
 exact ⟨_, _, rfl⟩
theorem arith_nan (op : Nat → Nat → Option Nat) (hop : op = FloatKind.f64.format.add ∨ op = FloatKind.f64.format.sub ∨ op = FloatKind.f64.format.mul ∨ op = FloatKind.f64.format.div)
  (x y : Nat) (h : nanB x ∨ nanB y) : op x y = none := by
 rcases h with h | h
 ·obtain ⟨s, t, e⟩ := read_nan h
  rcases hop with rfl | rfl | rfl | rfl
  ·simp [Ieee.Format.add, e, sum_nan_l]
  ·simp [Ieee.Format.sub, e, sum_nan_l]
  ·simp [Ieee.Format.mul, e, product_nan_l]
  ·simp [Ieee.Format.div, e, quotient_nan_l]
 ·obtain ⟨s, t, e⟩ := read_nan h
  rcases hop with rfl | rfl | rfl | rfl
  ·simp [Ieee.Format.add, e, sum_nan_r]
  ·simp [Ieee.Format.sub, e, Ieee.Datum.opposite, sum_nan_r]
  ·simp [Ieee.Format.mul, e, product_nan_r]
  ·simp [Ieee.Format.div, e, quotient_nan_r]
theorem nan_drawn (x y t : Nat) : nanB ((Question.nanBits .f64 x y).cut t) := by
 unfold nanB
 simp only [Question.cut]
 have h1 := Nat.mod_lt t (show 0 < 2 by omega)
 have h2 := Nat.mod_lt (t / 2) (show 0 < 2 ^ 52 - 1 by omega)
 generalize t % 2 = s at *
 generalize t / 2 % (2 ^ 52 - 1) = r at *
 have hm : (s * 2 ^ 63 + 0x7ff0000000000000 + 1 + r) % 9223372036854775808 = 0x7ff0000000000000 + 1 + r := by omega
 have hw : FloatKind.f64.format.signWeight = 9223372036854775808 := by decide
 have hi : FloatKind.f64.format.infRung = 9218868437227405312 := by decide
 have hb : FloatKind.f64.format.binade = 4503599627370496 := by decide
 unfold Ieee.Format.read
 simp only [hw, hi, hb, hm]
 rw [if_neg (by omega), if_neg (by omega), if_neg (by omega)]
 rfl
theorem RepT.f_inv {D : Dm} {v : Value} {x : Option Nat} (h : RepT D v (.f x)) : ∃ b, v = .float .f64 b ∧ (x = some b ∨ x = none ∧ nanB b) := by
 cases h with
 | f b => exact ⟨b, rfl, .inl rfl⟩
 | nan b h => exact ⟨b, rfl, .inr ⟨rfl, h⟩⟩
section
variable {P : Program}
theorem run_choose_nan (x y : Nat) (w : World) : ∃ b, nanB b ∧ (choose (.nanBits .f64 x y)).run P w = .ok b w.drew := by
 refine ⟨_, nan_drawn x y (w.tape w.drawn (.nanBits .f64 x y)), ?_⟩
 simp [Question.forced]
def Near (w w' : World) : Prop := w' = w ∨ w' = w.drew
theorem fo_eq {D : Dm} {u v : Value} {x y : Option Nat} {b c : Nat} (_hu : RepT D u (.f x)) (_hv : RepT D v (.f y)) (hx : x = some b ∨ x = none ∧ nanB b) (hy : y = some c ∨ y = none ∧ nanB c) :
  fo x y = FloatKind.f64.format.order b c := by
 rcases hx with rfl | ⟨rfl, hb⟩
 ·rcases hy with rfl | ⟨rfl, hc⟩
  ·rfl
  ·exact (order_nan_r b hc).symm
 ·rcases hy with rfl | ⟨rfl, hc⟩
  ·exact (order_nan_l c hb).symm
  ·exact (order_nan_l c hb).symm
theorem arith_run {D : Dm} (f : Nat → Nat → Option Nat) (op : BinOp)
  (hf : (op = .add ∧ f = FloatKind.f64.format.add) ∨ (op = .sub ∧ f = FloatKind.f64.format.sub) ∨ (op = .mul ∧ f = FloatKind.f64.format.mul) ∨ (op = .quo ∧ f = FloatKind.f64.format.div))
  {x y : Option Nat} {b c : Nat} (hx : x = some b ∨ x = none ∧ nanB b) (hy : y = some c ∨ y = none ∧ nanB c) (w : World) :
  ∃ u w', (Op.floatArith op .f64 b c).run P w = .ok u w' ∧ Near w w' ∧ RepT D u (.f (fa f x y)) := by
 have hrun : ∀ r, f b c = r → (Op.floatArith op .f64 b c).run P w = (match r with | some r => Result.ok (Value.float .f64 r) w | none => ((choose (.nanBits .f64 b c)).run P w).andThen fun n w' => .ok (.float .f64 n) w') := by
  intro r hr
  rcases hf with ⟨rfl, rfl⟩ | ⟨rfl, rfl⟩ | ⟨rfl, rfl⟩ | ⟨rfl, rfl⟩ <;> cases r <;> simp [Op.floatArith, hr]
 cases hr : f b c with
 | some r =>
  have hn : ¬ nanB b ∧ ¬ nanB c := by
   refine ⟨fun h => ?_, fun h => ?_⟩ <;>
   ·have := arith_nan f (by rcases hf with ⟨_, rfl⟩ | ⟨_, rfl⟩ | ⟨_, rfl⟩ | ⟨_, rfl⟩ <;> simp) b c (by simp [h])
    rw [this] at hr; cases hr
  have hx' : x = some b := hx.resolve_right (fun h => hn.1 h.2)
  have hy' : y = some c := hy.resolve_right (fun h => hn.2 h.2)
  refine ⟨.float .f64 r, w, hrun _ hr, .inl rfl, ?_⟩
  rw [hx', hy']
  show RepT D _ (.f (f b c))
  rw [hr]; exact .f r
 | none =>
  obtain ⟨n, hn, hc⟩ := run_choose_nan (P := P) b c w
  refine ⟨.float .f64 n, w.drew, ?_, .inr rfl, ?_⟩
  ·rw [hrun _ hr]; simp only [hc]; rfl
  ·have : fa f x y = none := by
    rcases hx with rfl | ⟨rfl, _⟩
    ·rcases hy with rfl | ⟨rfl, _⟩
     ·exact hr
     ·rfl
    ·rfl
   rw [this]; exact .nan n hn
theorem eqGuard_run (op : BinOp) (t : TypeId) (x y : Operand) (u v : Value) (w : World) (h1 : u ≠ .nilIface) (h2 : ∀ cs, u ≠ .agg cs) : (eqGuard op t x y u v).run P w = .ok () w := by
 unfold eqGuard
 cases op <;> first
  | (simp; done)
  | (cases u <;> simp_all)
theorem bin_guarded (op : BinOp) (t : TypeId) (x y : Operand) (u v : Value) (w : World) (h1 : u ≠ .nilIface) (h2 : ∀ cs, u ≠ .agg cs) :
  (do eqGuard op t x y u v; binOp op t u v : Sem Value).run P w = (binOp op t u v).run P w := by
 simp [eqGuard_run op t x y u v w h1 h2]
theorem kindEq_t {k k' : IntKind} (h : kindEq k k' = true) : k = k' := by
 cases k <;> cases k' <;> first | rfl | cases h
theorem binI_run {op : BinOp} {k : IntKind} {x y : Int} {r : Value} {ps : List Prop} (h : binI op k x y = some (r, ps)) (hp : ∀ p ∈ ps, p) (t : TypeId) (w : World) :
  (binOp op t (.int k x) (.int k y)).run P w = .ok r w ∧ r.oneCell' = true := by
 cases op <;> simp [binI] at h
 all_goals (obtain ⟨rfl, rfl⟩ := h)
 all_goals first
  | (refine ⟨?_, rfl⟩; simp [binOp, Op.intArith, Op.intCmp, Op.intBits]; done)
  | (have := hp _ (by simp : (y ≠ 0) ∈ [y ≠ 0]); refine ⟨?_, rfl⟩; simp [binOp, Op.intDiv, this])
theorem binS_run {op : BinOp} {x y r : Value} {ps : List Prop} (h : binS op x y = some (r, ps)) (hp : ∀ p ∈ ps, p) (t : TypeId) (w : World) :
  (binOp op t x y).run P w = .ok r w ∧ r.oneCell' = true ∧ x ≠ .nilIface ∧ ∀ cs, x ≠ .agg cs := by
 unfold binS at h
 split at h
 case h_1 k a k' b =>
  cases h
  have hb : 0 ≤ b := hp _ (by simp)
  refine ⟨?_, rfl, by simp, by simp⟩
  simp [binOp, Op.shift, show ¬ b < 0 by omega]
 case h_2 k a k' b =>
  cases h
  have hb : 0 ≤ b := hp _ (by simp)
  refine ⟨?_, rfl, by simp, by simp⟩
  simp [binOp, Op.shift, show ¬ b < 0 by omega]
 case h_3 k a k' b _ _ =>
  cases e : kindEq k k' with
  | false => rw [e] at h; cases h
  | true =>
   rw [e] at h
   have := kindEq_t e
   subst this
   have := binI_run (P := P) h hp t w
   exact ⟨this.1, this.2, by simp, by simp⟩
 case h_4 a b => cases h; exact ⟨by simp [binOp, Op.stringOp], rfl, by simp, by simp⟩
 case h_5 a b => cases h; exact ⟨by simp [binOp, Op.stringOp], rfl, by simp, by simp⟩
 case h_6 a b => cases h; exact ⟨by simp [binOp, Op.stringOp], rfl, by simp, by simp⟩
 case h_7 a b => cases h; exact ⟨by simp [binOp, Op.stringOp], rfl, by simp, by simp⟩
 case h_8 a b => cases h; exact ⟨by simp [binOp, Op.stringOp], rfl, by simp, by simp⟩
 case h_9 a b => cases h; exact ⟨by simp [binOp, Op.stringOp], rfl, by simp, by simp⟩
 case h_10 a b =>
  cases h
  have hb : ((a.size + b.size : Nat) : Int) ≤ IntKind.i64.max := hp _ (by simp)
  refine ⟨?_, rfl, by simp, by simp⟩
  have hb' : ¬ (((a.size + b.size : Nat) : Int) > IntKind.i64.max) := by omega
  simp only [binOp, Op.stringOp, hb', if_false]
  rfl
 case h_11 => cases h
theorem equal_bool {t : TypeId} (hu : P.underlying t = some .bool) (a b : Bool) (w : World) : (Op.equal t (.bool a) (.bool b)).run P w = .ok (a == b) w := by
 have h : ∀ d, (Op.equalIn (d + 1) t (.bool a) (.bool b)).run P w = .ok (a == b) w := fun d => by
  simp [Op.equalIn, run_underlying hu]
 exact h 9999
theorem binB_run {t : TypeId} {op : BinOp} {a b : Bool} {r : Value} (h : binB P t op a b = some r) (w : World) : (binOp op t (.bool a) (.bool b)).run P w = .ok r w ∧ r.oneCell' = true := by
 unfold binB at h
 split at h
 ·rename_i hu; cases h
  exact ⟨by simp [binOp, equal_bool hu], rfl⟩
 ·rename_i hu; cases h
  exact ⟨by simp [binOp, equal_bool hu], rfl⟩
 ·cases h
theorem binM_run {g : Gh} {op : BinOp} {t : TypeId} {x y m : M} {u v : Value} {ps : List Prop} (hx : RepM g u x) (hy : RepM g v y) (h : binM P t op x y = some (m, ps)) (hp : ∀ p ∈ ps, p)
  (ox oy : Operand) (w : World) : ∃ r w', (do eqGuard op t ox oy u v; binOp op t u v : Sem Value).run P w = .ok r w' ∧ Near w w' ∧ RepM g r m := by
 unfold binM at h
 split at h
 case h_1 a b =>
  obtain rfl := hx.s_inv
  obtain rfl := hy.s_inv
  split at h
  ·rename_i v' hv'
   cases h
   have := binB_run (P := P) hv' w
   refine ⟨v', w, ?_, .inl rfl, .t _ _ (.s _ this.2)⟩
   rw [bin_guarded op _ _ _ _ _ w (by simp) (by simp)]
   exact this.1
  ·cases h
 case h_2 a b =>
  obtain ⟨c, rfl, hc⟩ := hx.t_inv.f_inv
  obtain ⟨d, rfl, hd⟩ := hy.t_inv.f_inv
  rw [bin_guarded op _ _ _ _ _ w (by simp) (by simp)]
  have hfo := fo_eq hx.t_inv hy.t_inv hc hd
  cases op <;> simp [binF] at h
  all_goals (obtain ⟨rfl, rfl⟩ := h)
  case add =>
   obtain ⟨r, w', h1, h2, h3⟩ := arith_run (P := P) (D := g.D) FloatKind.f64.format.add .add (by simp) hc hd w
   exact ⟨r, w', by simp [binOp, h1], h2, .t _ _ h3⟩
  case sub =>
   obtain ⟨r, w', h1, h2, h3⟩ := arith_run (P := P) (D := g.D) FloatKind.f64.format.sub .sub (by simp) hc hd w
   exact ⟨r, w', by simp [binOp, h1], h2, .t _ _ h3⟩
  case mul =>
   obtain ⟨r, w', h1, h2, h3⟩ := arith_run (P := P) (D := g.D) FloatKind.f64.format.mul .mul (by simp) hc hd w
   exact ⟨r, w', by simp [binOp, h1], h2, .t _ _ h3⟩
  case quo =>
   obtain ⟨r, w', h1, h2, h3⟩ := arith_run (P := P) (D := g.D) FloatKind.f64.format.div .quo (by simp) hc hd w
   exact ⟨r, w', by simp [binOp, h1], h2, .t _ _ h3⟩
  all_goals exact ⟨_, w, by simp only [binOp, Op.floatCmp, ← hfo]; rfl, .inl rfl, .t _ _ (.s _ rfl)⟩
 case h_3 a b _ =>
  obtain rfl := hx.s_inv
  obtain rfl := hy.s_inv
  split at h
  ·rename_i v' ps' hv'
   cases h
   have := binS_run (P := P) hv' hp t w
   refine ⟨v', w, ?_, .inl rfl, .t _ _ (.s _ this.2.1)⟩
   rw [bin_guarded op _ _ _ _ _ w this.2.2.1 this.2.2.2]
   exact this.1
  ·cases h
 case h_4 => cases h
theorem unM_run {g : Gh} {op : UnOp} {x m : M} {u : Value} (hx : RepM g u x) (h : unM op x = some m) (w : World) : ∃ r, (Op.unary op u).run P w = .ok r w ∧ RepM g r m := by
 unfold unM at h
 split at h
 ·cases h; obtain rfl := hx.s_inv; exact ⟨_, by simp [Op.unary], .t _ _ (.s _ rfl)⟩
 ·cases h; obtain rfl := hx.s_inv; exact ⟨_, by simp [Op.unary, Op.intArith], .t _ _ (.s _ rfl)⟩
 ·cases h
  obtain ⟨b, rfl, hb⟩ := hx.t_inv.f_inv
  rcases hb with hb | ⟨hb, _⟩
  ·cases hb; exact ⟨_, by simp [Op.unary], .t _ _ (.f _)⟩
  ·cases hb
 ·cases h
theorem convM_run {g : Gh} {s d : TypeId} {x m : M} {u : Value} (hx : RepM g u x) (h : convM P s d x = some m) (w : World) : ∃ r, (convert s d u).run P w = .ok r w ∧ RepM g r m := by
 unfold convM at h
 split at h
 ·rename_i k _ n h1 h2
  cases h; obtain rfl := hx.s_inv
  exact ⟨_, by simp [convert, run_underlying h1, run_underlying h2, Conv.intToInt], .t _ _ (.s _ rfl)⟩
 ·rename_i _ n h1 h2
  cases h; obtain rfl := hx.s_inv
  exact ⟨_, by simp [convert, run_underlying h1, run_underlying h2, Conv.intToFloat], .t _ _ (.f _)⟩
 ·rename_i sv h1 h2
  cases h; obtain rfl := hx.s_inv
  exact ⟨_, by simp [convert, run_underlying h1, run_underlying h2], .t _ _ (.s _ rfl)⟩
 ·cases h
end
end Go.Bm
/- All that touches nothing, in one law. -/
namespace Go.Bm
open Go.RowKit (Below)
section
variable {P : Program} {D0 : Dm} {w0 : World} {X : Foot} {DF : Env} {g : Gh} {st : St} {a : Act} {w : World}
theorem asI_rep {v : Value} {m : M} {n : Int} (h : RepM g v m) (ha : asI m = some n) : ∃ k, v = .int k n := by
 unfold asI at ha
 split at ha
 ·cases ha; exact ⟨_, h.s_inv⟩
 ·cases ha
theorem RepM.sb_inv {v : Value} {k z lo n : Nat} (h : RepM g v (.sb k z lo n)) : ∃ ad c, v = .slice ad n c ∧ n ≤ c ∧ (ad = none → c = 0) := by
 cases h with
 | sb b o z c k lo n h hc hn => exact ⟨_, _, rfl, by omega, fun h => by cases h⟩
 | sbe a q b o z k lo h => exact ⟨_, _, rfl, Nat.le_refl _, fun h => by cases h⟩
 | sb0 z c k h => exact ⟨_, _, rfl, Nat.le_refl _, fun _ => rfl⟩
theorem lenM_run {t : TypeId} {x m : M} {u : Value} (hx : RepM g u x) (h : lenM P t x = some m) (ty : TypeId) (w : World) : ∃ r, (Builtin.len_ #[t] ty #[u]).run P w = .ok r w ∧ RepM g r m := by
 unfold lenM at h
 split at h
 ·rename_i hu
  split at h
  ·cases h; obtain rfl := hx.s_inv
   exact ⟨_, by simp [Builtin.len_, run_underlying hu, goInt], .t _ _ (.s _ rfl)⟩
  ·cases h
 ·rename_i e hu
  split at h
  ·cases h
   obtain ⟨ad, c, rfl, _⟩ := hx.sb_inv
   exact ⟨_, by simp [Builtin.len_, run_underlying hu, goInt], .t _ _ (.s _ rfl)⟩
  ·split at h
   ·rename_i xs hs
    cases h
    obtain ⟨ad, c, rfl, _⟩ := sl_form (slOf_rep hx hs)
    exact ⟨_, by simp [Builtin.len_, run_underlying hu, goInt], .t _ _ (.s _ rfl)⟩
   ·cases h
 ·cases h
theorem optEv_rep (h : FInv DF D0 w0 X g st a w) {x : Option Operand} {m : Option M} (he : optEv st.sg x = some m) :
  (x = none ∧ m = none) ∨ ∃ y n, x = some y ∧ m = some n ∧ RepM g (a.eval y) n := by
 cases x with
 | none => simp [optEv] at he; exact .inl ⟨rfl, he.symm⟩
 | some y =>
  simp only [optEv] at he
  split at he
  ·rename_i n hn; cases he; exact .inr ⟨y, n, rfl, rfl, ev_rep h hn⟩
  ·cases he
theorem run_bound {k : IntKind} {n : Int} {y : Nat} (c : BoundsCode) (h0 : 0 ≤ n) (h1 : n ≤ (y : Int)) (w : World) : (Instr.sliceBound (.int k n) y c).run P w = .ok n.toNat w := by
 simp [Instr.sliceBound, asIntOf, h0, h1]
theorem bound_map {β : Type} {vl : Option Value} {y : Nat} {cd : BoundsCode} {l : Nat} {w : World} (f : Nat → β)
  (h : ((match vl with | some v => Instr.sliceBound v y cd | none => pure 0 : Sem Nat)).run P w = .ok l w) :
  ((match (generalizing := false) vl with | some v => f <$> Instr.sliceBound v y cd | none => pure (f 0) : Sem β)).run P w = .ok (f l) w := by
 cases vl with
 | none => simp at h; subst h; rfl
 | some v => simp at h; simp [h]
theorem RepT.cut {D : Dm} {b off n cap : Nat} {xs : List (List T)} {z : Nat} (h : RepT D (.slice (some ⟨b, off, none⟩) n cap) (.sl xs)) (hz : ∀ x, x ∈ xs → x.length = z) (h0 : 0 < z)
  {l r m : Nat} (hlr : l ≤ r) (hr : r ≤ xs.length) (hrm : r ≤ m) :
  RepT D (.slice (some (if m = l then ⟨b, off, none⟩ else (⟨b, off, none⟩ : Addr).add (l * z))) (r - l) (m - l)) (.sl ((xs.take r).drop l)) := by
 rcases h.flat hz h0 with ⟨⟨ad, e⟩, rfl⟩ | ⟨b', off', cap', fl, e, _, hF, hD⟩
 ·cases e
  have e0 : r = 0 := by simpa using hr
  have e1 : l = 0 := by omega
  subst e0; subst e1
  have e2 : (if m = 0 then ⟨b, off, none⟩ else (⟨b, off, none⟩ : Addr).add (0 * z)) = ⟨b, off, none⟩ := by
   split
   ·rfl
   ·simp [Addr.add]
  rw [e2]
  exact .sl b off 0 _ 0 [] (fun _ _ => undef) rfl ⟨by omega, by omega⟩ (fun i cs h => by simp at h) (fun i j hi => by omega) (fun i j cs c h => by simp at h)
 ·cases e
  have hlen : ((xs.take r).drop l).length = r - l := by rw [List.length_drop, List.length_take]; omega
  by_cases hml : m = l
  ·have : r = l := by omega
   subst this
   rw [if_pos hml]
   have hnil : (xs.take r).drop r = [] := List.eq_nil_of_length_eq_zero (by rw [hlen]; omega)
   rw [hnil]
   exact .sl b off _ _ 0 [] (fun _ _ => undef) (by simp) ⟨by omega, by omega⟩ (fun i cs h => by simp at h) (fun i j hi => by omega) (fun i j cs c h => by simp at h)
  ·rw [if_neg hml, addr_add]
   have hF2 : Flat D ((fl.take (r * z)).drop (l * z)) ((xs.take r).drop l) z := by
    refine ⟨?_, fun cs hc => hz cs (List.mem_of_mem_take (List.mem_of_mem_drop hc)), fun i j cs c hi hj => ?_⟩
    ·rw [hlen, List.length_drop, List.length_take, hF.len, Nat.sub_mul]
     have : r * z ≤ xs.length * z := Nat.mul_le_mul_right z hr
     omega
    ·rw [List.getElem?_drop] at hi
     have hlt : l + i < r := by
      have := (List.getElem?_eq_some_iff.1 hi).1
      rw [List.length_take] at this; omega
     rw [List.getElem?_take, if_pos hlt] at hi
     obtain ⟨u, hu, hru⟩ := hF.rep (l + i) j cs c hi hj
     refine ⟨u, ?_, hru⟩
     have hjz : j < z := by rw [← hz cs (List.mem_of_getElem? hi)]; exact (List.getElem?_eq_some_iff.1 hj).1
     rw [List.getElem?_drop, show l * z + (i * z + j) = (l + i) * z + j from by rw [Nat.add_mul]; omega, List.getElem?_take, if_pos ?_]
     ·exact hu
     ·have : (l + i + 1) * z ≤ r * z := Nat.mul_le_mul_right z hlt
      rw [Nat.add_mul (l + i) 1] at this; omega
   have := RepT.of_flat (D := D) (b := b) (off := off + l * z) (cap := m - l) hF2 (by rw [hlen]; omega) (by rw [hlen]; omega) (fun q u hq => by
    rw [List.getElem?_drop] at hq
    rw [List.getElem?_take] at hq
    split at hq
    ·have := hD _ u hq
     rw [show off + l * z + q = off + (l * z + q) from by omega]; exact this
    ·cases hq)
   rw [hlen] at this
   exact this
theorem sliceL_run {t e : TypeId} {z : Nat} (hu : P.underlying t = some (.slice e)) (hs : szOf P e = some z) (h0 : 0 < z) {v : Value} {xs : List (List T)} (hv : RepT g.D v (.sl xs))
    {lo hi mx : Option M} {vl vh vm : Option Value}
    (hl : (vl = none ∧ lo = none) ∨ ∃ y n, vl = some y ∧ lo = some n ∧ RepM g y n) (hh : (vh = none ∧ hi = none) ∨ ∃ y n, vh = some y ∧ hi = some n ∧ RepM g y n)
    (hm : (vm = none ∧ mx = none) ∨ ∃ y n, vm = some y ∧ mx = some n ∧ RepM g y n)
    {m : M} {ps : List Prop} (h : sliceL z xs lo hi mx = some (m, ps)) (hp : ∀ p ∈ ps, p) (w : World) :
    ∃ r, (Instr.sliceAt t v vl vh vm).run P w = .ok r w ∧ RepM g r m := by
  obtain ⟨ad, c, rfl, hc, hnil⟩ := sl_form hv
  unfold sliceL at h
  split at h
  case h_2 => cases h
  rename_i l r hlo hhi
  -- the three bounds, as the model has them
  have core : ∀ (q : Nat) (m' : M), 0 ≤ l → l ≤ r → r ≤ (xs.length : Int) → (∀ x, x ∈ xs → x.length = z) → r ≤ (q : Int) → q ≤ c →
      (Instr.sliceBounds true xs.length c vl vh vm).run P w = .ok (l.toNat, r.toNat, q) w →
      (∀ a', RepT g.D (.slice a' (r.toNat - l.toNat) (q - l.toNat)) (.sl ((xs.take r.toNat).drop l.toNat)) → (0 < q → ∀ b, a' = some b → b.spot = none) → RepM g (.slice a' (r.toNat - l.toNat) (q - l.toNat)) m') →
      ∃ u, (Instr.sliceAt t (.slice ad xs.length c) vl vh vm).run P w = .ok u w ∧ RepM g u m' := by
    intro q m' p1 p2 p3 p4 p5 p6 hb hrep
    refine ⟨.slice (if q = l.toNat then ad else ad.map (·.add (l.toNat * z))) (r.toNat - l.toNat) (q - l.toNat), ?_, hrep _ ?_ ?_⟩
    · simp [Instr.sliceAt, Instr.slice, run_underlying hu, hb, run_sizeOf hs]
    · cases ad with
      | none =>
        have hc0 := hnil rfl
        subst hc0
        have hx : xs = [] := List.eq_nil_of_length_eq_zero (by omega)
        subst hx
        have e1 : q = 0 := by omega
        have e2 : r.toNat = 0 := by simp at p3; omega
        have e3 : l.toNat = 0 := by omega
        subst e1
        rw [e2, e3]
        exact .nil
      | some ad =>
        by_cases hab : ∃ b off, ad = ⟨b, off, none⟩
        case neg =>
          have hx : xs = [] ∧ c = 0 := by
            generalize hn : xs.length = n at hv
            cases hv with
            | spot a => exact ⟨rfl, rfl⟩
            | sl b off => exact absurd ⟨b, off, rfl⟩ hab
          obtain ⟨rfl, rfl⟩ := hx
          have e1 : q = 0 := by omega
          have e2 : r.toNat = 0 := by simp at p3; omega
          have e3 : l.toNat = 0 := by omega
          subst e1
          rw [e2, e3]
          exact .spot _
        obtain ⟨b, off, hab⟩ := hab
        subst hab
        have := RepT.cut (m := q) hv p4 h0 (l := l.toNat) (r := r.toNat) (by omega) (by omega) (by omega)
        rcases Nat.decEq q l.toNat with hne | heq
        · rw [if_neg hne] at this ⊢; exact this
        · rw [if_pos heq] at this ⊢; exact this
    · intro hq0 b hb
      cases ad with
      | none => have := hnil rfl; omega
      | some ad =>
        have hs : ad.spot = none := by
          generalize hn : xs.length = n at hv
          cases hv with
          | spot a => omega
          | sl b off => rfl
        obtain ⟨b', off, sp⟩ := ad
        simp only at hs
        subst hs
        split at hb
        · cases hb; rfl
        · simp only [Option.map_some, addr_add, Option.some.injEq] at hb
          rw [← hb]
  have blo : ∀ y : Nat, 0 ≤ l → l ≤ (y : Int) → ∀ cd, ((match vl with | some v => Instr.sliceBound v y cd | none => pure 0 : Sem Nat)).run P w = .ok l.toNat w := by
    intro y h1 h2 cd
    rcases hl with ⟨rfl, rfl⟩ | ⟨v', n, rfl, rfl, hr'⟩
    · simp at hlo; subst hlo; rfl
    · obtain ⟨k, rfl⟩ := asI_rep hr' hlo
      exact run_bound cd h1 h2 w
  cases mx with
  | none =>
    simp only [Option.some.injEq, Prod.mk.injEq] at h
    obtain ⟨rfl, rfl⟩ := h
    have p1 : 0 ≤ l := hp _ (by simp)
    have p2 : l ≤ r := hp (l ≤ r) (by simp)
    have p3 : r ≤ (xs.length : Int) := hp (r ≤ (xs.length : Int)) (by simp)
    have p4 : ∀ x, x ∈ xs → x.length = z := hp (∀ x, x ∈ xs → x.length = z) (by simp)
    have hvm : vm = none := by
      rcases hm with ⟨rfl, _⟩ | ⟨_, _, _, e, _⟩
      · rfl
      · cases e
    subst hvm
    refine core c _ p1 p2 p3 p4 (by omega) (Nat.le_refl _) ?_ (fun a' hr' _ => .t _ _ hr')
    have h1 := blo r.toNat p1 (by omega) .sliceB
    rcases hh with ⟨rfl, rfl⟩ | ⟨v', n, rfl, rfl, hr'⟩
    · simp at hhi
      subst hhi
      simp only [Instr.sliceBounds]
      simp
      rw [Int.toNat_natCast] at h1
      exact bound_map (fun a => (a, xs.length, c)) h1
    · obtain ⟨k, rfl⟩ := asI_rep hr' hhi
      have h2 := run_bound (P := P) (k := k) (n := r) (y := c) .sliceAcap (by omega) (by omega) w
      simp only [Instr.sliceBounds]
      simp [h2]
      exact bound_map (fun a => (a, r.toNat, c)) h1
  | some q =>
    simp only at h
    cases hq : asI q with
    | none => simp [hq] at h
    | some q' =>
      cases hi with
      | none => simp [hq] at h
      | some hv' =>
        simp only [hq, Option.some.injEq, Prod.mk.injEq] at h
        obtain ⟨rfl, rfl⟩ := h
        have p1 : 0 ≤ l := hp _ (by simp)
        have p2 : l ≤ r := hp (l ≤ r) (by simp)
        have p3 : r ≤ (xs.length : Int) := hp (r ≤ (xs.length : Int)) (by simp)
        have p4 : ∀ x, x ∈ xs → x.length = z := hp (∀ x, x ∈ xs → x.length = z) (by simp)
        have p5 : q' = r := hp (q' = r) (by simp)
        subst p5
        rcases hm with ⟨_, e⟩ | ⟨vmv, n, rfl, e, hrm⟩
        · cases e
        · cases e
          rcases hh with ⟨_, e⟩ | ⟨vhv, n', rfl, e, hrh⟩
          · cases e
          · cases e
            obtain ⟨k1, rfl⟩ := asI_rep hrm hq
            obtain ⟨k2, rfl⟩ := asI_rep hrh hhi
            refine core q'.toNat _ p1 p2 p3 p4 (by omega) (by omega) ?_ (fun a' hr' hs' => ?_)
            · have h1 := blo q'.toNat p1 (by omega) .slice3C
              have h2 := run_bound (P := P) (k := k1) (n := q') (y := c) .slice3Acap (by omega) (by omega) w
              have h3 := run_bound (P := P) (k := k2) (n := q') (y := q'.toNat) .slice3B (by omega) (by omega) w
              simp only [Instr.sliceBounds]
              simp [h2, h3]
              exact bound_map (fun a => (a, q'.toNat, q'.toNat)) h1
            · exact .tight a' _ _ hr' (hs' (by have : 0 < q' := hp (0 < q') (by simp)
                                               omega))
theorem sliceB_run {t e : TypeId} {z : Nat} (hu : P.underlying t = some (.slice e)) (hs : szOf P e = some z) {v : Value} {k lo n : Nat} (hv : RepM g v (.sb k z lo n))
  {l h : Option M} {vl vh : Option Value}
  (hl : (vl = none ∧ l = none) ∨ ∃ y n, vl = some y ∧ l = some n ∧ RepM g y n) (hh : (vh = none ∧ h = none) ∨ ∃ y n, vh = some y ∧ h = some n ∧ RepM g y n)
  {m : M} {ps : List Prop} (hm : sliceB k z lo n l h = some (m, ps)) (hp : ∀ p ∈ ps, p) (w : World) :
  ∃ r, (Instr.sliceAt t v vl vh none).run P w = .ok r w ∧ RepM g r m := by
 unfold sliceB at hm
 split at hm
 case h_2 => cases hm
 rename_i a b hlo hhi
 simp only [Option.some.injEq, Prod.mk.injEq] at hm
 obtain ⟨rfl, rfl⟩ := hm
 have p1 : 0 ≤ a := hp _ (by simp)
 have p2 : a ≤ b := hp (a ≤ b) (by simp)
 have p3 : b ≤ (n : Int) := hp (b ≤ (n : Int)) (by simp)
 obtain ⟨ad, c, rfl, hnc, hnil⟩ := hv.sb_inv
 have hb : (Instr.sliceBounds true n c vl vh none).run P w = .ok (a.toNat, b.toNat, c) w := by
  rcases hh with ⟨rfl, rfl⟩ | ⟨v', n', rfl, rfl, hr'⟩
  ·simp at hhi
   subst hhi
   rcases hl with ⟨rfl, rfl⟩ | ⟨v', n', rfl, rfl, hr'⟩
   ·simp at hlo; subst hlo
    simp [Instr.sliceBounds]
   ·obtain ⟨k', rfl⟩ := asI_rep hr' hlo
    simp [Instr.sliceBounds, run_bound _ p1 (by omega : a ≤ (n : Int))]
  ·obtain ⟨kb, rfl⟩ := asI_rep hr' hhi
   rcases hl with ⟨rfl, rfl⟩ | ⟨v', n', rfl, rfl, hr'⟩
   ·simp at hlo; subst hlo
    simp [Instr.sliceBounds, run_bound _ (by omega : 0 ≤ b) (by omega : b ≤ (c : Int))]
   ·obtain ⟨k', rfl⟩ := asI_rep hr' hlo
    simp [Instr.sliceBounds, run_bound _ (by omega : 0 ≤ b) (by omega : b ≤ (c : Int)), run_bound _ p1 (by omega : a ≤ ((b.toNat : Nat) : Int))]
 refine ⟨.slice (if c = a.toNat then ad else ad.map (·.add (a.toNat * z))) (b.toNat - a.toNat) (c - a.toNat), by simp [Instr.sliceAt, Instr.slice, run_underlying hu, hb, run_sizeOf hs], ?_⟩
 generalize hva : Value.slice ad n c = v at hv
 cases hv with
 | sb b' o z c' k lo n hβ hc hn =>
  cases hva
  by_cases e : c' - lo = a.toNat
  ·rw [if_pos e]
   have e1 : b.toNat - a.toNat = 0 := by omega
   have e2 : c' - lo - a.toNat = 0 := by omega
   have e3 : lo + a.toNat = c' := by omega
   rw [e1, e2, e3]
   exact .sbe _ _ b' o z k c' hβ
  ·rw [if_neg e]
   have := RepM.sb b' o z c' k (lo + a.toNat) (b.toNat - a.toNat) hβ (by omega) (by omega)
   rw [show c' - (lo + a.toNat) = c' - lo - a.toNat by omega, show o + (lo + a.toNat) * z = o + lo * z + a.toNat * z by rw [Nat.add_mul]; omega] at this
   simpa [addr_add] using this
 | sbe a' q b' o z k lo hβ =>
  cases hva
  have e : a.toNat = 0 := by omega
  have e1 : b.toNat = 0 := by omega
  rw [e, e1]
  simpa using RepM.sbe a' q b' o z k lo hβ
 | sb0 z c k hβ =>
  cases hva
  have e : a.toNat = 0 := by omega
  have e1 : b.toNat = 0 := by omega
  rw [e, e1]
  simpa using RepM.sb0 z c k hβ
end
end Go.Bm
/- One operation: what touches nothing. -/
namespace Go.Bm
open Go.RowKit (Below)
section
variable {P : Program} {D0 : Dm} {w0 : World} {X : Foot} {DF : Env} {g : Gh} {st : St} {a : Act} {w : World}
theorem sliceS_run {t : TypeId} (hu : P.underlying t = some .string) {s : ByteArray} {lo hi : Option M} {vl vh : Option Value}
  (hl : (vl = none ∧ lo = none) ∨ ∃ y n, vl = some y ∧ lo = some n ∧ RepM g y n) (hh : (vh = none ∧ hi = none) ∨ ∃ y n, vh = some y ∧ hi = some n ∧ RepM g y n)
  {m : M} {ps : List Prop} (h : sliceS s lo hi = some (m, ps)) (hp : ∀ p ∈ ps, p) (w : World) :
  ∃ r, (Instr.sliceAt t (.string s) vl vh none).run P w = .ok r w ∧ RepM g r m := by
 unfold sliceS at h
 split at h
 case h_2 => cases h
 rename_i l r hlo hhi
 simp only [Option.some.injEq, Prod.mk.injEq] at h
 obtain ⟨rfl, rfl⟩ := h
 have p1 : 0 ≤ l := hp _ (by simp)
 have p2 : l ≤ r := hp (l ≤ r) (by simp)
 have p3 : r ≤ (s.size : Int) := hp (r ≤ (s.size : Int)) (by simp)
 refine ⟨.string (s.extract l.toNat r.toNat), ?_, .t _ _ (.s _ rfl)⟩
 have blo : ((match (generalizing := false) vl with | some v => Instr.sliceBound v r.toNat .sliceB | none => pure 0 : Sem Nat)).run P w = .ok l.toNat w := by
  rcases hl with ⟨rfl, rfl⟩ | ⟨v', n, rfl, rfl, hr'⟩
  ·simp at hlo; subst hlo; rfl
  ·obtain ⟨k, rfl⟩ := asI_rep hr' hlo
   exact run_bound .sliceB p1 (by omega) w
 have hb : (Instr.sliceBounds false s.size s.size vl vh none).run P w = .ok (l.toNat, r.toNat, s.size) w := by
  rcases hh with ⟨rfl, rfl⟩ | ⟨v', n, rfl, rfl, hr'⟩
  ·simp at hhi
   subst hhi
   simp only [Instr.sliceBounds]
   simp
   rw [Int.toNat_natCast] at blo
   exact bound_map (fun a => (a, s.size, s.size)) blo
  ·obtain ⟨k, rfl⟩ := asI_rep hr' hhi
   have h2 := run_bound (P := P) (k := k) (n := r) (y := s.size) .sliceAlen (by omega) (by omega) w
   simp only [Instr.sliceBounds]
   simp [h2]
   exact bound_map (fun a => (a, r.toNat, s.size)) blo
 simp [Instr.sliceAt, Instr.slice, run_underlying hu, hb]
theorem args1 {c : Call} {x : Operand} (h : c.args.toList = [x]) : c.args = #[x] := by
 rw [← Array.toArray_toList (xs := c.args), h]
theorem args2 {c : Call} {x y : Operand} (h : c.args.toList = [x, y]) : c.args = #[x, y] := by
 rw [← Array.toArray_toList (xs := c.args), h]
theorem types1 {c : Call} {x : TypeId} (h : c.argTypes.toList = [x]) : c.argTypes = #[x] := by
 rw [← Array.toArray_toList (xs := c.argTypes), h]
theorem types2 {c : Call} {x y : TypeId} (h : c.argTypes.toList = [x, y]) : c.argTypes = #[x, y] := by
 rw [← Array.toArray_toList (xs := c.argTypes), h]
theorem valSs_rep {g : Gh} : ∀ {cs : List M} {vs us : List Value}, RepL g us cs → valSs cs = some vs → us = vs
 | [], vs, us, h, hv => by simp [valSs] at hv; subst hv; exact h.nil_inv
 | c :: cs, vs, us, h, hv => by
  obtain ⟨u, r, rfl, hu, hr⟩ := h.cons_inv
  simp only [valSs] at hv
  split at hv
  ·rename_i x ys hx hys
   cases hv
   rw [valSs_rep hr hys]
   cases c <;> simp [valS] at hx
   rename_i t
   cases t <;> simp at hx
   subst hx
   rw [hu.s_inv]
  ·cases hv
theorem valM_rep {g : Gh} {m : M} {v u : Value} (h : RepM g u m) (hv : valM m = some v) : u = v := by
 cases m <;> simp [valM] at hv
 ·rename_i t
  cases t <;> simp at hv
  subst hv
  exact h.s_inv
 ·rename_i cs
  obtain ⟨vs, rfl, hr⟩ := h.agg_inv
  split at hv
  ·rename_i us hus
   cases hv
   rw [valSs_rep hr hus]
  ·cases hv
theorem vop_sim (h : FInv DF D0 w0 X g st a w) {o : Oper} {m : M} {ps : List Prop} (hv : vop P st.sg o.op = some (m, ps)) (hp : ∀ p ∈ ps, p) :
  ∃ v w', (execOp a.eval o).run P w = .ok (.value v) w' ∧ Near w w' ∧ RepM g v m := by
 obtain ⟨dst, op, type, pos, after, guard⟩ := o
 simp only at hv
 cases op <;> simp only [vop] at hv <;> try (cases hv; done)
 case move x =>
  split at hv
  ·rename_i m' he; cases hv; exact ⟨a.eval x, w, by simp [execOp], .inl rfl, ev_rep h he⟩
  ·cases hv
 case assign x =>
  split at hv
  ·rename_i m' he; cases hv; exact ⟨a.eval x, w, by simp [execOp], .inl rfl, ev_rep h he⟩
  ·cases hv
 case pick c x y =>
  split at hv
  ·rename_i b m1 m2 h1 h2 h3
   cases hv
   have hb := (ev_rep h h1).s_inv
   cases b with
   | true => exact ⟨a.eval x, w, by simp [execOp, hb, asBool], .inl rfl, ev_rep h h2⟩
   | false => exact ⟨a.eval y, w, by simp [execOp, hb, asBool], .inl rfl, ev_rep h h3⟩
  ·cases hv
 case build t parts =>
  split at hv
  ·rename_i z pl hz hpl
   split at hv
   ·rename_i cs hf
    cases hv
    unfold zeroM at hz
    split at hz
    ·rename_i i hi
     split at hz
     ·rename_i zv hzv
      obtain ⟨us, hus, hru⟩ := fill_run h parts.toList (ofConsts_rep g hz) hf
      refine ⟨.agg us.toArray, w, ?_, .inl rfl, .agg us cs hru.1 hru.2⟩
      have hb : P.built t (parts.map fun (i, x) => (i, a.eval x)).toList = some us.toArray := by
       unfold placesOf at hpl
       split at hpl
       ·rename_i fs hfs
        simp only [Program.built, hi, hfs, hzv, hpl]
        simpa using hus
       ·cases hpl
      have := run_build (P := P) w t (parts.map fun (i, x) => (i, a.eval x)) us.toArray hb
      simp [execOp, this]
     ·cases hz
    ·cases hz
   ·cases hv
  ·cases hv
 case load t x =>
  split at hv
  ·rename_i cs n he hn
   split at hv
   ·rename_i ds hc
    split at hv
    ·rename_i m' hm
     cases hv
     obtain ⟨u, hu, hr⟩ := loadC_run h.dw hn (ev_rep h he) hc hm
     exact ⟨u, w, by simp [execOp, hu], .inl rfl, hr⟩
    ·cases hv
   ·cases hv
  ·cases hv
 case nilCheck x =>
  split at hv
  ·rename_i k off he
   cases hv
   have hr := ev_rep h he
   obtain ⟨b, hb, _⟩ := hr.ptr_inv
   exact ⟨a.eval x, w, by simp [execOp, hb], .inl rfl, hr⟩
  ·rename_i k i off he
   cases hv
   have hr := ev_rep h he
   obtain ⟨b, o, z, c, hb, _⟩ := hr.pe_inv
   exact ⟨a.eval x, w, by simp [execOp, hb], .inl rfl, hr⟩
  ·rename_i cs he
   cases hv
   have hr := ev_rep h he
   obtain ⟨b, off, cell, hb, _⟩ := hr.cp_inv
   exact ⟨a.eval x, w, by simp [execOp, hb], .inl rfl, hr⟩
  ·rename_i f cs he
   cases hv
   have hr := ev_rep h he
   obtain ⟨vs, hb, _⟩ := hr.clo_inv
   exact ⟨a.eval x, w, by simp [execOp, hb], .inl rfl, hr⟩
  ·cases hv
 case binOp op t x y yt =>
  split at hv
  ·rename_i m1 m2 h1 h2
   obtain ⟨r, w', hr, hn, hrep⟩ := binM_run (ev_rep h h1) (ev_rep h h2) hv hp x y w
   exact ⟨r, w', by simp only [execOp, Sem.run_bind, hr, Result.andThen_ok]; rfl, hn, hrep⟩
  ·cases hv
 case unOp op t x =>
  split at hv
  ·rename_i m1 h1
   split at hv
   ·rename_i m2 h2
    cases hv
    obtain ⟨r, hr, hrep⟩ := unM_run (P := P) (ev_rep h h1) h2 w
    exact ⟨r, w, by simp [execOp, hr], .inl rfl, hrep⟩
   ·cases hv
  ·cases hv
 case convert s d x =>
  split at hv
  ·rename_i m1 h1
   split at hv
   ·rename_i m2 h2
    cases hv
    obtain ⟨r, hr, hrep⟩ := convM_run (P := P) (ev_rep h h1) h2 w
    exact ⟨r, w, by simp [execOp, hr], .inl rfl, hrep⟩
   ·cases hv
  ·cases hv
 case slice t x lo hi mx =>
  split at hv
  ·rename_i m1 l1 h1 q1 e1 e2 e3 e4
   have r1 := ev_rep h e1
   have r2 := optEv_rep h e2
   have r3 := optEv_rep h e3
   have r4 := optEv_rep h e4
   have conv : ∀ {x : Option Operand} {m : Option M}, ((x = none ∧ m = none) ∨ ∃ y n, x = some y ∧ m = some n ∧ RepM g (a.eval y) n) →
     ((x.map a.eval = none ∧ m = none) ∨ ∃ y n, x.map a.eval = some y ∧ m = some n ∧ RepM g y n) := by
    rintro x m (⟨rfl, rfl⟩ | ⟨y, n, rfl, rfl, hr⟩)
    ·exact .inl ⟨rfl, rfl⟩
    ·exact .inr ⟨_, _, rfl, rfl, hr⟩
   split at hv
   ·rename_i hu
    split at hv
    ·rename_i s _
     have hs := r1.s_inv
     have hmx : mx.map a.eval = none := by
      rcases conv r4 with ⟨h, _⟩ | ⟨_, _, _, h, _⟩
      ·exact h
      ·cases h
     obtain ⟨r, hr, hrep⟩ := sliceS_run hu (conv r2) (conv r3) hv hp w
     exact ⟨r, w, by simp only [execOp, hs, hmx, Sem.run_bind, hr, Result.andThen_ok]; rfl, .inl rfl, hrep⟩
    ·cases hv
   ·rename_i e hu
    split at hv
    ·rename_i z hz
     cases hb : Nat.beq z 0 with
     | true => rw [hb] at hv; cases hv
     | false =>
      rw [hb] at hv
      simp only [cond_false] at hv
      split at hv
      ·rename_i k z' lo n
       split at hv
       ·cases hzz : Nat.beq z z' with
        | false => rw [hzz] at hv; cases hv
        | true =>
         rw [hzz] at hv
         have := nbeq_t hzz
         subst this
         have hmx : mx.map a.eval = none := by
          rcases conv r4 with ⟨h, _⟩ | ⟨_, _, _, h, _⟩
          ·exact h
          ·cases h
         obtain ⟨r, hr, hrep⟩ := sliceB_run hu hz r1 (conv r2) (conv r3) hv hp w
         exact ⟨r, w, by simp only [execOp, hmx, Sem.run_bind, hr, Result.andThen_ok]; rfl, .inl rfl, hrep⟩
       ·cases hv
      ·split at hv
       ·rename_i xs hxs
        obtain ⟨r, hr, hrep⟩ := sliceL_run hu hz (Nat.pos_of_ne_zero (nbeq_f hb)) (slOf_rep r1 hxs) (conv r2) (conv r3) (conv r4) hv hp w
        exact ⟨r, w, by simp only [execOp, Sem.run_bind, hr, Result.andThen_ok]; rfl, .inl rfl, hrep⟩
       ·cases hv
    ·cases hv
   ·cases hv
  ·cases hv
 case makeInterface t x =>
  split at hv
  ·cases hv
  ·rename_i m1 d hni he hu
   split at hv
   ·rename_i v' hval
    cases hv
    have hr := ev_rep h he
    have hval' := valM_rep hr hval
    refine ⟨.iface t v', w, ?_, .inl rfl, .t _ _ (.s _ rfl)⟩
    cases d <;> first | (exact (hni _ rfl).elim) | simp [execOp, Instr.makeInterface, run_underlying hu, hval']
   ·cases hv
  ·cases hv
 case fieldAddr t x i =>
  split at hv
  ·rename_i k off o n ft he hf
   cases hb : Nat.beq n 0 with
   | true => rw [hb] at hv; cases hv
   | false =>
    rw [hb] at hv
    cases hv
    obtain ⟨b, hb', hβ⟩ := (ev_rep h he).ptr_inv
    have := run_fieldAt hf (nbeq_f hb) b off w
    exact ⟨_, w, by simp only [execOp, hb', Sem.run_bind, this, Result.andThen_ok]; rfl, .inl rfl, .ptr b k _ hβ⟩
  ·rename_i k j off o n ft he hf
   cases hb : Nat.beq n 0 with
   | true => rw [hb] at hv; cases hv
   | false =>
    rw [hb] at hv
    cases hv
    obtain ⟨b, ob, z, c, hb', hβ⟩ := (ev_rep h he).pe_inv
    have := run_fieldAt hf (nbeq_f hb) b (ob + (j * z + off)) w
    refine ⟨_, w, by simp only [execOp, hb', Sem.run_bind, this, Result.andThen_ok]; rfl, .inl rfl, ?_⟩
    have h2 := RepM.pe b ob z c k j (off + o) hβ
    rw [show ob + (j * z + (off + o)) = ob + (j * z + off) + o from by omega] at h2
    exact h2
  ·rename_i cs o n ft he hf
   cases hb : Nat.beq n 0 with
   | true => rw [hb] at hv; cases hv
   | false =>
    rw [hb] at hv
    cases hv
    obtain ⟨b, off, cell, hb', hD, hr⟩ := (ev_rep h he).cp_inv
    have := run_fieldAt hf (nbeq_f hb) b off w
    refine ⟨_, w, by simp only [execOp, hb', Sem.run_bind, this, Result.andThen_ok]; rfl, .inl rfl, .cp b _ _ (fun j => cell (o + j)) (fun j hj => ?_) (fun j c hc => ?_)⟩
    ·have := hD (o + j) (by rw [List.length_drop] at hj; omega)
     rw [show off + o + j = off + (o + j) from by omega]; exact this
    ·rw [List.getElem?_drop] at hc; exact hr _ c hc
  ·cases hv
 case field t x i =>
  split at hv
  ·rename_i cs o n ft he hf
   split at hv
   ·rename_i ds hc
    split at hv
    ·rename_i m' hm
     cases hv
     obtain ⟨vs, hb, hr⟩ := (ev_rep h he).agg_inv
     obtain ⟨v, hv, hrep⟩ := run_field hf hr hc hm w
     exact ⟨v, w, by simp only [execOp, hb, Sem.run_bind, hv, Result.andThen_ok]; rfl, .inl rfl, hrep⟩
    ·cases hv
   ·cases hv
  ·cases hv
 case index t x i =>
  split at hv
  ·rename_i s k n hu he hi
   cases hv
   have hs := (ev_rep h he).s_inv
   have hn := (ev_rep h hi).s_inv
   have p1 : 0 ≤ n := hp _ (by simp)
   have p2 : n < (s.size : Int) := hp (n < (s.size : Int)) (by simp)
   have hlt : n.toNat < s.data.toList.length := by
    have : s.data.toList.length = s.size := by rw [Array.length_toList]; rfl
    omega
   refine ⟨_, w, ?_, .inl rfl, .t _ _ (.s _ rfl)⟩
   have hget : s[n.toNat]? = some (s.data.toList.getD n.toNat 0) := by
    have h1 : n.toNat < s.size := by omega
    rw [getElem?_pos s n.toNat h1]
    have : s.data.toList.getD n.toNat 0 = s.data.toList[n.toNat] := by simp [List.getD, List.getElem?_eq_getElem hlt]
    rw [this]; simp; rfl
   simp [execOp, hs, hn, Instr.index, asIntOf, run_underlying hu, p1, hget]
  ·cases hv
 case extract x i =>
  split at hv
  ·rename_i vs he
   split at hv
   ·rename_i m' hm
    cases hv
    obtain ⟨us, hb, hr⟩ := (ev_rep h he).tup_inv
    obtain ⟨u, hu, hru⟩ := hr.get hm
    refine ⟨u, w, ?_, .inl rfl, hru⟩
    simp [execOp, hb, Instr.extract, hu]
   ·cases hv
  ·cases hv
 case call c =>
  split at hv
  ·rename_i x t hc hx ht
   split at hv
   ·rename_i m1 he
    split at hv
    ·rename_i r hl
     cases hv
     obtain ⟨u, hu, hr⟩ := lenM_run (P := P) (ev_rep h he) hl type w
     refine ⟨u, w, ?_, .inl rfl, hr⟩
     have ha := args1 hx
     have hty := types1 ht
     simp [execOp, resolve, hc, ha, invoke, builtin, hty, hu]
    ·cases hv
   ·cases hv
  ·cases hv
end
end Go.Bm
