import Derived.Test.YthgocpanlbmalaaGreatBmE
import Derived.LoopN
import Derived.Laws.BitsLemmas
import Derived.Laws.Externs
set_option linter.unusedVariables false
set_option linter.unusedSimpArgs false
/- The bookkeeping, done. -/
namespace Go.Bm
open Go.RowKit (Below)
section
variable {D0 : Dm} {w0 : World} {X : Foot} {DF : Env} {g : Gh} {st st' : St} {a : Act} {w : World}
theorem askA_n {ts : List (List T)} {k z lo n : Nat} (h : ∀ p ∈ askA ts.length (.sb k z lo n), p) (hlo : Nat.beq lo 0 = true) : n = ts.length := h _ (by simp [askA, hlo])
theorem RepT.none_left {D : Dm} (a : Nat) (q c : Nat) : RepT D (.slice (some ⟨a, q, none⟩) 0 c) (.sl []) :=
 .sl a q 0 c 0 [] (fun _ _ => undef) rfl ⟨Nat.zero_le _, Nat.zero_le _⟩ (fun i cs h => by simp at h) (fun i j h => by omega) (fun i j cs c h => by simp at h)
theorem comA_sim (h : FInv DF D0 w0 X g st a w) {k z : Nat} {xs : List (List M)} {ts : List (List T)} (hkr : k < RB) (hk : lookB st.bx k = some (.oa [] z xs)) (hno : noHs k st.bx = true) (hx : xs = rowsT ts)
  (hp1 : ∀ p ∈ askSg k (askA ts.length) st.sg, p) (hp2 : ∀ p ∈ askBx k (askA ts.length) (dropB k st.bx), p) :
  ∃ g', FInv DF D0 w0 X g' { st with sg := comSg k (comAf ts) st.sg, bx := comBx k (comAf ts) (dropB k st.bx) } a w := by
 subst hx
 obtain ⟨hd, hβ, hok⟩ := h.bx k _ hk
 have hnone : ∀ D' : Dm, (∃ ad c, hd = .s ad z c) → (∀ v lo n, RepM g v (.sb k z lo n) → lo = 0 → n = ts.length → RepT D' v (.sl ts)) → ∀ m v, (∃ o, m = .ptr k o) ∨ (∃ i o, m = .pe k i o) ∨ (∃ z lo n, m = .sb k z lo n ∧ ∀ p ∈ askA ts.length m, p) → RepM g v m → RepM ⟨D', g.β, g.φ⟩ v (comAf ts m) := by
  rintro D' ⟨ad, c, rfl⟩ hsl m v hor hr
  rcases hor with ⟨o, rfl⟩ | ⟨i, o, rfl⟩ | ⟨z', lo, n, rfl, hp⟩
  ·exact .any v
  ·exact .any v
  ·simp only [comAf]
   cases e : Nat.beq lo 0 with
   | false => exact .any v
   | true =>
    have hlo := nbeq_t e
    have hz : z' = z := by
     obtain ⟨ad', c', hb⟩ := hr.sb_head
     rw [hβ] at hb; cases hb; rfl
    subst hz
    exact .t v _ (hsl v lo n hr hlo (askA_n hp e))
 have hown : (∃ ad c, hd = .s ad z c) → (∀ v z xs, RepM g v (.own k z xs) → False) ∧ ∀ v, RepM g v (.mp k) → False := by
  rintro ⟨ad, c, rfl⟩
  exact ⟨(fun v z xs hr => by have := hr.own_inv.2; rw [hβ] at this; cases this), (fun v hr => by cases hr with | mp b _ hb => rw [hβ] at hb; cases hb)⟩
 have fin : ∀ D' : Dm, (∃ ad c, hd = .s ad z c) → g.D.le D' → D'.inW w → (∀ q o, lookB st.bx q = some o → q ≠ k → Keep g.D D' w w (g.φ q)) → (∀ b j u, D' b j = some u → D0 b j = some u ∨ w0.heap.size ≤ b ∨ X b) →
   (∀ v lo n, RepM g v (.sb k z lo n) → lo = 0 → n = ts.length → RepT D' v (.sl ts)) → ∃ g', FInv DF D0 w0 X g' { st with sg := comSg k (comAf ts) st.sg, bx := comBx k (comAf ts) (dropB k st.bx) } a w := by
  intro D' hs hD hin hkeep hdn hsl
  have := com_sim (ask := askA ts.length) (f := comAf ts) (D' := D') (B2 := []) (g' := ⟨D', g.β, g.φ⟩) h rfl hno hD hin hkeep hdn (fun q _ b hb => hb) (fun _ _ _ _ => rfl) (hown hs).1 (hown hs).2 (hnone D' hs hsl) hp1 hp2 (fun q o hq => by simp [lookB] at hq) ⟨_, hk⟩ (fun q o hq => by simp [lookB] at hq) (fun _ _ => rfl)
  exact ⟨_, this⟩
 rcases hok.els with ⟨c0, hx0, rfl, hF⟩ | ⟨a0, q0, hx0, rfl, hF⟩ | ⟨b, o, c, cur, cty, vs, A, rfl, hE, hh, hDb, hcs, h1c, h0, hcc, hAb, hcur, hF⟩
 ·have ht : ts = [] := by simpa [rowsT] using hx0
  subst ht
  refine fin g.D ⟨_, _, rfl⟩ (Dm.le_refl _) h.dw (fun _ _ _ _ => keep_refl _ _ _) h.dnew fun v lo n hr _ hn => ?_
  rcases hr.sb_form with ⟨b, o, c, hb, he, _⟩ | ⟨a', q, b, o, hb, he, _⟩ | ⟨c, hb, he, _⟩
  ·rw [hβ] at hb; cases hb
  ·rw [hβ] at hb; cases hb
  ·rw [he]; exact .nil
 ·have ht : ts = [] := by simpa [rowsT] using hx0
  subst ht
  refine fin g.D ⟨_, _, rfl⟩ (Dm.le_refl _) h.dw (fun _ _ _ _ => keep_refl _ _ _) h.dnew fun v lo n hr _ hn => ?_
  have hn0 : n = 0 := by simpa using hn
  subst hn0
  rcases hr.sb_form with ⟨b, o, c, hb, he, _⟩ | ⟨a', q, b, o, hb, he, _⟩ | ⟨c, hb, he, _⟩
  ·rw [he]; exact RepT.none_left _ _ _
  ·rw [he]; exact RepT.none_left _ _ _
  ·rw [he]; exact .nil
 ·have hbk : g.φ k b := (hF b).2 (.inl rfl)
  have hle : g.D.le (g.D.add b cur.toList) := Dm.add_le _ hDb
  refine fin (g.D.add b cur.toList) ⟨_, _, rfl⟩ hle (fun q j u hq => ?_) (fun q o' hq hqk x hx => ⟨rfl, fun j => ?_⟩) (fun q j u hq => ?_) fun v lo n hr hlo hn => ?_
  ·have hq' : (if q = b then cur.toList[j]? else g.D q j) = some u := hq
   split at hq'
   ·rename_i e; subst e; rw [cell_of_heap hh]; simpa using hq'
   ·exact h.dw q j u hq'
  ·have : x ≠ b := fun e => by subst e; exact hqk (h.sep q k o' _ x hq hk hx hbk)
   show (if x = b then _ else _) = _; rw [if_neg this]
  ·have hq' : (if q = b then cur.toList[j]? else g.D q j) = some u := hq
   split at hq'
   ·rename_i e; subst e; exact .inr (h.new k _ q hk hkr hbk)
   ·exact h.dnew q j u hq'
  ·subst hlo hn
   have hFl : Flat (g.D.add b cur.toList) vs ts z := by
    refine ⟨by rw [hE.len]; simp [rowsT], fun cs hc => ?_, fun i j cs x hi hj => ?_⟩
    ·obtain ⟨i, hi⟩ := List.mem_iff_getElem?.1 hc
     have : (rowsT ts)[i]? = some (cs.map M.t) := by unfold rowsT; rw [List.getElem?_map, hi]; rfl
     simpa using hE.el i _ this
    ·have h2 : (rowsT ts)[i]? = some (cs.map M.t) := by unfold rowsT; rw [List.getElem?_map, hi]; rfl
     have h3 : (cs.map M.t)[j]? = some (.t x) := by rw [List.getElem?_map, hj]; rfl
     have hjz : j < z := by
      have := hE.el i _ h2
      rw [← this, List.length_map]; exact (List.getElem?_eq_some_iff.1 hj).1
     have hlt : i * z + j < vs.length := by
      rw [hE.len]
      have hil := (List.getElem?_eq_some_iff.1 h2).1
      have : (i + 1) * z ≤ (rowsT ts).length * z := Nat.mul_le_mul_right z hil
      rw [Nat.add_mul] at this; omega
     have e := List.getElem?_eq_getElem hlt
     obtain ⟨hrep, _⟩ := (hE.rep i j _ _ _ h2 h3 e).cell rfl
     exact ⟨_, e, (hrep.t_inv : RepT g.D _ x).mono hle⟩
   have htl : ts.length ≤ c ∧ ts.length ≤ 274877906944 := by have := hcc; simp only [rowsT, List.length_map] at this; exact ⟨this.1, this.2.1⟩
   rcases hr.sb_form with ⟨b', o', c', hb', he, _⟩ | ⟨a', q, b', o', hb', he, hn0⟩ | ⟨c', hb', _⟩
   ·rw [hβ] at hb'; cases hb'
    rw [he, Nat.zero_mul, Nat.add_zero, Nat.sub_zero]
    refine RepT.of_flat hFl htl.1 htl.2 fun q u hq => ?_
    show (if b = b then _ else _) = _
    rw [if_pos rfl, Array.getElem?_toList]; exact hcur q u hq
   ·have : ts = [] := List.eq_nil_of_length_eq_zero hn0
    subst this
    rw [he]; exact RepT.none_left _ _ _
   ·rw [hβ] at hb'; cases hb'
mutual
theorem asks_nil (k : Nat) : ∀ m : M, asks k (fun _ => []) m = []
 | .any => rfl
 | .t _ => rfl
 | .tight _ => rfl
 | .cp _ => rfl
 | .own _ _ _ => rfl
 | .ptr _ _ => rfl
 | .pe _ _ _ => rfl
 | .mp _ => rfl
 | .os _ => rfl
 | .oa _ _ _ => rfl
 | .op _ _ => rfl
 | .om _ _ => rfl
 | .sb j _ _ _ => by simp only [asks]; cases Nat.beq j k <;> rfl
 | .agg cs => by simp only [asks]; exact askss_nil k cs
 | .clo _ cs => by simp only [asks]; exact askss_nil k cs
 | .tup cs => by simp only [asks]; exact askss_nil k cs
theorem askss_nil (k : Nat) : ∀ cs : List M, askss k (fun _ => []) cs = []
 | [] => rfl
 | c :: cs => by simp only [askss]; rw [asks_nil k c, askss_nil k cs]; rfl
end
theorem comS_sim (h : FInv DF D0 w0 X g st a w) {k : Nat} {cs : List M} {ts : List T} (hkr : k < RB) (hk : lookB st.bx k = some (.os cs)) (hno : noHs k st.bx = true) (hc : closeTs cs = some ts) :
  ∃ g', FInv DF D0 w0 X g' { st with sg := comSg k (comSf ts) st.sg, bx := comBx k (comSf ts) (dropB k st.bx) } a w := by
 obtain ⟨hd, hβ, hok⟩ := h.bx k _ hk
 generalize hφ : g.φ k = F at hok
 cases hok with
 | os b ty vs cs A F hl hh hDb hA hdis hF hr =>
  have hbk : g.φ k b := by rw [hφ]; exact (hF b).2 (.inl rfl)
  have hle : g.D.le (g.D.add b vs) := Dm.add_le _ hDb
  have hown : ∀ c ∈ cs, isOwned c = false := by
   intro c hcm
   have : ∀ (cs : List M) (ts : List T), closeTs cs = some ts → ∀ c ∈ cs, isOwned c = false := by
    intro cs
    induction cs with
    | nil => intro ts _ c hc; cases hc
    | cons x r ih =>
     intro ts ht c hc
     simp only [closeTs] at ht
     split at ht
     ·rename_i y ys hy hys
      rcases List.mem_cons.1 hc with rfl | hc
      ·cases c <;> first | rfl | (simp [closeT] at hy)
      ·exact ih ys hys c hc
     ·cases ht
   exact this cs ts hc c hcm
  have hrl : RepL g vs cs := ⟨hl, fun j v c hv hcj => ((hr j v c hv hcj).cell (hown c (List.mem_of_getElem? hcj))).1⟩
  obtain ⟨htl, hts⟩ := closeTs_rep hrl hc
  refine ⟨_, com_sim (ask := fun _ => []) (f := comSf ts) (D' := g.D.add b vs) (B2 := []) (g' := ⟨g.D.add b vs, g.β, g.φ⟩) h rfl hno hle (fun q j u hq => ?_) (fun q o' hq hqk x hx => ⟨rfl, fun j => ?_⟩) (fun q j u hq => ?_) (fun q _ b hb => hb) (fun _ _ _ _ => rfl)
   (fun v z xs hr => by have := hr.own_inv.2; rw [hβ] at this; cases this) (fun v hr => by cases hr with | mp b _ hb => rw [hβ] at hb; cases hb) (fun m v hor hr => ?_) ?_ ?_ (fun q o hq => by simp [lookB] at hq) ⟨_, hk⟩ (fun q o hq => by simp [lookB] at hq) (fun _ _ => rfl)⟩
  ·have hq' : (if q = b then vs[j]? else g.D q j) = some u := hq
   split at hq'
   ·rename_i e; subst e; rw [cell_of_heap hh]; simpa using hq'
   ·exact h.dw q j u hq'
  ·have : x ≠ b := fun e => by subst e; exact hqk (h.sep q k o' _ x hq hk hx hbk)
   show (if x = b then _ else _) = _; rw [if_neg this]
  ·have hq' : (if q = b then vs[j]? else g.D q j) = some u := hq
   split at hq'
   ·rename_i e; subst e; exact .inr (h.new k _ q hk hkr hbk)
   ·exact h.dnew q j u hq'
  ·rcases hor with ⟨o, rfl⟩ | ⟨i, o, rfl⟩ | ⟨z', lo, n, rfl, hp⟩
   ·obtain ⟨b', rfl, hb'⟩ := hr.ptr_inv
    rw [hβ] at hb'; cases hb'
    refine .cp b o (ts.drop o) (fun j => vs.getD (o + j) undef) (fun j hj => ?_) (fun j x hx => ?_)
    ·rw [List.length_drop] at hj
     have hlt : o + j < vs.length := by omega
     show (if b = b then vs[o + j]? else _) = _
     rw [if_pos rfl]; simp [List.getD, List.getElem?_eq_getElem hlt]
    ·rw [List.getElem?_drop] at hx
     have hlt : o + j < vs.length := by rw [htl]; exact (List.getElem?_eq_some_iff.1 hx).1
     have := hts (o + j) _ x (List.getElem?_eq_getElem hlt) hx
     simpa [List.getD, List.getElem?_eq_getElem hlt] using this.mono hle
   ·exact .any v
   ·exact .any v
  ·have : ∀ sg : List (Nat × M), ∀ p ∈ askSg k (fun _ => []) sg, p := by
    intro sg
    induction sg with
    | nil => intro p hp; cases hp
    | cons x r ih =>
     intro p hp
     simp only [askSg, List.mem_append] at hp
     rcases hp with hp | hp
     ·exact absurd hp (by rw [asks_nil]; simp)
     ·exact ih p hp
   exact this st.sg
  ·have : ∀ bx : List (Nat × M), ∀ p ∈ askBx k (fun _ => []) bx, p := by
    intro bx
    induction bx with
    | nil => intro p hp; cases hp
    | cons x r ih =>
     intro p hp
     obtain ⟨j, m⟩ := x
     simp only [askBx, List.mem_append] at hp
     rcases hp with hp | hp
     ·cases m <;> first | (cases hp; done) | (simp only [askss_nil] at hp; cases hp)
     ·exact ih p hp
   exact this _
theorem FInv.forget (h : FInv DF D0 w0 X g st a w) {j : Nat} (hf : FreeP st j) : FInv DF D0 w0 X ⟨g.D, fun q => if q = j then none else g.β q, g.φ⟩ st a w := by
 have hβ : ∀ q, q ≠ j → ∀ b, g.β q = some b → (⟨g.D, fun q => if q = j then none else g.β q, g.φ⟩ : Gh).β q = some b := fun q hq b hb => by show (if q = j then _ else _) = _; rw [if_neg hq]; exact hb
 refine { bx := fun k o hk => ?_, sep := h.sep, dw := h.dw, n := h.n, sg := fun t => (h.sg t).turn (g := g) (g' := ⟨g.D, fun q => if q = j then none else g.β q, g.φ⟩) (Dm.le_refl g.D) fun k hk b hb => hβ k (fun e => by subst e; rw [hf.s t] at hk; cases hk) b hb, new := h.new, d0 := h.d0, dnew := h.dnew, below := h.below, df := h.df, lb := fun k hk => by show (if k = j then _ else _) = _; rw [if_neg (by have := hf.lt; omega)]; exact h.lb k hk }
 obtain ⟨hd, h1, h2⟩ := h.bx k o hk
 have hkj : k ≠ j := fun e => by subst e; rw [hf.b] at hk; cases hk
 exact ⟨hd, hβ k hkj _ h1, h2.keep (g' := ⟨g.D, fun q => if q = j then none else g.β q, g.φ⟩) (Dm.le_refl _) (fun q hq b hb => hβ q (fun e => by subst e; rw [hf.x k o hk] at hq; cases hq) b hb) (keep_refl _ _ _)⟩
theorem front_sim0 (h : FInv DF D0 w0 X g st a w) {k d j z : Nat} (hj0 : g.β j = none) {hs : List Nat} {xs : List (List M)} (hf : FreeP st j) (hrb : Nat.ble RB j || Nat.blt k RB) (hjk : j ≠ k) (hk : lookB st.bx k = some (.oa hs z xs)) (hno : noHs k st.bx = true) (hd : d ≤ xs.length)
  (hp1 : ∀ p ∈ askSg k (askF d) st.sg, p) (hp2 : ∀ p ∈ askBx k (askF d) (dropB k st.bx), p) :
  ∃ g', FInv DF D0 w0 X g' { st with sg := comSg k (frontf j) st.sg, bx := (j, .oa hs z (xs.drop d)) :: comBx k (frontf j) (dropB k st.bx) } a w := by
 obtain ⟨hd0, hβ, hok⟩ := h.bx k _ hk
 have hhs := (noHs_look hno k _ hk).1 hs z xs rfl
 have hhj : ∀ q, memN q hs = true → q ≠ j := fun q hq e => by
  subst e
  have := hf.x k _ hk
  simp only [boxH] at this
  rw [hq] at this; cases this
 have fin : ∀ (hd' : Hd) (F' : Foot), (∃ ad c, hd0 = .s ad z c) → (∀ x, F' x → g.φ k x) → BoxOk (⟨g.D, fun q => if q = j then some hd' else g.β q, fun q => if q = j then F' else g.φ q⟩ : Gh) w (.oa hs z (xs.drop d)) hd' F' →
   (∀ v n (g' : Gh), RepM g v (.sb k z d n) → g'.β j = some hd' → RepM g' v (.sb j z 0 n)) → ∃ g', FInv DF D0 w0 X g' { st with sg := comSg k (frontf j) st.sg, bx := (j, .oa hs z (xs.drop d)) :: comBx k (frontf j) (dropB k st.bx) } a w := by
  rintro hd' F' ⟨ad, c, rfl⟩ hF' hbox hsl
  let g' : Gh := ⟨g.D, fun q => if q = j then some hd' else g.β q, fun q => if q = j then F' else g.φ q⟩
  have ej : g'.φ j = F' := by show (if j = j then _ else _) = _; rw [if_pos rfl]
  have hlk : ∀ q o, lookB [(j, M.oa hs z (xs.drop d))] q = some o → q = j ∧ o = .oa hs z (xs.drop d) := fun q o hq => by
   simp only [lookB] at hq
   cases e : Nat.beq j q with
   | false => rw [e] at hq; cases hq
   | true => rw [e] at hq; cases hq; exact ⟨(nbeq_t e).symm, rfl⟩
  have := com_sim (ask := askF d) (f := frontf j) (D' := g.D) (B2 := [(j, .oa hs z (xs.drop d))]) (g' := g') h rfl hno (Dm.le_refl _) h.dw (fun _ _ _ _ => keep_refl _ _ _) h.dnew (fun q _ b hb => ?_) (fun q o hq hqk => ?_)
   (fun v z xs hr => by have := hr.own_inv.2; rw [hβ] at this; cases this) (fun v hr => by cases hr with | mp b _ hb => rw [hβ] at hb; cases hb) (fun m v hor hr => ?_) hp1 hp2 (fun q o hq => ?_) ⟨_, hk⟩ (fun q o hq => .inl (by rw [(hlk q o hq).1]; exact hf.b)) (fun q hq => by show (if q = j then _ else _) = _; rw [if_neg (by have := hf.lt; omega)])
  ·exact ⟨_, this⟩
  ·by_cases e : q = j
   ·subst e
    rw [hj0] at hb; cases hb
   ·show (if q = j then _ else _) = _; rw [if_neg e]; exact hb
  ·have : q ≠ j := fun e => by subst e; rw [hf.b] at hq; cases hq
   show (if q = j then _ else _) = _; rw [if_neg this]
  ·rcases hor with ⟨o, rfl⟩ | ⟨i, o, rfl⟩ | ⟨z', lo, n, rfl, hp⟩
   ·exact .any v
   ·exact .any v
   ·have hlo : lo = d := hp _ (by simp [askF])
    subst hlo
    have hz : z' = z := by
     obtain ⟨ad', c', hb⟩ := hr.sb_head
     rw [hβ] at hb; cases hb; rfl
    subst hz
    exact hsl v n g' hr (by show (if j = j then _ else _) = _; rw [if_pos rfl])
  ·obtain ⟨rfl, rfl⟩ := hlk q o hq
   refine ⟨⟨hd', by show (if q = q then _ else _) = _; rw [if_pos rfl], by rw [ej]; exact hbox⟩, fun x hx => hF' x (by rw [← ej]; exact hx), fun hq => ?_, fun q' o' hq' => (hlk q' o' hq').1.symm⟩
   simp only [Bool.or_eq_true] at hrb
   rcases hrb with h1 | h1
   ·have := Nat.le_of_ble_eq_true h1; omega
   ·exact Nat.le_of_ble_eq_true h1
 have gj : ∀ (hd' : Hd) (F' : Foot) q, q ≠ j → ∀ b, g.β q = some b → (⟨g.D, fun q => if q = j then some hd' else g.β q, fun q => if q = j then F' else g.φ q⟩ : Gh).β q = some b := fun hd' F' q hq b hb => by show (if q = j then _ else _) = _; rw [if_neg hq]; exact hb
 generalize hφ : g.φ k = F at hok fin
 cases hok with
 | oa0 z c hs F hF =>
  have hd0' : d = 0 := by simpa using hd
  subst hd0'
  exact fin (.s none z c) F ⟨_, _, rfl⟩ (fun _ h => h) (.oa0 z c hs F hF) fun v n g' hr hj => by
   rcases hr.sb_form with ⟨b, o, c, hb, he, _⟩ | ⟨a', q, b, o, hb, he, _⟩ | ⟨c, hb, he, _, hn⟩
   ·rw [hβ] at hb; cases hb
   ·rw [hβ] at hb; cases hb
   ·rw [he, hn]; exact .sb0 z _ j hj
 | oae b q z hs F hF =>
  have hd0' : d = 0 := by simpa using hd
  subst hd0'
  exact fin (.s (some (b, q)) z 0) F ⟨_, _, rfl⟩ (fun _ h => h) (.oae b q z hs F hF) fun v n g' hr hj => by
   rcases hr.sb_form with ⟨b', o, c, hb, he, hle⟩ | ⟨a', q', b', o, hb, he, hn⟩ | ⟨c, hb, he, _⟩
   ·rw [hβ] at hb; cases hb
    have : n = 0 := by omega
    subst this
    rw [he]; exact .sbe _ _ b q z j 0 hj
   ·rw [he, hn]; exact .sbe _ _ b q z j 0 hj
   ·rw [hβ] at hb; cases hb
 | oa b o c z hs' cur ty xs A F hb hdf hsz h1c h0 hc hz hA hdis hF hr =>
  have hxl : (xs.drop d).length = xs.length - d := List.length_drop
  refine fin (.s (some (b, o + d * z)) z (c - d)) (fun x => x = b ∨ ∃ i' c', A (i' + d) c' x) ⟨_, _, rfl⟩ (fun x hx => ?_) (.oa b (o + d * z) (c - d) z hs cur ty (xs.drop d) (fun i' c' => A (i' + d) c') _ hb hdf ?_ h1c h0 ⟨by omega, by omega, by omega⟩ (fun i cs hi => ?_) (fun i c' x hx => ?_) (fun i c1 i' c2 x hx hx' => ?_) (fun x => Iff.rfl) fun i c' cs cc v hi hcc hv => ?_) fun v n g' hr' hj => ?_
  ·rcases hx with hx | ⟨i, c', hx⟩
   ·exact (hF x).2 (.inl hx)
   ·exact (hF x).2 (.inr ⟨_, _, hx⟩)
  ·have : d * z + (c - d) * z = c * z := by rw [← Nat.add_mul]; congr 1; omega
   omega
  ·rw [List.getElem?_drop] at hi; exact hz _ cs hi
  ·have := hA _ _ x hx; rw [hxl]; omega
  ·have := hdis _ _ _ _ x hx hx'; omega
  ·rw [List.getElem?_drop] at hi
   have e : o + d * z + (i * z + c') = o + ((i + d) * z + c') := by rw [Nat.add_mul]; omega
   rw [e] at hv
   rw [Nat.add_comm d i] at hi
   refine (hr (i + d) c' cs cc v hi hcc hv).keep (g := g.only hs) (Dm.le_refl _) (fun q _ b' hb' => ?_) (keep_refl _ _ _)
   have hb2 : (if memN q hs = true then g.β q else none) = some b' := hb'
   split at hb2
   ·rename_i hm
    show (if memN q hs = true then (if q = j then _ else g.β q) else none) = _
    rw [if_pos hm, if_neg (hhj q hm)]; exact hb2
   ·cases hb2
  ·rcases hr'.sb_form with ⟨b', o', c', hb', he, hle⟩ | ⟨a', q', b', o', hb', he, hn⟩ | ⟨c', hb', _⟩
   ·rw [hβ] at hb'; cases hb'
    have := RepM.sb (g := g') b (o + d * z) z (c - d) j 0 n hj (by omega) (by
     have := hr'
     cases this with
     | sb _ _ _ _ _ _ _ _ _ hn => exact hn
     | sbe => exact Nat.zero_le _
     | sb0 => exact Nat.zero_le _)
    rw [he]
    simpa using this
   ·rw [hβ] at hb'; cases hb'
    rw [he, hn]
    have hcd : d - d = 0 := Nat.sub_self d
    rw [hcd] at hj
    exact .sbe _ _ b (o + d * z) z j 0 hj
   ·rw [hβ] at hb'; cases hb'
theorem front_sim (h : FInv DF D0 w0 X g st a w) {k d j z : Nat} {hs : List Nat} {xs : List (List M)} (hf : FreeP st j) (hrb : Nat.ble RB j || Nat.blt k RB) (hjk : j ≠ k) (hk : lookB st.bx k = some (.oa hs z xs)) (hno : noHs k st.bx = true) (hd : d ≤ xs.length)
  (hp1 : ∀ p ∈ askSg k (askF d) st.sg, p) (hp2 : ∀ p ∈ askBx k (askF d) (dropB k st.bx), p) :
  ∃ g', FInv DF D0 w0 X g' { st with sg := comSg k (frontf j) st.sg, bx := (j, .oa hs z (xs.drop d)) :: comBx k (frontf j) (dropB k st.bx) } a w :=
 front_sim0 (h.forget hf) (by show (if j = j then _ else _) = _; rw [if_pos rfl]) hf hrb hjk hk hno hd hp1 hp2
theorem drop_sim (h : FInv DF D0 w0 X g st a w) (k : Nat) : FInv DF D0 w0 X g { st with bx := dropB k st.bx } a w := by
 refine h.sub rfl (fun t => .inr rfl) fun q o hq => ?_
 have hq' : lookB (dropB k st.bx) q = some o := hq
 rw [dropB_look] at hq'
 split at hq'
 ·cases hq'
 ·exact hq'
theorem look_keep (sg : List (Nat × M)) : ∀ (L : List Nat) (t : Nat), look (L.map fun t => (t, look sg t)) t = .any ∨ look (L.map fun t => (t, look sg t)) t = look sg t
 | [], t => .inl rfl
 | x :: r, t => by
  simp only [List.map_cons, look]
  cases e : Nat.beq x t with
  | true => have := nbeq_t e; subst this; exact .inr rfl
  | false => simpa using look_keep sg r t
theorem keepB_look {bx : List (Nat × M)} : ∀ {B : List Nat} {k : Nat} {o : M}, lookB (keepB bx B) k = some o → lookB bx k = some o
 | [], k, o, h => by simp [keepB, lookB] at h
 | x :: r, k, o, h => by
  simp only [keepB] at h
  split at h
  ·rename_i o' ho
   simp only [lookB] at h
   cases e : Nat.beq x k with
   | true => rw [e] at h; cases h; have := nbeq_t e; subst this; exact ho
   | false => rw [e] at h; exact keepB_look h
  ·exact keepB_look h
theorem FInv.keep (h : FInv DF D0 w0 X g st a w) (L B : List Nat) : FInv DF D0 w0 X g (st.keep L B) a w :=
 h.sub rfl (look_keep st.sg L) fun _ _ hk => keepB_look hk
theorem tameT_sim (h : FInv DF D0 w0 X g st a w) {t : Nat} {x : T} (hx : closeT (look st.sg t) = some x) : FInv DF D0 w0 X g { st with sg := (t, .t x) :: st.sg } a w :=
  { toLInv := h.toLInv, n := h.n, sg := fun q => by
      simp only [look]
      cases e : Nat.beq t q with
      | true => have := nbeq_t e; subst this; exact .t _ _ (closeT_rep (h.sg t) hx)
      | false => exact h.sg q
    new := h.new, d0 := h.d0, dnew := h.dnew, below := h.below, df := h.df, lb := h.lb }
theorem gh1_sim (h : FInv DF D0 w0 X g st a w) {x : Gs} {ps : List Prop} (hs : gh1 st x = some (st', ps)) (hp : ∀ p ∈ ps, p) : ∃ g', FInv DF D0 w0 X g' st' a w := by
 cases x with
 | keep L B =>
  simp only [gh1, Option.some.injEq, Prod.mk.injEq] at hs
  obtain ⟨rfl, rfl⟩ := hs
  exact ⟨g, h.keep L B⟩
 | tameT t =>
  simp only [gh1] at hs
  split at hs
  ·rename_i x hx
   simp only [Option.some.injEq, Prod.mk.injEq] at hs
   obtain ⟨rfl, rfl⟩ := hs
   exact ⟨g, tameT_sim h hx⟩
  ·cases hs
 | openS k c j =>
  simp only [gh1] at hs
  cases hb : Nat.ble RB j || Nat.blt k RB with
  | false => rw [hb] at hs; cases hs
  | true =>
   rw [hb] at hs
   simp only [cond_true] at hs
   split at hs
   ·rename_i cs hk
    split at hs
    ·rename_i m hc
     cases ho : isOwned m with
     | false => rw [ho] at hs; cases hs
     | true =>
      rw [ho] at hs
      simp only [cond_true] at hs
      split at hs
      ·rename_i s he; cases hs; exact openS_sim h hb hk hc ho he
      ·cases hs
    ·cases hs
   ·cases hs
 | openE k i c j cs =>
  simp only [gh1] at hs
  cases hb : Nat.ble RB j || Nat.blt k RB with
  | false => rw [hb] at hs; cases hs
  | true =>
   rw [hb] at hs
   simp only [cond_true] at hs
   split at hs
   ·rename_i hs0 z xs hk
    split at hs
    ·rename_i m hc
     cases ho : isOwned m with
     | false => rw [ho] at hs; cases hs
     | true =>
      rw [ho] at hs
      simp only [cond_true] at hs
      split at hs
      ·rename_i s he; cases hs; exact openE_sim h hb hk (hp _ (by simp)) hc ho he
      ·cases hs
    ·cases hs
   ·cases hs
 | shutS k c j =>
  simp only [gh1] at hs
  cases hb : !Nat.beq k j && (Nat.ble RB k || Nat.blt j RB) with
  | false => rw [hb] at hs; cases hs
  | true =>
   rw [hb] at hs
   simp only [cond_true] at hs
   simp only [Bool.and_eq_true, Bool.not_eq_true'] at hb
   split at hs
   ·rename_i cs m hk hj
    split at hs
    ·rename_i hm hc
     split at hs
     ·rename_i qs hw
      split at hs
      ·rename_i s he; cases hs; exact shutS_sim h (nbeq_f hb.1) hb.2 hk hj hc hw hp he
      ·cases hs
     ·cases hs
    ·cases hs
   ·cases hs
 | shutE k i c j cs =>
  simp only [gh1] at hs
  cases hb : !Nat.beq k j && (Nat.ble RB k || Nat.blt j RB) with
  | false => rw [hb] at hs; cases hs
  | true =>
   rw [hb] at hs
   simp only [cond_true] at hs
   simp only [Bool.and_eq_true, Bool.not_eq_true'] at hb
   split at hs
   ·rename_i hs0 z xs m hk hj
    split at hs
    ·rename_i hm hc
     split at hs
     ·rename_i qs hw
      split at hs
      ·rename_i s he
       cases hs
       exact shutE_sim h (nbeq_f hb.1) hb.2 hk hj (hp (xs[i]? = some cs) (by simp)) hc hw (hp (∀ ds, ds ∈ xs.set i (cs.set c m) → hasHs j ds = false) (by simp)) (fun p hm => hp p (by simp [hm])) he
      ·cases hs
     ·cases hs
    ·cases hs
   ·cases hs
 | mv p q =>
  simp only [gh1] at hs
  cases hb : free st q && !Nat.beq p q && noHs p st.bx && (Nat.ble RB q || Nat.blt p RB) with
  | false => rw [hb] at hs; cases hs
  | true =>
   rw [hb] at hs
   simp only [cond_true, Option.some.injEq, Prod.mk.injEq] at hs
   obtain ⟨rfl, rfl⟩ := hs
   simp only [Bool.and_eq_true, Bool.not_eq_true'] at hb
   exact mv_sim h (free_P hb.1.1.1) (nbeq_f hb.1.1.2) hb.1.2 hb.2
 | armT t d z =>
  simp only [gh1] at hs
  split at hs
  ·rename_i xs ht
   split at hs
   ·rename_i s he; cases hs; exact armT_sim h ht he
   ·cases hs
  ·cases hs
 | armB k c d z =>
  simp only [gh1] at hs
  split at hs
  ·rename_i cs hk
   split at hs
   ·rename_i xs hc
    split at hs
    ·rename_i s he; cases hs; exact armB_sim h hk hc he
    ·cases hs
   ·cases hs
  ·cases hs
 | armOT t d z =>
  simp only [gh1] at hs
  split at hs
  ·rename_i ht
   split at hs
   ·rename_i s he; cases hs; exact armOT_sim h ht he
   ·cases hs
  ·cases hs
 | armO k c d z =>
  simp only [gh1] at hs
  split at hs
  ·rename_i cs hk
   split at hs
   ·rename_i hc
    split at hs
    ·rename_i s he; cases hs; exact armO_sim h hk hc he
    ·cases hs
   ·cases hs
  ·cases hs
 | tame k c =>
  simp only [gh1] at hs
  split at hs
  ·rename_i cs hk
   split at hs
   ·rename_i m hc
    split at hs
    ·rename_i x hx
     split at hs
     ·rename_i s he
      cases hs
      exact cell_sim h hk hc (by cases m <;> first | rfl | (simp [closeT] at hx)) (fun v hr => .t v x (closeT_rep hr hx)) he
     ·cases hs
    ·cases hs
   ·cases hs
  ·cases hs
 | comA k ts =>
  simp only [gh1] at hs
  cases hb : Nat.blt k RB with
  | false => rw [hb] at hs; cases hs
  | true =>
   rw [hb] at hs
   simp only [cond_true] at hs
   split at hs
   ·rename_i z xs hk
    cases hn : noHs k st.bx with
    | false => rw [hn] at hs; cases hs
    | true =>
     rw [hn] at hs
     simp only [cond_true, Option.some.injEq, Prod.mk.injEq] at hs
     obtain ⟨rfl, rfl⟩ := hs
     exact comA_sim h (Nat.le_of_ble_eq_true hb) hk hn (hp _ (by simp)) (fun p hm => hp p (by simp [hm])) (fun p hm => hp p (by simp [hm]))
   ·cases hs
 | comS k =>
  simp only [gh1] at hs
  cases hb : Nat.blt k RB with
  | false => rw [hb] at hs; cases hs
  | true =>
   rw [hb] at hs
   simp only [cond_true] at hs
   split at hs
   ·rename_i cs hk
    split at hs
    ·rename_i ts hc
     cases hn : noHs k st.bx with
     | false => rw [hn] at hs; cases hs
     | true =>
      rw [hn] at hs
      simp only [cond_true, Option.some.injEq, Prod.mk.injEq] at hs
      obtain ⟨rfl, rfl⟩ := hs
      exact comS_sim h (Nat.le_of_ble_eq_true hb) hk hn hc
    ·cases hs
   ·cases hs
 | front k d j =>
  simp only [gh1] at hs
  cases hb : free st j && noHs k st.bx && (Nat.ble RB j || Nat.blt k RB) && !Nat.beq j k with
  | false => rw [hb] at hs; cases hs
  | true =>
   rw [hb] at hs
   simp only [cond_true] at hs
   simp only [Bool.and_eq_true, Bool.not_eq_true'] at hb
   split at hs
   ·rename_i hs0 z xs hk
    simp only [Option.some.injEq, Prod.mk.injEq] at hs
    obtain ⟨rfl, rfl⟩ := hs
    exact front_sim h (free_P hb.1.1.1) hb.1.2 (nbeq_f hb.2) hk hb.1.1.2 (hp _ (by simp)) (fun p hm => hp p (by simp [hm])) (fun p hm => hp p (by simp [hm]))
   ·cases hs
 | drop k =>
  simp only [gh1, Option.some.injEq, Prod.mk.injEq] at hs
  obtain ⟨rfl, rfl⟩ := hs
  exact ⟨g, drop_sim h k⟩
theorem ghs_sim : ∀ {l : List Gs} {g : Gh} {st st' : St} {ps : List Prop}, FInv DF D0 w0 X g st a w → ghs st l = some (st', ps) → (∀ p ∈ ps, p) → ∃ g', FInv DF D0 w0 X g' st' a w
 | [], g, st, st', ps, h, hs, _ => by simp [ghs] at hs; obtain ⟨rfl, rfl⟩ := hs; exact ⟨g, h⟩
 | x :: r, g, st, st', ps, h, hs, hp => by
  simp only [ghs] at hs
  split at hs
  ·rename_i s qs h1
   split at hs
   ·rename_i s' rs h2
    cases hs
    obtain ⟨g1, h3⟩ := gh1_sim h h1 (fun p hm => hp p (List.mem_append_left _ hm))
    exact ghs_sim h3 h2 (fun p hm => hp p (List.mem_append_right _ hm))
   ·cases hs
  ·cases hs
end
end Go.Bm
/- Code, and functions. -/
namespace Go.Bm
open Go.RowKit (Below)
section
variable {P : Program} {D0 : Dm} {w0 : World} {X : Foot} {DF : Env} {g : Gh} {st st' : St} {a : Act} {w : World}
theorem FInv.drew (h : FInv DF D0 w0 X g st a w) : FInv DF D0 w0 X g st a w.drew := by
  have hb := below_drew w
  exact { bx := fun k o hk => by
            obtain ⟨hd, h1, h2⟩ := h.bx k o hk
            exact ⟨hd, h1, h2.keep (Dm.le_refl _) (fun _ _ _ h => h) (keep_below h2.lt hb)⟩
          sep := h.sep, dw := Dm.inW_below h.dw hb, n := h.n, sg := h.sg, new := h.new, d0 := h.d0, dnew := h.dnew, below := h.below.next hb, df := h.df, lb := h.lb }
def W (P : Program) (c : Code) (st : St) (Φ : Exit → St → Prop) : Prop :=
 ∀ (DF : Env) (D0 : Dm) (w0 : World) (X : Foot) (g : Gh) (a : Act) (w : World), FInv DF D0 w0 X g st a w → ∀ Q : Exit → Act → World → Prop, (∀ e st' g' a' w', Φ e st' → FInv DF D0 w0 X g' st' a' w' → Q e a' w') → c.wp P Q a w
theorem W.mono {c : Code} {st : St} {Φ Ψ : Exit → St → Prop} (h : W P c st Φ) (hk : ∀ e s, Φ e s → Ψ e s) : W P c st Ψ :=
 fun DF D0 w0 X g a w hF Q hQ => h DF D0 w0 X g a w hF Q fun e s g' a' w' hs => hQ e s g' a' w' (hk e s hs)
theorem W.unkeep {c : Code} {st : St} {L B : List Nat} {Φ : Exit → St → Prop} (h : W P c (st.keep L B) Φ) : W P c st Φ :=
 fun DF D0 w0 X g a w hF Q hQ => h DF D0 w0 X g a w (hF.keep L B) Q hQ
theorem W.ghs {c : Code} {st st' : St} {l : List Gs} {ps : List Prop} {Φ : Exit → St → Prop} (hg : Go.Bm.ghs st l = some (st', ps)) (hp : ∀ p ∈ ps, p) (h : W P c st' Φ) : W P c st Φ :=
 fun DF D0 w0 X g a w hF Q hQ => by
  obtain ⟨g1, hF1⟩ := ghs_sim hF hg hp
  exact h DF D0 w0 X g1 a w hF1 Q hQ
theorem W.skip {st : St} {Φ : Exit → St → Prop} (h : Φ .normal st) : W P .skip st Φ := fun _ _ _ _ _ _ _ hF _ hQ => wp_skip (hQ _ _ _ _ _ h hF)
theorem W.exit {id : Nat} {st : St} {Φ : Exit → St → Prop} (h : Φ (.exit id) st) : W P (.exit id) st Φ := fun _ _ _ _ _ _ _ hF _ hQ => wp_exit (hQ _ _ _ _ _ h hF)
theorem W.ret {st : St} {Φ : Exit → St → Prop} (h : Φ .ret st) : W P .ret st Φ := fun _ _ _ _ _ _ _ hF _ hQ => wp_ret (hQ _ _ _ _ _ h hF)
theorem W.seq {x y : Code} {st : St} {Φ : Exit → St → Prop} (h : W P x st fun e s => (e = .normal ∧ W P y s Φ) ∨ (e ≠ .normal ∧ Φ e s)) : W P (.seq x y) st Φ := by
 intro DF D0 w0 X g a w hF Q hQ
 refine wp_seq (h DF D0 w0 X g a w hF _ fun e s g' a' w' hs hF' => ?_)
 rcases hs with ⟨rfl, hy⟩ | ⟨hne, hs⟩
 ·exact hy DF D0 w0 X g' a' w' hF' Q hQ
 ·cases e with
  | normal => exact absurd rfl hne
  | _ => exact hQ _ _ _ _ _ hs hF'
theorem W.cond {c : Operand} {x y : Code} {st : St} {b : Bool} {Φ : Exit → St → Prop} (hc : ev st.sg c = some (.t (.s (.bool b)))) (h : W P (bif b then x else y) st Φ) : W P (.cond c x y) st Φ := by
 intro DF D0 w0 X g a w hF Q hQ
 have he : a.eval c = .bool b := (ev_rep hF hc).s_inv
 refine wp_cond he ?_
 cases b with
 | false => exact h DF D0 w0 X g a w hF Q hQ
 | true => exact h DF D0 w0 X g a w hF Q hQ
theorem W.block {id : Nat} {x : Code} {st : St} {Φ : Exit → St → Prop} (h : W P x st fun e s => (e = .exit id ∧ Φ .normal s) ∨ (e ≠ .exit id ∧ Φ e s)) : W P (.block id x) st Φ := by
 intro DF D0 w0 X g a w hF Q hQ
 refine wp_block (h DF D0 w0 X g a w hF _ fun e s g' a' w' hs hF' => ?_)
 rcases hs with ⟨rfl, hs⟩ | ⟨hne, hs⟩
 ·simp only [Exit.inBlock, if_true]
  exact hQ _ _ _ _ _ hs hF'
 ·cases e with
  | exit j =>
   have : j ≠ id := fun e => hne (by rw [e])
   simp only [Exit.inBlock, this, if_false]
   exact hQ _ _ _ _ _ hs hF'
  | _ => exact hQ _ _ _ _ _ hs hF'
def Rounds (P : Program) (c : Code) (Φ : Exit → St → Prop) : Nat → St → Prop
 | 0, _ => False
 | n + 1, st => W P c st fun e s => (e = .normal ∧ Rounds P c Φ n s) ∨ (e ≠ .normal ∧ Φ e s)
theorem W.loop {c : Code} {Φ : Exit → St → Prop} : ∀ (n : Nat) {st : St}, Rounds P c Φ n st → W P (.loop c) st Φ := by
 intro n st h DF D0 w0 X g a w hF Q hQ
 refine wp_loop_rounds n ?_
 induction n generalizing st g a w with
 | zero => exact h.elim
 | succ n ih =>
  rw [rounds_succ]
  refine h DF D0 w0 X g a w hF _ fun e s g' a' w' hs hF' => ?_
  rcases hs with ⟨rfl, hr⟩ | ⟨hne, hs⟩
  ·exact ih hr g' a' w' hF'
  ·cases e with
   | normal => exact absurd rfl hne
   | _ => exact hQ _ _ _ _ _ hs hF'
abbrev Cs := List (FuncId × List M × List M × Oc × List Bk)
def CsOk (P : Program) (cs : Cs) : Prop := ∀ c ∈ cs, CallOk P c.1 c.2.1 c.2.2.1 c.2.2.2.1 c.2.2.2.2
def panicE (v : Value) : Exit := .panic [{ v := v, recovered := false }]
theorem W.region {id : Nat} {ops : Array Oper} {st : St} {os : List O} {r : Rs} {Φ : Exit → St → Prop} (h : many P ops.toList (List.range ops.size) st os = some r)
  (hp : ∀ p ∈ r.ps, p) (hc : CsOk P r.cs) (hk : r.stop = none → Φ .normal r.st) (hq : ∀ v, r.stop = some v → Φ (panicE v) r.st) : W P (.region id ops false) st Φ := by
 intro DF D0 w0 X g a w hF Q hQ
 refine wp_region ?_
 exact many_sim (P := P) (ops := ops.toList) _ hF h hp hc (fun e g' a' w' hF' => hQ _ _ _ _ _ (hk e) hF') (fun v e g' a' w' hF' => hQ _ _ _ _ _ (hq v e) hF')
theorem W.draw {id : Nat} {ops : Array Oper} {st : St} {oss : List (List O)} {R : RD} {Φ : Exit → St → Prop} (hm : P.follows .mixedOrders = true)
  (h : manyD P ops.toList st oss = some R) (hp : ∀ p ∈ R.ps, p) (hc : CsOk P R.cs) (hk : R.pn = none → Φ .normal (stOf ops.toList st R.er))
  (hq : ∀ p ep v, R.pn = some (p, ep) → ep.stop = some v → Φ (panicE v) ⟨st.n, [], ep.bx st.bx⟩) : W P (.region id ops true) st Φ := by
 intro DF D0 w0 X g a w hF Q hQ
 refine wp_region_any hm ?_
 have hD := manyD_spec h hp hc
 have := hD.sim (DF := DF) (D0 := D0) (w0 := w0) (X := X) (Q := Q) (fun e g' a' w' hF' => hQ _ _ _ _ _ (hk e) hF') (fun p ep v e1 e2 g' a' w' hF' => hQ _ _ _ _ _ (hq p ep v e1 e2) hF') ops.size (Array.replicate ops.size false) (g := g) (a := a) (w := w.drew)
  (by
   have : (List.range ops.toList.length).filter (fun i => (Array.replicate ops.size false).getD i false) = [] := List.filter_eq_nil_iff.2 fun i hi hm => by
    simp only [Array.getD_eq_getD_getElem?, Array.getElem?_replicate] at hm
    split at hm <;> cases hm
   rw [this]; simp) (by simp) (fun k hd => by
   exfalso
   unfold done at hd
   simp only [Array.getD_eq_getD_getElem?, Array.getElem?_replicate] at hd
   split at hd <;> cases hd) (by
   have : R.er.filter (fun q => (Array.replicate ops.size false).getD q.1 false) = [] := List.filter_eq_nil_iff.2 fun q hq hm => by
    simp only [Array.getD_eq_getD_getElem?, Array.getElem?_replicate] at hm
    split at hm <;> cases hm
   rw [this]; exact hF.drew)
 simpa using this
inductive Ev
 | reg (os : List O) (gs : List Gs) (L B : List Nat)
 | drw (oss : List (List O)) (gs : List Gs) (L B : List Nat)
 | bit (b : Bool)
 | bitK (b : Bool) (gs : List Gs) (L B : List Nat)
 | cut (e : Exit) (st : St)
structure Out where
 e : Exit
 st : St
 ev : List Ev
 cs : Cs
 ps : List Prop
def One (e : Exit) (s : St) : Exit → St → Prop := fun e' s' => e' = e ∧ s' = s
def run (P : Program) : Nat → Code → St → List Ev → Option Out
 | 0, _, _, _ => none
 | n + 1, c, st, es =>
  match c with
  | .skip => some ⟨.normal, st, es, [], []⟩
  | .region _ ops draw => match es with
   | .reg os gs L B :: r => match draw with
    | false => match many P ops.toList (List.range ops.size) st os with
     | some x => match x.os with
      | [] => match x.stop with
       | none => match ghs x.st gs with
        | some (s, qs) => some ⟨.normal, s.keep L B, r, x.cs, x.ps ++ qs⟩
        | none => none
       | some v => some ⟨panicE v, x.st.keep [] B, r, x.cs, x.ps⟩
      | _ => none
     | none => none
    | true => none
   | .drw oss gs L B :: r => match draw with
    | false => none
    | true => bif P.follows .mixedOrders then match manyD P ops.toList st oss with
      | some x => match x.pn with
       | none => match ghs (stOf ops.toList st x.er) gs with
        | some (s, qs) => some ⟨.normal, s.keep L B, r, x.cs, x.ps ++ qs⟩
        | none => none
       | some (_, ep) => match ep.stop with
        | some v => some ⟨panicE v, (⟨st.n, [], ep.bx st.bx⟩ : St).keep [] B, r, x.cs, x.ps⟩
        | none => none
      | none => none
     else none
   | _ => none
  | .seq a b => match run P n a st es with
   | some x => match x.e with
    | .normal => match run P n b x.st x.ev with
     | some y => some ⟨y.e, y.st, y.ev, x.cs ++ y.cs, x.ps ++ y.ps⟩
     | none => none
    | _ => some x
   | none => none
  | .cond c a b => match es with
   | .bit v :: r => match Go.Bm.ev st.sg c with
    | some (.t (.s (.bool u))) => match run P n (bif v then a else b) st r with
     | some x => some ⟨x.e, x.st, x.ev, x.cs, (u = v) :: x.ps⟩
     | none => none
    | _ => none
   | .bitK v gs L B :: r => match Go.Bm.ev st.sg c with
    | some (.t (.s (.bool u))) => match ghs st gs with
     | some (s, qs) => match run P n (bif v then a else b) (s.keep L B) r with
      | some x => some ⟨x.e, x.st, x.ev, x.cs, (u = v) :: (qs ++ x.ps)⟩
      | none => none
     | none => none
    | _ => none
   | .cut e s :: r => some ⟨e, s, r, [], [W P (.cond c a b) st (One e s)]⟩
   | _ => none
  | .block id a => match run P n a st es with
   | some x => match x.e with
    | .exit j => bif Nat.beq j id then some ⟨.normal, x.st, x.ev, x.cs, x.ps⟩ else some x
    | _ => some x
   | none => none
  | .loop a => match es with
   | .cut e s :: r => some ⟨e, s, r, [], [W P (.loop a) st (One e s)]⟩
   | _ => match run P n a st es with
    | some x => match x.e with
     | .normal => none
     | _ => some x
    | none => none
  | .exit id => some ⟨.exit id, st, es, [], []⟩
  | .ret => some ⟨.ret, st, es, [], []⟩
  | _ => none
theorem CsOk.left {cs ds : Cs} (h : CsOk P (cs ++ ds)) : CsOk P cs := fun c hm => h c (List.mem_append_left _ hm)
theorem CsOk.right {cs ds : Cs} (h : CsOk P (cs ++ ds)) : CsOk P ds := fun c hm => h c (List.mem_append_right _ hm)
theorem W.then {c : Code} {st s s' : St} {gs : List Gs} {qs : List Prop} {L B : List Nat} {e : Exit} (h : W P c st (One e s)) (hg : Go.Bm.ghs s gs = some (s', qs)) (hp : ∀ p ∈ qs, p) : W P c st (One e (s'.keep L B)) := by
 intro DF D0 w0 X g a w hF Q hQ
 refine h DF D0 w0 X g a w hF Q fun e' st' g' a' w' hs hF' => ?_
 obtain ⟨rfl, rfl⟩ := hs
 obtain ⟨g1, hF1⟩ := ghs_sim hF' hg hp
 exact hQ _ _ _ _ _ ⟨rfl, rfl⟩ (hF1.keep L B)
theorem W.less {c : Code} {st s : St} {L B : List Nat} {e : Exit} (h : W P c st (One e s)) : W P c st (One e (s.keep L B)) := h.then (gs := []) (qs := []) rfl (by simp)
theorem run_W : ∀ (n : Nat) {c : Code} {st : St} {es : List Ev} {x : Out}, run P n c st es = some x → (∀ p ∈ x.ps, p) → CsOk P x.cs → W P c st (One x.e x.st)
 | 0, _, _, _, _, h, _, _ => by cases h
 | n + 1, c, st, es, x, h, hp, hc => by
  unfold run at h
  cases c <;> simp only at h <;> try (cases h; done)
  case skip => cases h; exact W.skip ⟨rfl, rfl⟩
  case exit id => cases h; exact W.exit ⟨rfl, rfl⟩
  case ret => cases h; exact W.ret ⟨rfl, rfl⟩
  case region id ops draw =>
   split at h
   ·split at h
    ·split at h
     case h_2 => cases h
     rename_i y hm
     split at h
     case h_2 => cases h
     split at h
     ·rename_i hst
      split at h
      case h_2 => cases h
      rename_i s qs hg
      cases h
      exact (W.region (Φ := One .normal y.st) hm (fun p hm => hp p (List.mem_append_left _ hm)) hc (fun _ => ⟨rfl, rfl⟩) (fun v e => by rw [hst] at e; cases e)).then hg (fun p hm => hp p (List.mem_append_right _ hm))
     ·rename_i v hst
      cases h
      exact (W.region (Φ := One (panicE v) y.st) hm hp hc (fun e => by rw [hst] at e; cases e) (fun v' e => by rw [hst] at e; cases e; exact ⟨rfl, rfl⟩)).less
    ·cases h
   ·split at h
    ·cases h
    ·cases hb : P.follows .mixedOrders with
     | false => simp [hb] at h
     | true =>
      simp only [hb, cond_true] at h
      split at h
      case h_2 => cases h
      rename_i y hm
      split at h
      ·rename_i hpn
       split at h
       case h_2 => cases h
       rename_i s qs hg
       cases h
       exact (W.draw (Φ := One .normal (stOf ops.toList st y.er)) hb hm (fun p hm => hp p (List.mem_append_left _ hm)) hc (fun _ => ⟨rfl, rfl⟩) (fun p ep v e => by rw [hpn] at e; cases e)).then hg (fun p hm => hp p (List.mem_append_right _ hm))
      ·rename_i p ep hpn
       split at h
       case h_2 => cases h
       rename_i v hst
       cases h
       exact (W.draw (Φ := One (panicE v) ⟨st.n, [], ep.bx st.bx⟩) hb hm hp hc (fun e => by rw [hpn] at e; cases e) (fun p' ep' v' e e' => by rw [hpn] at e; cases e; rw [hst] at e'; cases e'; exact ⟨rfl, rfl⟩)).less
   ·cases h
  case seq a b =>
   split at h
   ·rename_i y hy
    split at h
    ·rename_i he
     split at h
     ·rename_i z hz
      cases h
      have h1 := run_W n hy (fun p hm => hp p (List.mem_append_left _ hm)) hc.left
      have h2 := run_W n hz (fun p hm => hp p (List.mem_append_right _ hm)) hc.right
      refine W.seq (h1.mono ?_)
      rintro e s ⟨rfl, rfl⟩
      exact .inl ⟨he, h2⟩
     ·cases h
    ·rename_i hne
     cases h
     refine W.seq ((run_W n hy hp hc).mono ?_)
     rintro e s ⟨rfl, rfl⟩
     exact .inr ⟨hne, rfl, rfl⟩
   ·cases h
  case cond c a b =>
   split at h
   ·rename_i v r
    split at h
    ·rename_i u hev
     split at h
     ·rename_i y hy
      cases h
      have huv : u = v := hp _ (by simp)
      subst huv
      have h1 : W P (bif u then a else b) st (One y.e y.st) := run_W n hy (fun p hm => hp p (List.mem_cons_of_mem _ hm)) hc
      exact W.cond hev h1
     ·cases h
    ·cases h
   ·rename_i v gs L B r
    split at h
    ·rename_i u hev
     split at h
     ·rename_i s qs hg
      split at h
      ·rename_i y hy
       cases h
       have huv : u = v := hp _ (by simp)
       subst huv
       have h1 : W P (bif u then a else b) (s.keep L B) (One y.e y.st) := run_W n hy (fun p hm => hp p (by simp [hm])) hc
       exact W.cond hev (W.ghs hg (fun p hm => hp p (by simp [hm])) h1.unkeep)
      ·cases h
     ·cases h
    ·cases h
   ·cases h
    exact hp _ (by simp)
   ·cases h
  case block id a =>
   split at h
   ·rename_i y hy
    split at h
    ·rename_i j he
     cases hj : Nat.beq j id with
     | true =>
      simp only [hj, cond_true, Option.some.injEq] at h
      subst h
      refine W.block ((run_W n hy hp hc).mono ?_)
      rintro e s ⟨rfl, rfl⟩
      exact .inl ⟨by rw [he, Nat.eq_of_beq_eq_true hj], rfl, rfl⟩
     | false =>
      simp only [hj, cond_false, Option.some.injEq] at h
      subst h
      refine W.block ((run_W n hy hp hc).mono ?_)
      rintro e s ⟨rfl, rfl⟩
      refine .inr ⟨?_, rfl, rfl⟩
      rw [he]
      intro e
      cases e
      simp at hj
    ·rename_i hne
     cases h
     refine W.block ((run_W n hy hp hc).mono ?_)
     rintro e s ⟨rfl, rfl⟩
     exact .inr ⟨hne id, rfl, rfl⟩
   ·cases h
  case loop a =>
   split at h
   ·cases h
    exact hp _ (by simp)
   ·split at h
    ·rename_i y hy
     split at h
     ·cases h
     ·rename_i hne
      cases h
      refine W.loop 1 ?_
      unfold Rounds
      refine (run_W n hy hp hc).mono ?_
      rintro e s ⟨rfl, rfl⟩
      exact .inr ⟨hne, rfl, rfl⟩
    ·cases h
end
end Go.Bm
/- What a function gives; a call, run. -/
namespace Go.Bm
open Go.RowKit (Below)
def hOf : M → Option Nat
 | .own k _ _ => some k
 | .ptr k _ => some k
 | .sb k _ _ _ => some k
 | .mp k => some k
 | _ => none
def leafM : M → M
 | .tight xs => .t (.sl xs)
 | .own _ _ xs => .t (.sl xs)
 | m => m
def give1 (bx : Nat → Option M) (m : M) : M × List Nat × List Prop :=
 match hOf m with
 | some k => bif Nat.blt k CB then match bx k with
   | some b => match whole k m b with
    | some ps => bif isOwned b then (b, [k], ps) else (leafM m, [], [])
    | none => (leafM m, [], [])
   | none => (leafM m, [], [])
  else (leafM m, [], [])
 | none => (leafM m, [], [])
mutual
def give (bx : Nat → Option M) : M → M × List Nat × List Prop
 | .agg cs => match gives bx cs with
  | (ds, ks, ps) => (.agg ds, ks, ps)
 | .tup cs => match gives bx cs with
  | (ds, ks, ps) => (.tup ds, ks, ps)
 | .any => (.any, [], [])
 | .t x => (.t x, [], [])
 | .tight xs => (.t (.sl xs), [], [])
 | .cp cs => (.cp cs, [], [])
 | .clo f cs => (.clo f cs, [], [])
 | .own k z xs => give1 bx (.own k z xs)
 | .ptr k o => give1 bx (.ptr k o)
 | .pe k i o => (.pe k i o, [], [])
 | .sb k z lo n => give1 bx (.sb k z lo n)
 | .mp k => give1 bx (.mp k)
 | .os cs => (.os cs, [], [])
 | .oa hs z xs => (.oa hs z xs, [], [])
 | .op z xs => (.op z xs, [], [])
 | .om hs es => (.om hs es, [], [])
def gives (bx : Nat → Option M) : List M → List M × List Nat × List Prop
 | [] => ([], [], [])
 | m :: r => match give bx m, gives bx r with
  | (x, ks, ps), (xs, js, qs) => (x :: xs, ks ++ js, ps ++ qs)
end
section
variable {P : Program} {g : Gh} {B : List (Nat × M)} {w : World}
theorem leafM_rep {v : Value} {m : M} (h : RepM g v m) : RepM g v (leafM m) := by
 cases m with
 | tight xs => exact .t v _ (h.tight_inv).choose_spec.choose_spec.2
 | own k z xs => exact .t v _ h.own_inv.1
 | _ => exact h
def Given (g : Gh) (B : List (Nat × M)) (ks : List Nat) (F : Foot) : Prop := ∀ x, F x → ∃ k ∈ ks, k < CB ∧ (∃ o, lookB B k = some o) ∧ g.φ k x
theorem leaf_given {v : Value} {m : M} (h : RepM g v m) (ks : List Nat) : ∃ F, RepR g w m v F ∧ Given g B ks F := ⟨fun _ => False, .leaf m v _ h (fun _ h => h), fun _ h => h.elim⟩
theorem give1_rep (hL : LInv g B w) {m r : M} {ks : List Nat} {ps : List Prop} {v : Value} (h : RepM g v m) (hg : give1 (lookB B) m = (r, ks, ps)) (hp : ∀ p ∈ ps, p) :
  ∃ F, RepR g w r v F ∧ Given g B ks F := by
 have lf : (leafM m, [], []) = (r, ks, ps) → ∃ F, RepR g w r v F ∧ Given g B ks F := fun e => by
  cases e; exact leaf_given (leafM_rep h) _
 unfold give1 at hg
 split at hg
 ·rename_i k hk
  cases hc : Nat.blt k CB with
  | false => rw [hc] at hg; exact lf hg
  | true =>
   rw [hc] at hg
   simp only [cond_true] at hg
   split at hg
   ·rename_i b hb
    split at hg
    ·rename_i qs hw
     cases ho : isOwned b with
     | false => rw [ho] at hg; exact lf hg
     | true =>
      rw [ho] at hg
      cases hg
      obtain ⟨hd, hβ, hbox⟩ := hL.bx k _ hb
      obtain ⟨F', hF, hown⟩ := whole_own hbox hβ h hw hp
      refine ⟨F', .own _ _ _ ho hown, fun x hx => ⟨k, by simp, by simpa using hc, ⟨_, hb⟩, hF x hx⟩⟩
    ·exact lf hg
   ·exact lf hg
 ·exact lf hg
mutual
theorem give_rep (hL : LInv g B w) : ∀ (m : M) {r : M} {ks : List Nat} {ps : List Prop} {v : Value}, RepM g v m → give (lookB B) m = (r, ks, ps) → ks.Nodup → (∀ p ∈ ps, p) →
  ∃ F, RepR g w r v F ∧ Given g B ks F
 | .agg cs, r, ks, ps, v, h, hg, hn, hp => by
  obtain ⟨vs, rfl, hl⟩ := h.agg_inv
  simp only [give] at hg
  cases e : gives (lookB B) cs with
  | mk ds x =>
   obtain ⟨js, qs⟩ := x
   rw [e] at hg; cases hg
   obtain ⟨A, h1, h2, h3, h4, h5⟩ := gives_rep hL cs hl e hn hp
   exact ⟨fun x => ∃ j, A j x, .agg vs ds A _ h1 h2 h3 (fun _ => Iff.rfl) h4, fun x ⟨j, hj⟩ => h5 j x hj⟩
 | .tup cs, r, ks, ps, v, h, hg, hn, hp => by
  obtain ⟨vs, rfl, hl⟩ := h.tup_inv
  simp only [give] at hg
  cases e : gives (lookB B) cs with
  | mk ds x =>
   obtain ⟨js, qs⟩ := x
   rw [e] at hg; cases hg
   obtain ⟨A, h1, h2, h3, h4, h5⟩ := gives_rep hL cs hl e hn hp
   exact ⟨fun x => ∃ j, A j x, .tup vs ds A _ h1 h2 h3 (fun _ => Iff.rfl) h4, fun x ⟨j, hj⟩ => h5 j x hj⟩
 | .any, r, ks, ps, v, h, hg, hn, hp => by simp only [give] at hg; cases hg; exact leaf_given h _
 | .t _, r, ks, ps, v, h, hg, hn, hp => by simp only [give] at hg; cases hg; exact leaf_given h _
 | .tight _, r, ks, ps, v, h, hg, hn, hp => by simp only [give] at hg; cases hg; exact leaf_given (leafM_rep h) _
 | .cp _, r, ks, ps, v, h, hg, hn, hp => by simp only [give] at hg; cases hg; exact leaf_given h _
 | .clo _ _, r, ks, ps, v, h, hg, hn, hp => by simp only [give] at hg; cases hg; exact leaf_given h _
 | .own _ _ _, r, ks, ps, v, h, hg, hn, hp => give1_rep hL h (by simpa only [give] using hg) hp
 | .ptr _ _, r, ks, ps, v, h, hg, hn, hp => give1_rep hL h (by simpa only [give] using hg) hp
 | .pe _ _ _, r, ks, ps, v, h, hg, hn, hp => by simp only [give] at hg; cases hg; exact leaf_given h _
 | .sb _ _ _ _, r, ks, ps, v, h, hg, hn, hp => give1_rep hL h (by simpa only [give] using hg) hp
 | .mp _, r, ks, ps, v, h, hg, hn, hp => give1_rep hL h (by simpa only [give] using hg) hp
 | .os _, r, ks, ps, v, h, hg, hn, hp => by cases h
 | .oa _ _ _, r, ks, ps, v, h, hg, hn, hp => by cases h
 | .op _ _, r, ks, ps, v, h, hg, hn, hp => by cases h
 | .om _ _, r, ks, ps, v, h, hg, hn, hp => by cases h
theorem gives_rep (hL : LInv g B w) : ∀ (cs : List M) {ds : List M} {ks : List Nat} {ps : List Prop} {vs : List Value}, RepL g vs cs → gives (lookB B) cs = (ds, ks, ps) → ks.Nodup → (∀ p ∈ ps, p) →
  ∃ A : Nat → Foot, vs.length = ds.length ∧ (∀ j x, A j x → j < ds.length) ∧ (∀ i j x, A i x → A j x → i = j) ∧
   (∀ (j : Nat) (v : Value) (c : M), vs[j]? = some v → ds[j]? = some c → RepR g w c v (A j)) ∧ ∀ j, Given g B ks (A j)
 | [], ds, ks, ps, vs, h, hg, hn, hp => by
  simp only [gives] at hg; cases hg
  exact ⟨fun _ _ => False, h.1, fun j x h => h.elim, fun i j x h => h.elim, fun j v c hv hc => by simp at hc, fun j x h => h.elim⟩
 | m :: cs, ds, ks, ps, vs, h, hg, hn, hp => by
  obtain ⟨v, vr, rfl, hv, hr⟩ := h.cons_inv
  simp only [gives] at hg
  cases e1 : give (lookB B) m with
  | mk x y =>
   obtain ⟨k1, p1⟩ := y
   cases e2 : gives (lookB B) cs with
   | mk xs y2 =>
    obtain ⟨k2, p2⟩ := y2
    rw [e1, e2] at hg
    cases hg
    rw [List.nodup_append] at hn
    obtain ⟨F, hF, hGF⟩ := give_rep hL m hv e1 hn.1 (fun p h => hp p (List.mem_append_left _ h))
    obtain ⟨A, h1, h2, h3, h4, h5⟩ := gives_rep hL cs hr e2 hn.2.1 (fun p h => hp p (List.mem_append_right _ h))
    have hd : ∀ j x, F x → A j x → False := fun j x hx hj => by
     obtain ⟨k, hk, _, ⟨o, ho⟩, hφ⟩ := hGF x hx
     obtain ⟨k', hk', _, ⟨o', ho'⟩, hφ'⟩ := h5 j x hj
     exact hn.2.2 k hk k' hk' (hL.sep k k' o o' x ho ho' hφ hφ')
    refine ⟨fun j => match j with | 0 => F | j + 1 => A j, by simp [h1], fun j x hj => ?_, fun i j x hi hj => ?_, fun j u c hu hc => ?_, fun j x hj => ?_⟩
    ·cases j with
     | zero => simp
     | succ j => simpa using h2 j x hj
    ·cases i <;> cases j
     ·rfl
     ·exact (hd _ x hi hj).elim
     ·exact (hd _ x hj hi).elim
     ·rw [h3 _ _ x hi hj]
    ·cases j with
     | zero => simp at hu hc; subst hu; subst hc; exact hF
     | succ j => exact h4 j u c (by simpa using hu) (by simpa using hc)
    ·cases j with
     | zero => obtain ⟨k, hk, r⟩ := hGF x hj; exact ⟨k, List.mem_append_left _ hk, r⟩
     | succ j => obtain ⟨k, hk, r⟩ := h5 j x hj; exact ⟨k, List.mem_append_right _ hk, r⟩
end
def resM (P : Program) (st : St) : List ResultVar → Option (List M)
 | [] => some []
 | .tmp t :: r => match resM P st r with
  | some ms => some (look st.sg t :: ms)
  | none => none
 | .cell a t :: r => match loadB P (lookB st.bx) t (look st.sg a) [], resM P st r with
  | some x, some ms => match x.ps with
   | [] => some (x.eff.val :: ms)
   | _ => none
  | _, _ => none
def tupM : List M → M
 | [m] => m
 | ms => .tup ms
def resF (a : Act) : ResultVar → Sem Value
 | .tmp t => pure (a.tmps.getD t undef)
 | .cell b t => do loadVar t (← asAddr (a.tmps.getD b undef))
variable {DF : Env} {D0 : Dm} {w0 : World} {X : Foot} {st : St} {a : Act}
theorem resM_run (hF : FInv DF D0 w0 X g st a w) : ∀ {rs : List ResultVar} {ms : List M}, resM P st rs = some ms →
  ∃ vs, Sem.run P (rs.mapM (resF a)) w = .ok vs w ∧ RepL g vs ms
 | [], ms, h => by
  simp [resM] at h
  subst h
  exact ⟨[], by simp [List.mapM_nil], RepL.nil g⟩
 | .tmp t :: r, ms, h => by
  unfold resM at h
  split at h
  ·rename_i ms' hr
   cases h
   obtain ⟨vs, h1, h2⟩ := resM_run hF hr
   refine ⟨a.tmps.getD t undef :: vs, ?_, RepL.cons (hF.sg t) h2⟩
   have h0 : (resF a (.tmp t)).run P w = .ok (a.tmps.getD t undef) w := rfl
   simp only [List.mapM_cons, Sem.run_bind, h0, Result.andThen_ok, h1]
   rfl
  ·cases h
 | .cell b t :: r, ms, h => by
  unfold resM at h
  split at h
  ·rename_i x ms' hm hr
   split at h
   ·rename_i hps
    cases h
    obtain ⟨vs, h1, h2⟩ := resM_run hF hr
    obtain ⟨u, hu, hrep, _⟩ := loadB_run hF.toLInv (hF.sg b) hm (by simp [hps])
    refine ⟨u :: vs, ?_, RepL.cons hrep h2⟩
    have h0 : (resF a (.cell b t)).run P w = .ok u w := by
     generalize hv : a.tmps.getD b undef = v at hu
     simp only [resF, hv]
     unfold Instr.loadAt Instr.sureAddr at hu
     split at hu
     ·exact hu
     ·simp [stuck, Sem.run] at hu
    simp only [List.mapM_cons, Sem.run_bind, h0, Result.andThen_ok, h1]
    rfl
   ·cases h
  ·cases h
theorem mapM_arr (rs : Array ResultVar) (a : Act) {vs : List Value} {w : World} (h : Sem.run P (rs.toList.mapM (resF a)) w = .ok vs w) : Sem.run P (rs.mapM (resF a)) w = .ok vs.toArray w := by
 rw [Array.mapM_eq_mapM_toList, map_eq_pure_bind, Sem.run_bind, h]
 rfl
theorem results_run (hF : FInv DF D0 w0 X g st a w) {fn : Func} {ms : List M} (h : resM P st fn.results.toList = some ms) :
  ∃ v, (results fn a.tmps).run P w = .ok v w ∧ RepM g v (tupM ms) := by
 obtain ⟨vs, h1, h2⟩ := resM_run hF h
 have h3 := mapM_arr fn.results a h1
 have h4 : results fn a.tmps = (fn.results.mapM (resF a) >>= fun vs => pure (if h : vs.size = 1 then vs[0] else .tuple vs)) := rfl
 rw [h4, Sem.run_bind, h3]
 simp only [Result.andThen_ok]
 refine ⟨_, rfl, ?_⟩
 obtain ⟨hl, hr⟩ := h2
 cases ms with
 | nil =>
  cases vs with
  | nil => exact .tup [] [] rfl (fun j v c hv => by simp at hv)
  | cons _ _ => simp at hl
 | cons m r =>
  cases vs with
  | nil => simp at hl
  | cons v vr =>
   cases r with
   | nil =>
    cases vr with
    | nil => simpa [tupM] using hr 0 v m rfl rfl
    | cons _ _ => simp at hl
   | cons m' r' =>
    have hne : ¬ (v :: vr).toArray.size = 1 := by simp at hl ⊢; intro e; simp [e] at hl
    rw [dif_neg hne]
    exact .tup (v :: vr) (m :: m' :: r') hl hr
theorem look_zip : ∀ (args : List M) (k t : Nat), look ((args.zipIdx k).map fun p => (p.2, p.1)) t = if k ≤ t then args.getD (t - k) .any else .any
 | [], k, t => by simp [look]
 | m :: r, k, t => by
  simp only [List.zipIdx_cons, List.map_cons, look]
  cases h : Nat.beq k t with
  | true =>
   have := Nat.eq_of_beq_eq_true h
   subst this
   simp
  | false =>
   have hne : k ≠ t := nbeq_f h
   rw [cond_false, look_zip r (k + 1) t]
   by_cases hk : k + 1 ≤ t
   ·have e : t - k = (t - (k + 1)) + 1 := by omega
    rw [if_pos hk, if_pos (by omega), e, List.getD_cons_succ]
   ·rw [if_neg hk, if_neg (by omega)]
def entry (fn : Func) (args : List M) (ks : List Bk) (ls : List M) : St :=
 ⟨args.length + (fn.ntmps - args.length), args.zipIdx.map fun p => (p.2, p.1), named ks ls⟩
theorem entry_inv {vs : List Value} {args ls : List M} {ks : List Bk} (hL : LInv g (named ks ls) w) (hR : RepL g vs args) (fn : Func) :
  FInv ⟨[], g.β⟩ g.D w (LX g ks ls) g (entry fn args ks ls) { tmps := vs.toArray ++ Array.replicate (fn.ntmps - vs.toArray.size) undef, defers := [] } w := by
 obtain ⟨hl, hr⟩ := hR
 refine { toLInv := hL, n := ?_, sg := fun t => ?_, new := fun k o b hk hr hφ => .inr ⟨k, o, hk, hr, hφ⟩, d0 := Dm.le_refl _, dnew := fun b j v h => .inl h, below := .refl _ _, df := rfl, lb := fun _ _ => rfl }
 ·simp [entry, hl]
 ·simp only [entry]
  rw [look_zip args 0 t]
  simp only [Nat.zero_le, if_true, Nat.sub_zero]
  by_cases ht : t < args.length
  ·have hv : t < vs.length := by omega
   have e1 : args.getD t .any = args[t] := by simp [List.getD, ht]
   have e2 : (vs.toArray ++ Array.replicate (fn.ntmps - vs.toArray.size) undef).getD t undef = vs[t] := by
    simp [Array.getD_eq_getD_getElem?, Array.getElem?_append, hv]
   rw [e1, e2]
   exact hr t _ _ (List.getElem?_eq_getElem hv) (List.getElem?_eq_getElem ht)
  ·have e1 : args.getD t .any = .any := by simp [List.getD, Nat.le_of_not_lt ht]
   rw [e1]
   exact .any _
def ends (bx : Nat → Option M) : Nat → List Bk → Option (List Bk)
 | _, [] => some []
 | i, k :: r => match ends bx (i + 1) r with
  | some bs => match k with
   | .same => some (.same :: bs)
   | .gone => some (.gone :: bs)
   | .is _ => match bx (CB + i) with
    | some m => some (.is m :: bs)
    | none => none
  | none => none
theorem ends_get {bx : Nat → Option M} : ∀ {ks bs : List Bk} {n : Nat}, ends bx n ks = some bs → (∀ i : Nat, nameOf ks i = nameOf bs i) ∧ ∀ (i : Nat) (m : M), bs[i]? = some (.is m) → bx (CB + (n + i)) = some m
 | [], bs, n, h => by simp [ends] at h; subst h; exact ⟨fun _ => rfl, fun i m h => by simp at h⟩
 | k :: r, bs, n, h => by
  simp only [ends] at h
  split at h
  ·rename_i bs' hb
   obtain ⟨ih1, ih2⟩ := ends_get hb
   have key : ∀ (k' : Bk), (∀ i : Nat, nameOf (k :: r) i = nameOf (k' :: bs') i) ↔ nameOf (k :: r) 0 = nameOf (k' :: bs') 0 := fun k' => by
    refine ⟨fun h => h 0, fun h i => ?_⟩
    cases i with
    | zero => exact h
    | succ i =>
     have := ih1 i
     unfold nameOf at this ⊢
     simp only [List.getElem?_cons_succ]
     cases h1 : r[i]? with
     | none => cases h2 : bs'[i]? with
      | none => rfl
      | some z => cases z <;> simp [h1, h2, CB, RB] at this ⊢ <;> omega
     | some y => cases h2 : bs'[i]? with
      | none => cases y <;> simp [h1, h2, CB, RB] at this ⊢ <;> omega
      | some z => cases y <;> cases z <;> simp [h1, h2, CB, RB] at this ⊢ <;> omega
   cases k with
   | same =>
    cases h
    refine ⟨(key .same).2 rfl, fun i m hm => ?_⟩
    cases i with
    | zero => simp at hm
    | succ i => rw [← ih2 i m (by simpa using hm)]; congr 1; omega
   | gone =>
    cases h
    refine ⟨(key .gone).2 rfl, fun i m hm => ?_⟩
    cases i with
    | zero => simp at hm
    | succ i => rw [← ih2 i m (by simpa using hm)]; congr 1; omega
   | is x =>
    simp only at h
    split at h
    ·rename_i y hy
     cases h
     refine ⟨(key (.is y)).2 rfl, fun i m hm => ?_⟩
     cases i with
     | zero => simp at hm; subst hm; exact hy
     | succ i => rw [← ih2 i m (by simpa using hm)]; congr 1; omega
    ·cases h
  ·cases h
theorem namedFrom_congr {ks bs : List Bk} (h : ∀ i : Nat, nameOf ks i = nameOf bs i) : ∀ (ls : List M) (n : Nat), namedFrom ks n ls = namedFrom bs n ls
 | [], n => rfl
 | m :: r, n => by simp only [namedFrom, h n, namedFrom_congr h r (n + 1)]
theorem named_congr {ks bs : List Bk} (h : ∀ i : Nat, nameOf ks i = nameOf bs i) (ls : List M) : named ks ls = named bs ls := namedFrom_congr h ls 0
structure Fo where
 oc : Oc
 bs : List Bk
 cs : Cs
 ps : List Prop
def panOf : Exit → Option Value
 | .panic [c] => bif c.recovered || c.goexit then none else some c.v
 | _ => none
def isEnd : Exit → Bool
 | .normal => true
 | .ret => true
 | _ => false
theorem panOf_some {e : Exit} {v : Value} (h : panOf e = some v) : e = panicE v := by
 unfold panOf at h
 split at h
 ·rename_i c
  obtain ⟨u, r, x⟩ := c
  cases r <;> cases x <;> simp at h
  rw [h]; rfl
 ·cases h
def close (P : Program) (x : Out) (rs : List ResultVar) (ks : List Bk) : Option Fo :=
 match x.ev with
 | [] => match ends (lookB x.st.bx) 0 ks with
  | some bs => match isEnd x.e with
   | true => match resM P x.st rs with
    | some ms => match give (lookB x.st.bx) (tupM ms) with
     | (r, js, qs) => bif distinct js then some ⟨.ret r, bs, x.cs, x.ps ++ qs⟩ else none
    | none => none
   | false => match panOf x.e with
    | some v => some ⟨.pan v, bs, x.cs, x.ps⟩
    | none => none
  | none => none
 | _ => none
def runF (P : Program) (n : Nat) (fn : Func) (args ls : List M) (ks : List Bk) (es : List Ev) : Option Fo :=
 match fn.body with
 | some c => bif Nat.ble ls.length 1000 then match run P n c (entry fn args ks ls) es with
  | some x => close P x fn.results.toList ks
  | none => none
  else none
 | none => none
theorem FInv.cameG {g0 : Gh} {ls : List M} {bs : List Bk} (hF : FInv ⟨[], g0.β⟩ g0.D w0 (LX g0 bs ls) g st a w) (hl : ls.length ≤ 1000) (hb : ∀ (i : Nat) (m : M), bs[i]? = some (.is m) → lookB st.bx (CB + i) = some m) :
  CameG g0 w0 ls bs g w where
 D := hF.d0
 inW := hF.dw
 β := hF.lb
 box := fun i m hm hi => hF.bx _ _ (hb i m hm)
 src := fun i m b hm hi hφ => hF.new _ _ b (hb i m hm) (by simp only [CB, RB]; omega) hφ
 dis := fun i i' m m' b h h' hi hi' hφ hφ' => by have := hF.sep _ _ _ _ b (hb i m h) (hb i' m' h') hφ hφ'; omega
 dnew := hF.dnew
 below := hF.below
theorem callOk_run {f : FuncId} {fn : Func} {args ls : List M} {ks : List Bk} {es : List Ev} {x : Fo} (n : Nat) (hf : P.funcs[f]? = some fn)
  (hn : (fn.name == "runtime.NumGoroutine") = false) (h : runF P n fn args ls ks es = some x) (hp : ∀ p ∈ x.ps, p) (hc : CsOk P x.cs) : CallOk P f args ls x.oc x.bs := by
 unfold runF at h
 split at h
 case h_2 => cases h
 rename_i c hb
 cases hll : Nat.ble ls.length 1000 with
 | false => simp [hll] at h
 | true =>
 simp only [hll, cond_true] at h
 split at h
 case h_2 => cases h
 rename_i y hy
 unfold close at h
 split at h
 case h_2 => cases h
 split at h
 case h_2 => cases h
 rename_i bs hbs
 obtain ⟨hnm, hget⟩ := ends_get hbs
 have hget' : ∀ (i : Nat) (m : M), bs[i]? = some (.is m) → lookB y.st.bx (CB + i) = some m := fun i m hm => by simpa using hget i m hm
 have hlen : ls.length ≤ 1000 := Nat.le_of_ble_eq_true hll
 split at h
 ·rename_i he
  split at h
  case h_2 => cases h
  rename_i ms hms
  cases hg : give (lookB y.st.bx) (tupM ms) with
  | mk r z =>
  obtain ⟨js, qs⟩ := z
  rw [hg] at h
  simp only at h
  cases hdj : distinct js with
  | false => simp [hdj] at h
  | true =>
  simp only [hdj, cond_true, Option.some.injEq] at h
  subst h
  intro g w vs hL hR
  left
  constructor
  ·have hn' : ¬ fn.name = "runtime.NumGoroutine" := by simpa using hn
   simp [callFunc, hf, hn', hb]
  ·refine calls_of_wp hf hb ?_
   rw [← named_congr hnm] at hL
   have hLX : LX g ks ls = LX g bs ls := by unfold LX; rw [named_congr hnm]
   have hI := entry_inv hL hR fn
   rw [hLX] at hI
   refine run_W n hy (fun p hm => hp p (List.mem_append_left _ hm)) hc _ _ w _ g _ w hI _ ?_
   rintro e st' g' a' w' ⟨rfl, rfl⟩ hF
   obtain ⟨v, hv, hrep⟩ := results_run hF hms
   obtain ⟨F, hRF, hGF⟩ := give_rep hF.toLInv _ hrep hg (distinct_nodup hdj) (fun p hm => hp p (List.mem_append_right _ hm))
   have came : a'.defers = [] ∧ ∃ v, (results fn a'.tmps).run P w' = .ok v w' ∧ Came g w ls bs (.ret r) (.returned v) w' := by
    refine ⟨hF.df, v, hv, g', hF.cameG hlen hget', v, F, rfl, hRF, fun b hb => ?_, fun i m b hm hi hb hφ => ?_⟩
    ·obtain ⟨k, _, hk, ⟨o, ho⟩, hφ⟩ := hGF b hb
     exact hF.new k o b ho (by simp only [CB, RB] at *; omega) hφ
    ·obtain ⟨k, _, hk, ⟨o, ho⟩, hφ'⟩ := hGF b hb
     have := hF.sep _ _ _ _ b ho (hget' i m hm) hφ' hφ
     omega
   unfold isEnd at he
   split at he
   ·rename_i h1; rw [h1]; exact came
   ·rename_i h1; rw [h1]; exact came
   ·cases he
 ·rename_i he
  split at h
  case h_2 => cases h
  rename_i v hv
  cases h
  intro g w vs hL hR
  left
  constructor
  ·have hn' : ¬ fn.name = "runtime.NumGoroutine" := by simpa using hn
   simp [callFunc, hf, hn', hb]
  ·refine calls_of_wp hf hb ?_
   rw [← named_congr hnm] at hL
   have hLX : LX g ks ls = LX g bs ls := by unfold LX; rw [named_congr hnm]
   have hI := entry_inv hL hR fn
   rw [hLX] at hI
   refine run_W n hy hp hc _ _ w _ g _ w hI _ ?_
   rintro e st' g' a' w' ⟨rfl, rfl⟩ hF
   rw [panOf_some hv]
   exact ⟨hF.df, g', hF.cameG hlen hget', rfl⟩
end
end Go.Bm
/- Values of the program's own kind; loops over a list; functions without a body here; small lemmas for printed texts. -/
namespace Go.Bm
open Go.RowKit (Below)
inductive V where
 | mk (k i : Int) (f : Option Nat) (s : ByteArray) (l : List V)
instance : Inhabited V := ⟨.mk 0 0 none ByteArray.empty []⟩
def V.k : V → Int | .mk k _ _ _ _ => k
def V.i : V → Int | .mk _ i _ _ _ => i
def V.f : V → Option Nat | .mk _ _ f _ _ => f
def V.s : V → ByteArray | .mk _ _ _ s _ => s
def V.l : V → List V | .mk _ _ _ _ l => l
mutual
def V.row : V → List T
 | .mk k i f s l => [.s (.int .i64 k), .s (.int .i64 i), .f f, .s (.string s), .sl (V.rows l)]
def V.rows : List V → List (List T)
 | [] => []
 | v :: r => v.row :: V.rows r
end
def V.cells (v : V) : List T := [.s (.int .i64 v.k), .s (.int .i64 v.i), .f v.f, .s (.string v.s), .sl (V.rows v.l)]
def V.m (v : V) : M := .agg [.t (.s (.int .i64 v.k)), .t (.s (.int .i64 v.i)), .t (.f v.f), .t (.s (.string v.s)), .t (.sl (V.rows v.l))]
theorem V.row_cells : ∀ v : V, v.row = v.cells
 | .mk _ _ _ _ _ => rfl
theorem V.rows_map : ∀ l : List V, V.rows l = l.map V.cells
 | [] => rfl
 | v :: r => by simp only [V.rows, List.map_cons, V.row_cells, V.rows_map r]
theorem V.rows_length (l : List V) : (V.rows l).length = l.length := by rw [V.rows_map]; simp
theorem V.rows_get (l : List V) (i : Nat) : (V.rows l)[i]? = l[i]?.map V.cells := by rw [V.rows_map]; simp
theorem V.rows_append (a b : List V) : V.rows (a ++ b) = V.rows a ++ V.rows b := by simp [V.rows_map]
theorem V.rows_snoc (l : List V) (x : V) : V.rows (l ++ [x]) = V.rows l ++ [x.cells] := by rw [V.rows_append]; simp only [V.rows, V.row_cells]
theorem V.rows_z (l : List V) : ∀ x, x ∈ V.rows l → x.length = 5 := by
 intro x hx
 rw [V.rows_map] at hx
 obtain ⟨v, _, rfl⟩ := List.mem_map.1 hx
 rfl
theorem V.rows_take (l : List V) (n : Nat) : (V.rows l).take n = V.rows (l.take n) := by simp [V.rows_map, List.map_take]
theorem V.rows_drop (l : List V) (n : Nat) : (V.rows l).drop n = V.rows (l.drop n) := by simp [V.rows_map, List.map_drop]
theorem V.size_mem {v x : V} (h : x ∈ v.l) : SizeOf.sizeOf x < SizeOf.sizeOf v := by
 cases v with
 | mk k i f s l =>
  have := List.sizeOf_lt_of_mem h
  simp only [V.l] at this
  simp only [V.mk.sizeOf_spec]
  omega
theorem V.induct {p : V → Prop} (h : ∀ v, (∀ x ∈ v.l, p x) → p v) (v : V) : p v := by
 have : ∀ n, ∀ v : V, SizeOf.sizeOf v < n → p v := by
  intro n
  induction n with
  | zero => intro v hv; omega
  | succ n ih =>
   intro v hv
   exact h v fun x hx => ih x (by have := V.size_mem hx; omega)
 exact this _ v (Nat.lt_succ_self _)
inductive ShortT : T → Prop
 | s (v : Value) : ShortT (.s v)
 | f (x : Option Nat) : ShortT (.f x)
 | sl (xs : List (List T)) (h : xs.length ≤ 274877906944) (hr : ∀ r ∈ xs, ∀ c ∈ r, ShortT c) : ShortT (.sl xs)
theorem RepT.short {D : Dm} {v : Value} {x : T} (h : RepT D v x) : ShortT x := by
 induction h with
 | s v h => exact .s v
 | f b => exact .f _
 | nan b h => exact .f _
 | nil => exact .sl [] (Nat.zero_le _) (fun r h => by cases h)
 | spot a => exact .sl [] (Nat.zero_le _) (fun r h => by cases h)
 | sl b off n cap z xs cell hn hc hz hd _ ih =>
  subst hn
  refine .sl xs hc.2 fun r hr c hc => ?_
  obtain ⟨i, hi⟩ := List.getElem?_of_mem hr
  obtain ⟨j, hj⟩ := List.getElem?_of_mem hc
  exact ih i j r c hi hj
mutual
def ShortM : M → Prop
 | .t x => ShortT x
 | .agg cs => ShortMs cs
 | .tight xs => ShortT (.sl xs)
 | .own _ _ xs => ShortT (.sl xs)
 | .clo _ cs => ShortMs cs
 | .tup cs => ShortMs cs
 | .cp cs => ∀ c ∈ cs, ShortT c
 | .any => True
 | .ptr _ _ => True
 | .pe _ _ _ => True
 | .sb _ _ _ n => n ≤ 274877906944
 | .mp _ => True
 | .os _ => True
 | .oa _ _ _ => True
 | .op _ _ => True
 | .om _ _ => True
def ShortMs : List M → Prop
 | [] => True
 | m :: r => ShortM m ∧ ShortMs r
end
mutual
theorem RepM.short {g : Gh} : ∀ {m : M} {v : Value}, RepM g v m → ShortM m
 | .t x, v, h => by simp only [ShortM]; exact h.t_inv.short
 | .agg cs, v, h => by
  obtain ⟨vs, _, hr⟩ := h.agg_inv
  simp only [ShortM]; exact RepL.short hr
 | .tight xs, v, h => by
  obtain ⟨a, n, _, hr⟩ := h.tight_inv
  simp only [ShortM]; exact hr.short
 | .own id z xs, v, h => by simp only [ShortM]; exact h.own_inv.1.short
 | .clo f cs, v, h => by
  obtain ⟨vs, _, hr⟩ := h.clo_inv
  simp only [ShortM]; exact RepL.short hr
 | .tup cs, v, h => by
  obtain ⟨vs, _, hr⟩ := h.tup_inv
  simp only [ShortM]; exact RepL.short hr
 | .cp cs, v, h => by
  obtain ⟨b, off, cell, _, _, hr⟩ := h.cp_inv
  simp only [ShortM]
  intro c hc
  obtain ⟨j, hj⟩ := List.getElem?_of_mem hc
  exact (hr j c hj).short
 | .sb k z lo n, v, h => by
  simp only [ShortM]
  cases h with
  | sb _ _ _ _ _ _ _ _ _ hn => exact hn
  | sbe => exact Nat.zero_le _
  | sb0 => exact Nat.zero_le _
 | .any, _, _ => by simp only [ShortM]
 | .ptr _ _, _, _ => by simp only [ShortM]
 | .pe _ _ _, _, _ => by simp only [ShortM]
 | .mp _, _, _ => by simp only [ShortM]
 | .os _, _, _ => by simp only [ShortM]
 | .oa _ _ _, _, _ => by simp only [ShortM]
 | .op _ _, _, _ => by simp only [ShortM]
 | .om _ _, _, _ => by simp only [ShortM]
theorem RepL.short {g : Gh} : ∀ {cs : List M} {vs : List Value}, RepL g vs cs → ShortMs cs
 | [], _, _ => by simp only [ShortMs]
 | m :: r, vs, h => by
  obtain ⟨v, vr, rfl, hv, hr⟩ := h.cons_inv
  simp only [ShortMs]
  exact ⟨RepM.short hv, RepL.short hr⟩
end
theorem CallOk.short {P : Program} {f : FuncId} {args ls : List M} {oc : Oc} {bs : List Bk} (h : ShortMs args → CallOk P f args ls oc bs) : CallOk P f args ls oc bs :=
 fun g w vs hL hR => h (RepL.short hR) g w vs hL hR
def V.Short (v : V) : Prop := ShortT (.sl (V.rows v.l))
theorem ShortT.len {l : List V} (h : ShortT (.sl (V.rows l))) : l.length ≤ 274877906944 := by
 cases h with
 | sl _ h _ => rw [V.rows_length] at h; exact h
theorem V.short_of {v : V} (h : ShortM v.m) : v.Short := by
 simp only [V.m, ShortM, ShortMs] at h
 exact h.2.2.2.2.1
inductive Rd (ρ σ : Type) where
 | next (s : σ)
 | out (s : σ)
 | ret (r : ρ)
def lp {α ρ σ : Type} (body : α → Nat → σ → Rd ρ σ) : List α → Nat → σ → ρ ⊕ (Nat × σ)
 | [], i, s => .inr (i, s)
 | x :: r, i, s => match body x i s with
  | .next s' => lp body r (i + 1) s'
  | .out s' => .inr (i, s')
  | .ret q => .inl q
def rdPost {ρ σ : Type} (st : Nat → σ → St) (ex : Nat → σ → St) (re : ρ → St) (e : Exit) (i : Nat) : Rd ρ σ → Exit → St → Prop
 | .next s => One .normal (st (i + 1) s)
 | .out s => One e (ex i s)
 | .ret r => One .ret (re r)
def lpPost {ρ σ : Type} (ex : Nat → σ → St) (re : ρ → St) (e : Exit) : ρ ⊕ (Nat × σ) → Exit → St → Prop
 | .inr s => One e (ex s.1 s.2)
 | .inl r => One .ret (re r)
theorem lp_rounds {P : Program} {α ρ σ : Type} {c : Code} {e : Exit} (he : e ≠ .normal) (L : List α) (st : Nat → σ → St) (ex : Nat → σ → St) (re : ρ → St) (body : α → Nat → σ → Rd ρ σ) (I : Nat → σ → Prop)
  (hn : ∀ s, I L.length s → W P c (st L.length s) (One e (ex L.length s)))
  (hc : ∀ i x s, L[i]? = some x → I i s → W P c (st i s) (rdPost st ex re e i (body x i s)))
  (hI : ∀ i x s s', L[i]? = some x → I i s → body x i s = .next s' → I (i + 1) s') :
  ∀ (R : List α) (i : Nat) (s : σ), L.drop i = R → i ≤ L.length → I i s → Rounds P c (lpPost ex re e (lp body R i s)) (R.length + 1) (st i s) := by
 intro R
 induction R with
 | nil =>
  intro i s hR hi hs
  have hl : i = L.length := by
   have := congrArg List.length hR
   simp only [List.length_drop, List.length_nil] at this
   omega
  subst hl
  refine (hn s hs).mono ?_
  rintro e' s' ⟨rfl, rfl⟩
  exact .inr ⟨he, rfl, rfl⟩
 | cons x R ih =>
  intro i s hR hi hs
  have hx : L[i]? = some x := by
   have := congrArg (fun l => l[0]?) hR
   simpa using this
  have hlt : i < L.length := (List.getElem?_eq_some_iff.1 hx).1
  have hR' : L.drop (i + 1) = R := by
   have : L.drop (i + 1) = (L.drop i).drop 1 := by rw [List.drop_drop]
   rw [this, hR]; rfl
  have h := hc i x s hx hs
  simp only [lp]
  cases hb : body x i s with
  | next s' =>
   rw [hb] at h
   refine h.mono ?_
   rintro e' st' ⟨rfl, rfl⟩
   exact .inl ⟨rfl, ih (i + 1) s' hR' hlt (hI i x s s' hx hs hb)⟩
  | out s' =>
   rw [hb] at h
   refine h.mono ?_
   rintro e' st' ⟨rfl, rfl⟩
   exact .inr ⟨he, rfl, rfl⟩
  | ret r =>
   rw [hb] at h
   refine h.mono ?_
   rintro e' st' ⟨rfl, rfl⟩
   exact .inr ⟨by simp, rfl, rfl⟩
theorem lp_W {P : Program} {α ρ σ : Type} {c : Code} {e : Exit} (he : e ≠ .normal) (L : List α) (st : Nat → σ → St) (ex : Nat → σ → St) (re : ρ → St) (body : α → Nat → σ → Rd ρ σ) (I : Nat → σ → Prop)
  (hn : ∀ s, I L.length s → W P c (st L.length s) (One e (ex L.length s)))
  (hc : ∀ i x s, L[i]? = some x → I i s → W P c (st i s) (rdPost st ex re e i (body x i s)))
  (hI : ∀ i x s s', L[i]? = some x → I i s → body x i s = .next s' → I (i + 1) s') (s : σ) (h0 : I 0 s) : W P (.loop c) (st 0 s) (lpPost ex re e (lp body L 0 s)) :=
 W.loop _ (lp_rounds he L st ex re body I hn hc hI L 0 s rfl (Nat.zero_le _) h0)
theorem wrap_succ {i n : Nat} (h : i < n) (hn : n ≤ 274877906944) : IntKind.i64.wrap ((i : Int) + 1) = ((i + 1 : Nat) : Int) := by
 rw [IntKind.wrap_i64]
 omega
def codeAt : Code → List Nat → Code
 | c, [] => c
 | .seq a _, 0 :: r => codeAt a r
 | .seq _ b, 1 :: r => codeAt b r
 | .cond _ a _, 0 :: r => codeAt a r
 | .cond _ _ b, 1 :: r => codeAt b r
 | .block _ a, 0 :: r => codeAt a r
 | .loop a, 0 :: r => codeAt a r
 | _, _ => .skip
def bodyAt (fn : Func) (p : List Nat) : Code :=
 match fn.body with
 | some c => codeAt c p
 | none => .skip
theorem W.of_run {P : Program} (n : Nat) {c : Code} {st : St} {es : List Ev} {e : Exit} {s : St} {cs : Cs} {ps : List Prop}
  (h : run P n c st es = some ⟨e, s, [], cs, ps⟩) (hp : ∀ p ∈ ps, p) (hc : CsOk P cs) : W P c st (One e s) := run_W n h hp hc
theorem callOk_extern {P : Program} {f : FuncId} {fn : Func} {e : Array Value → Sem Value} {args : List M} {r : M} (hf : P.funcs[f]? = some fn) (hname : (fn.name == "runtime.NumGoroutine") = false)
    (hb : fn.body.isNone = true) (hn : Extern.findNext fn = none) (he : Extern.find fn = some e)
    (h : ∀ (g : Gh) (w : World) (vs : List Value), RepL g vs args → ∃ v, (e vs.toArray).run P w = .ok v w ∧ RepM g v r) : CallOk P f args [] (.ret r) [] := by
  intro g w vs hL hR
  obtain ⟨v, hv, hr⟩ := h g w vs hR
  refine .inr ⟨v, w, ?_, g, ?_, v, fun _ => False, rfl, .leaf _ _ _ hr (fun _ h => h), fun b h => h.elim, fun i m b hm => by simp at hm⟩
  · rw [run_callFunc_extern hf hname hb hn he, hv]
    rfl
  · exact { D := Dm.le_refl _, inW := hL.dw, β := fun _ _ => rfl, box := fun i m hm => by simp at hm, src := fun i m b hm => by simp at hm, dis := fun i i' m m' b hm => by simp at hm,
            dnew := fun b j u h => .inl h, below := .refl _ _ }
theorem f64bits_ok {P : Program} (b : Nat) (g : Gh) (w : World) (vs : List Value) (h : RepL g vs [.t (.f (some b))]) :
  ∃ v, (Extern.MathFloatBits.float64bits vs.toArray).run P w = .ok v w ∧ RepM g v (.t (.s (.int .u64 b))) := by
 obtain ⟨v, r, rfl, hv, hr⟩ := h.cons_inv
 have := hr.nil_inv
 subst this
 obtain ⟨b', rfl, hb⟩ := hv.t_inv.f_inv
 rcases hb with hb | ⟨hb, _⟩
 ·cases hb
  exact ⟨_, rfl, .t _ _ (.s _ rfl)⟩
 ·cases hb
theorem f64frombits_ok {P : Program} (n : Int) (g : Gh) (w : World) (vs : List Value) (h : RepL g vs [.t (.s (.int .u64 n))]) :
  ∃ v, (Extern.MathFloatBits.float64frombits vs.toArray).run P w = .ok v w ∧ RepM g v (.t (.f (some n.toNat))) := by
 obtain ⟨v, r, rfl, hv, hr⟩ := h.cons_inv
 have := hr.nil_inv
 subst this
 obtain rfl := hv.s_inv
 exact ⟨_, rfl, .t _ _ (.f _)⟩
theorem cmpstr_ok {P : Program} (a b : ByteArray) (g : Gh) (w : World) (vs : List Value) (h : RepL g vs [.t (.s (.string a)), .t (.s (.string b))]) :
  ∃ v, (Extern.BytealgCompare.compare vs.toArray).run P w = .ok v w ∧ RepM g v (.t (.s (.int .i64 (Extern.BytealgCompare.cmp a b)))) := by
 obtain ⟨v, r, rfl, hv, hr⟩ := h.cons_inv
 obtain ⟨v', r', rfl, hv', hr'⟩ := hr.cons_inv
 have := hr'.nil_inv
 subst this
 obtain rfl := hv.s_inv
 obtain rfl := hv'.s_inv
 exact ⟨_, rfl, .t _ _ (.s _ rfl)⟩
theorem ps_nil : ∀ p ∈ ([] : List Prop), p := fun _ h => by cases h
theorem ps_cons {q : Prop} {r : List Prop} (h : q) (k : ∀ p ∈ r, p) : ∀ p ∈ q :: r, p := fun p hp => by
 rcases List.mem_cons.1 hp with rfl | hp
 ·exact h
 ·exact k p hp
theorem cs_nil {P : Program} : CsOk P [] := fun _ h => by cases h
theorem cs_cons {P : Program} {f : FuncId} {xs ls : List M} {oc : Oc} {bs : List Bk} {r : Cs} (h : CallOk P f xs ls oc bs) (k : CsOk P r) : CsOk P ((f, xs, ls, oc, bs) :: r) := fun c hc => by
 rcases List.mem_cons.1 hc with rfl | hc
 ·exact h
 ·exact k c hc
theorem not_tt {b : Bool} (h : b = false) : (!b) = true := by rw [h]; rfl
theorem not_ff {b : Bool} (h : b = true) : (!b) = false := by rw [h]; rfl
theorem nan_some {a : Option Nat} (h : (fo a a != some Ordering.eq) = false) : a.isSome = true := by
 cases a with
 | none => simp [fo] at h
 | some b => rfl
theorem ge_some {a b : Option Nat} (h : (fo a b == some Ordering.gt || fo a b == some Ordering.eq) = true) : a.isSome = true := by
 cases a with
 | none => simp [fo] at h
 | some b => rfl
def bitsOf (a : Option Nat) : Int := ((a.getD 0 : Nat) : Int)
theorem eq_bits {a : Option Nat} (h : a.isSome = true) : ∃ b, a = some b ∧ bitsOf a = (b : Int) := by
 cases a with
 | none => cases h
 | some b => exact ⟨b, rfl, rfl⟩
def lp2 {α σ : Type} (body : α → Nat → σ → σ) : List α → Nat → σ → σ
 | [], _, s => s
 | x :: r, i, s => lp2 body r (i + 1) (body x i s)
theorem lp_lp2 {α σ : Type} (body : α → Nat → σ → σ) : ∀ (l : List α) (i : Nat) (s : σ), lp (ρ := Unit) (fun x i s => .next (body x i s)) l i s = .inr (i + l.length, lp2 body l i s)
 | [], _, _ => rfl
 | x :: r, i, s => by simp only [lp, lp2, lp_lp2 body r, List.length_cons]; congr 2; omega
theorem lp2_W {P : Program} {α σ : Type} {c c' : Code} {e : Exit} (L : List α) (st : Nat → σ → St) (ex : Nat → σ → St) (body : α → Nat → σ → σ) (I : Nat → σ → Prop) (s : σ) (h0 : I 0 s)
  (hc' : c' = .loop c) (he : e ≠ .normal) (hn : ∀ s, I L.length s → W P c (st L.length s) (One e (ex L.length s)))
  (hc : ∀ i x s, L[i]? = some x → i < L.length → I i s → W P c (st i s) (One .normal (st (i + 1) (body x i s))) ∧ I (i + 1) (body x i s)) : W P c' (st 0 s) (One e (ex L.length (lp2 body L 0 s))) := by
 subst hc'
 have := lp_W (ρ := Unit) he L st ex (fun _ => st 0 s) (fun x i s => .next (body x i s)) I hn (fun i x s hx hI => (hc i x s hx (List.getElem?_eq_some_iff.1 hx).1 hI).1)
  (fun i x s s' hx hI hb => by cases hb; exact (hc i x s hx (List.getElem?_eq_some_iff.1 hx).1 hI).2) s h0
 rw [lp_lp2, Nat.zero_add] at this
 exact this
theorem lp1_W {P : Program} {α ρ σ : Type} {c c' : Code} {e : Exit} (L : List α) (st : Nat → σ → St) (ex : Nat → σ → St) (re : ρ → St) (body : α → Nat → σ → Rd ρ σ) (I : Nat → σ → Prop) (s : σ) (h0 : I 0 s)
  (hc' : c' = .loop c) (he : e ≠ .normal) (hn : ∀ s, I L.length s → W P c (st L.length s) (One e (ex L.length s)))
  (hc : ∀ i x s, L[i]? = some x → i < L.length → I i s → W P c (st i s) (rdPost st ex re e i (body x i s)) ∧ ∀ s', body x i s = .next s' → I (i + 1) s') :
  W P c' (st 0 s) (lpPost ex re e (lp body L 0 s)) := by
 subst hc'
 exact lp_W he L st ex re body I hn (fun i x s hx hI => (hc i x s hx (List.getElem?_eq_some_iff.1 hx).1 hI).1)
  (fun i x s s' hx hI hb => (hc i x s hx (List.getElem?_eq_some_iff.1 hx).1 hI).2 s' hb) s h0
theorem V.rows_at {l : List V} {i : Nat} {x : V} (h : l[i]? = some x) : (V.rows l)[((i : Nat) : Int).toNat]? = some x.cells := by
 have : ((i : Nat) : Int).toNat = i := rfl
 rw [this, V.rows_get, h]
 rfl
theorem V.rows_pick {l : List V} {i : Nat} (h : i < l.length) : (V.rows l)[((i : Nat) : Int).toNat]? = some (l[i]?.getD default).cells := by
 have e := List.getElem?_eq_getElem h
 rw [V.rows_at e, e]
 rfl
def Str.cells (x : ByteArray) : List T := [.s (.string x)]
def Str.rows (l : List ByteArray) : List (List T) := l.map Str.cells
theorem Str.rows_length (l : List ByteArray) : (Str.rows l).length = l.length := by simp [Str.rows]
theorem Str.rows_get (l : List ByteArray) (i : Nat) : (Str.rows l)[i]? = l[i]?.map Str.cells := by simp [Str.rows]
theorem Str.rows_snoc (l : List ByteArray) (x : ByteArray) : Str.rows (l ++ [x]) = Str.rows l ++ [Str.cells x] := by simp [Str.rows]
theorem Str.rows_z (l : List ByteArray) : ∀ x, x ∈ Str.rows l → x.length = 1 := by
 intro x hx
 obtain ⟨v, _, rfl⟩ := List.mem_map.1 hx
 rfl
theorem V.len {l : List V} (h : ShortT (.sl (V.rows l))) : l.length ≤ 274877906944 := h.len
theorem lt_tt {α : Type} {l : List α} {n i : Nat} (h : i < l.length) (hn : n = l.length) : decide (((i : Nat) : Int) < ((n : Nat) : Int)) = true := by
 subst hn
 simpa using h
theorem lt_ff {α : Type} {l : List α} {n : Nat} (hn : n = l.length) : decide (((l.length : Nat) : Int) < ((n : Nat) : Int)) = false := by
 subst hn
 simp
inductive Ou (α : Type) where
 | ret (a : α)
 | pan (v : Value)
def Ou.oc {α : Type} (f : α → M) : Ou α → Oc
 | .ret a => .ret (f a)
 | .pan v => .pan v
theorem pickI {α : Type} [Inhabited α] {cells : α → List T} {rows : List α → List (List T)} (hr : ∀ (l : List α) (i : Nat), (rows l)[i]? = l[i]?.map cells) {l : List α} {i : Int} (h : i.toNat < l.length) :
  (rows l)[i.toNat]? = some (cells (l[i.toNat]?.getD default)) := by
 rw [hr, List.getElem?_eq_getElem h]
 rfl
theorem prevI {i n : Nat} (hi : i < n) (hn : n ≤ 274877906944) (h : decide (((i : Nat) : Int) > (0 : Int)) = true) : IntKind.i64.wrap (((i : Nat) : Int) - 1) = ((i - 1 : Nat) : Int) := by
 have := of_decide_eq_true h
 rw [IntKind.wrap_i64]
 omega
theorem prevN {i n : Nat} (hi : i < n) (hn : n ≤ 274877906944) (h : decide (((i : Nat) : Int) > (0 : Int)) = true) : (IntKind.i64.wrap (((i : Nat) : Int) - 1)).toNat = i - 1 := by
 rw [prevI hi hn h]; rfl
theorem pos_of {i : Nat} (h : decide (((i : Nat) : Int) > (0 : Int)) = true) : 0 < i := by
 have := of_decide_eq_true h
 omega
theorem callOk_of {P : Program} {f : FuncId} {fn : Func} {args ls : List M} {ks : List Bk} {es : List Ev} {oc : Oc} {bs : List Bk} {cs : Cs} {ps : List Prop} (n : Nat) (hf : P.funcs[f]? = some fn)
  (hn : (fn.name == "runtime.NumGoroutine") = false) (h : runF P n fn args ls ks es = some ⟨oc, bs, cs, ps⟩) (hp : ∀ p ∈ ps, p) (hc : CsOk P cs) : CallOk P f args ls oc bs := callOk_run n hf hn h hp hc
end Go.Bm
/- Loops that go on while something holds; V's that are owned. -/
namespace Go.Bm
def wh {ρ σ : Type} (body : σ → Rd ρ σ) : Nat → σ → ρ ⊕ σ
 | 0, s => .inr s
 | n + 1, s => match body s with
  | .next s' => wh body n s'
  | .out s' => .inr s'
  | .ret r => .inl r
def whD {ρ σ : Type} (body : σ → Rd ρ σ) : Nat → σ → Bool
 | 0, _ => false
 | n + 1, s => match body s with
  | .next s' => whD body n s'
  | _ => true
theorem whD_of {ρ σ : Type} {body : σ → Rd ρ σ} (I : σ → Prop) (μ : σ → Nat) (h : ∀ s s', I s → body s = .next s' → I s' ∧ μ s' < μ s) : ∀ (n : Nat) (s : σ), I s → μ s < n → whD body n s = true
 | 0, s, _, hn => absurd hn (Nat.not_lt_zero _)
 | n + 1, s, hI, hn => by
  simp only [whD]
  cases hb : body s with
  | next s' =>
   obtain ⟨h1, h2⟩ := h s s' hI hb
   exact whD_of I μ h n s' h1 (by omega)
  | out s' => rfl
  | ret r => rfl
def rwPost {ρ σ : Type} (st : σ → St) (ex : σ → St) (re : ρ → St) (e : Exit) : Rd ρ σ → Exit → St → Prop
 | .next s => One .normal (st s)
 | .out s => One e (ex s)
 | .ret r => One .ret (re r)
def whPost {ρ σ : Type} (ex : σ → St) (re : ρ → St) (e : Exit) : ρ ⊕ σ → Exit → St → Prop
 | .inr s => One e (ex s)
 | .inl r => One .ret (re r)
theorem wh_rounds {P : Program} {ρ σ : Type} {c : Code} {e : Exit} (he : e ≠ .normal) (st : σ → St) (ex : σ → St) (re : ρ → St) (body : σ → Rd ρ σ) (I : σ → Prop)
  (hc : ∀ s, I s → W P c (st s) (rwPost st ex re e (body s)) ∧ ∀ s', body s = .next s' → I s') :
  ∀ (n : Nat) (s : σ), whD body n s = true → I s → Rounds P c (whPost ex re e (wh body n s)) n (st s)
 | 0, s, hd, _ => by simp [whD] at hd
 | n + 1, s, hd, hI => by
  obtain ⟨h, hn⟩ := hc s hI
  simp only [whD] at hd
  simp only [wh]
  cases hb : body s with
  | next s' =>
   rw [hb] at h hd
   refine h.mono ?_
   rintro e' st' ⟨rfl, rfl⟩
   exact .inl ⟨rfl, wh_rounds he st ex re body I hc n s' hd (hn s' hb)⟩
  | out s' =>
   rw [hb] at h
   refine h.mono ?_
   rintro e' st' ⟨rfl, rfl⟩
   exact .inr ⟨he, rfl, rfl⟩
  | ret r =>
   rw [hb] at h
   refine h.mono ?_
   rintro e' st' ⟨rfl, rfl⟩
   exact .inr ⟨by simp, rfl, rfl⟩
theorem wh_W {P : Program} {ρ σ : Type} {c c' : Code} {e : Exit} (st : σ → St) (ex : σ → St) (re : ρ → St) (body : σ → Rd ρ σ) (I : σ → Prop) (n : Nat) (s : σ) (h0 : I s) (hd : whD body n s = true)
  (hc' : c' = .loop c) (he : e ≠ .normal) (hc : ∀ s, I s → W P c (st s) (rwPost st ex re e (body s)) ∧ ∀ s', body s = .next s' → I s') : W P c' (st s) (whPost ex re e (wh body n s)) := by
 subst hc'
 exact W.loop n (wh_rounds he st ex re body I hc n s hd h0)
inductive IsOc : V → List M → Prop
 | mk (k i : Int) (f : Option Nat) (s : ByteArray) (l : List V) (xs : List (List M)) (hl : l.length = xs.length) (h : ∀ (j : Nat) (v : V) (cs : List M), l[j]? = some v → xs[j]? = some cs → IsOc v cs) :
   IsOc (.mk k i f s l) [.t (.s (.int .i64 k)), .t (.s (.int .i64 i)), .t (.f f), .t (.s (.string s)), .oa [] 5 xs]
mutual
def V.oc : V → List M
 | .mk k i f s l => [.t (.s (.int .i64 k)), .t (.s (.int .i64 i)), .t (.f f), .t (.s (.string s)), .oa [] 5 (V.ocs l)]
def V.ocs : List V → List (List M)
 | [] => []
 | v :: r => v.oc :: V.ocs r
end
theorem V.ocs_map : ∀ l : List V, V.ocs l = l.map V.oc
 | [] => rfl
 | v :: r => by simp only [V.ocs, List.map_cons, V.ocs_map r]
theorem V.ocs_length (l : List V) : (V.ocs l).length = l.length := by rw [V.ocs_map]; simp
def V.o1 (v : V) : List M := [.t (.s (.int .i64 v.k)), .t (.s (.int .i64 v.i)), .t (.f v.f), .t (.s (.string v.s)), .oa [] 5 (rowsT (V.rows v.l))]
def V.o1s (l : List V) : List (List M) := l.map V.o1
theorem vt_rowsT {bx : Nat → Option M} {hs : List Nat} {z : Nat} (ts : List (List T)) : Vt bx (.oa hs z (rowsT ts)) (.sl ts) := by
 refine .oa hs z _ ts (by simp [rowsT]) (fun i cs rs h1 h2 => ?_) (fun i j cs rs c r h1 h2 h3 h4 => ?_)
 ·simp only [rowsT, List.getElem?_map, h2, Option.map_some, Option.some.injEq] at h1
  rw [← h1]; simp
 ·simp only [rowsT, List.getElem?_map, h2, Option.map_some, Option.some.injEq] at h1
  subst h1
  simp only [List.getElem?_map, h4, Option.map_some, Option.some.injEq] at h3
  subst h3
  exact .t r
def VtL (bx : Nat → Option M) (cs : List M) (ts : List T) : Prop := cs.length = ts.length ∧ ∀ (j : Nat) (c : M) (r : T), cs[j]? = some c → ts[j]? = some r → Vt bx c r
theorem VtL.nil (bx : Nat → Option M) : VtL bx [] [] := ⟨rfl, fun j c r h => by simp at h⟩
theorem VtL.cons {bx : Nat → Option M} {c : M} {r : T} {cs : List M} {ts : List T} (h : Vt bx c r) (k : VtL bx cs ts) : VtL bx (c :: cs) (r :: ts) := by
 refine ⟨by simp [k.1], fun j c' r' hc hr => ?_⟩
 cases j with
 | zero => simp at hc hr; subst hc; subst hr; exact h
 | succ j => exact k.2 j c' r' (by simpa using hc) (by simpa using hr)
theorem vt_map {α : Type} {bx : Nat → Option M} {hs : List Nat} {z : Nat} {f : α → List M} {g : α → List T} (l : List α) (h : ∀ x ∈ l, VtL bx (f x) (g x)) : Vt bx (.oa hs z (l.map f)) (.sl (l.map g)) := by
 refine .oa hs z _ _ (by simp) (fun i cs rs h1 h2 => ?_) (fun i j cs rs c r h1 h2 h3 h4 => ?_)
 ·cases e : l[i]? with
  | none => simp [e] at h1
  | some x =>
   simp only [List.getElem?_map, e, Option.map_some, Option.some.injEq] at h1 h2
   subst h1; subst h2
   exact (h x (List.mem_of_getElem? e)).1
 ·cases e : l[i]? with
  | none => simp [e] at h1
  | some x =>
   simp only [List.getElem?_map, e, Option.map_some, Option.some.injEq] at h1 h2
   subst h1; subst h2
   exact (h x (List.mem_of_getElem? e)).2 j c r h3 h4
theorem V.o1_vt {bx : Nat → Option M} (v : V) : VtL bx v.o1 v.cells :=
 .cons (.t _) (.cons (.t _) (.cons (.t _) (.cons (.t _) (.cons (vt_rowsT _) (.nil bx)))))
theorem V.o1s_vt {bx : Nat → Option M} {hs : List Nat} {z : Nat} (l : List V) : Vt bx (.oa hs z (V.o1s l)) (.sl (V.rows l)) := by
 rw [V.rows_map]
 exact vt_map l fun v _ => v.o1_vt
end Go.Bm
