import Derived.Test.YthgocpanlbmalaaGreatBmG
import Derived.Test.YthgocpanlbmalaaGreatProg
import Derived.KernelRfl
import Derived.Defers
import Derived.Recover
import Derived.Tactics
import Derived.Tactics2
import Derived.Laws.Pointers
set_option linter.unusedVariables false
set_option linter.unusedSimpArgs false
/- Package ledger's try: a call, and what it raises. -/
set_option maxHeartbeats 1000000
namespace Go.Bm
open Go Go.Proofs
set_option maxRecDepth 100000 in
theorem catch_pan (b : Nat) (x e : Int) (w : World) (hc : w.cell? ⟨b, 0, none⟩ = some (.int .i64 x)) (hz : w.frozen? ⟨b, 0, none⟩ = false) :
  CallsD Tryz.prog 54 #[.pointer (some ⟨b, 0, none⟩)] (.panicking [{ v := .iface 86 (.agg #[.int .i64 e]), recovered := false }]) w fun en u' w' =>
   en = .returned (.tuple #[]) ∧ u' = .panicking [{ v := .iface 86 (.agg #[.int .i64 e]), recovered := true }] ∧ w' = ((w.alloc (.cells #[.int .i64 0] 86)).setCell ⟨w.heap.size, 0, none⟩ (.int .i64 e)).setCell ⟨b, 0, none⟩ (.int .i64 e) := by
 have hta : ∀ w, (Instr.typeAssert (.iface 86 (.agg #[.int .i64 e])) 20 86 true).run Tryz.prog w = .ok (.tuple #[.agg #[.int .i64 e], .bool true]) w := fun w => by kernel_rfl
 have hlt : b < w.heap.size := World.block_lt_of_cell? w ⟨b, 0, none⟩ hc
 have h1 : ((w.alloc (.cells #[.int .i64 0] 86)).setCell ⟨w.heap.size, 0, none⟩ (.int .i64 e)).cell? ⟨b, 0, none⟩ = some (.int .i64 x) := by
  rw [World.cell?_of_block (w := w) (a := ⟨b, 0, none⟩) (by rw [Go.RowKit.Below.heap_setCell _ _ _ _ (by show b ≠ w.heap.size; omega), Go.RowKit.Below.heap_alloc _ _ _ hlt])]; exact hc
 have h2 : (w.alloc (.cells #[.int .i64 0] 86)).frozen? ⟨b, 0, none⟩ = false := by rw [World.frozen?_of_block (w := w) (a := ⟨b, 0, none⟩) (by rw [Go.RowKit.Below.heap_alloc _ _ _ hlt])]; exact hz
 refine callsD_of_wpS Tryz.func54 rfl fun c₀ cs hu => ?_
 apply wpS_seq
 apply wpS_region
 simp [wpOpsS, go_sem, recoverD, hu, Tryz.ntmps54, Exit.thenS]
 apply wpS_seq
 apply wpS_region
 simp [wpOpsS, go_sem, Exit.thenS]
 refine wpS_cond (t := true) (by simp [Act.eval, Array.replicate]) ?_
 simp only [if_true]
 apply wpS_seq
 apply wpS_region
 simp [wpOpsS, go_sem, Exit.thenS, hta]
 apply wpS_seq
 apply wpS_seq
 apply wpS_region
 simp [wpOpsS, go_sem, Exit.thenS]
 refine wpS_cond (t := false) (by simp [Act.eval, Act.put, Array.replicate]) ?_
 simp only [Bool.false_eq_true, if_false]
 refine wpS_of_wp (wp_skip ?_)
 simp only [Exit.thenS]
 apply wpS_region
 simp [wpOpsS, go_sem, Exit.thenS, h1, h2, bodyPostS, results, Tryz.results54]
theorem catch_idle (p : Addr) (w : World) :
  CallsD Tryz.prog 54 #[.pointer (some p)] .returning w fun e u' w' => e = .returned (.tuple #[]) ∧ u' = .returning ∧ w' = w := by
 refine callsD_of_wpS Tryz.func54 rfl fun c₀ cs hu => ?_
 apply wpS_seq
 apply wpS_region
 simp [wpOpsS, go_sem, recoverD, hu, Tryz.ntmps54, Exit.thenS]
 apply wpS_seq
 apply wpS_region
 simp [wpOpsS, go_sem, recoverD, hu, Tryz.ntmps54, Exit.thenS]
 refine wpS_cond (t := false) (by simp [Act.eval, Array.replicate]) ?_
 simp only [Bool.false_eq_true, if_false]
 refine wpS_of_wp (wp_skip ?_)
 cases c₀
 simp_all [bodyPostS, results, Tryz.results54]
theorem body27 : Tryz.f27.body = some (.seq (bodyAt Tryz.f27 [0]) (.seq (bodyAt Tryz.f27 [1, 0]) (.seq (bodyAt Tryz.f27 [1, 1, 0]) (bodyAt Tryz.f27 [1, 1, 1])))) := by kernel_rfl
theorem six {α : Type} (a : Array α) (h : a.size = 6) : ∃ x0 x1 x2 x3 x4 x5, a = #[x0, x1, x2, x3, x4, x5] := by
 obtain ⟨l⟩ := a
 match l, h with
 | [x0, x1, x2, x3, x4, x5], _ => exact ⟨x0, x1, x2, x3, x4, x5, rfl⟩
theorem defer27 (a : Act) (w : World) (b : Nat) (Q : Exit → Act → World → Prop) (hp : a.tmps.getD 2 undef = .pointer (some ⟨b, 0, none⟩)) (hn : a.tmps.size = 6)
  (h : Q .normal { tmps := a.tmps.set! 3 (.func (.func 54) #[] #[.pointer (some ⟨b, 0, none⟩)]), defers := { target := .fn (.func 54) #[.pointer (some ⟨b, 0, none⟩)], args := #[] } :: a.defers } w) : (bodyAt Tryz.f27 [1, 0]).wp Tryz.prog Q a w := by
 have hmf : ∀ (fn : Fn) (first cap : Array Value) (w : World), (Instr.makeFunc fn first cap).run Tryz.prog w = .ok (.func fn first cap) w := fun _ _ _ _ => rfl
 obtain ⟨tm, ds⟩ := a
 obtain ⟨t0, t1, t2, t3, t4, t5, rfl⟩ := six tm hn
 simp at hp h
 subst hp
 simp only [bodyAt, codeAt, Tryz.f27]
 refine wp_region ?_
 simp [wpOps, go_sem, hmf]
 exact .inl (.inl h)
theorem call27 (a : Act) (w : World) (fid : FuncId) (cvs : Array Value) (Q : Exit → Act → World → Prop) (hp : a.tmps.getD 0 undef = .func (.func fid) #[] cvs) (hn : a.tmps.size = 6) (R : Ending → World → Prop)
  (hC : ((callFunc fid cvs).run Tryz.prog w = .ok (.enter fid cvs) w ∧ Calls Tryz.prog fid cvs w R) ∨ ∃ v w', (callFunc fid cvs).run Tryz.prog w = .ok (.value v) w' ∧ R (.returned v) w')
  (h1 : ∀ v w', R (.returned v) w' → ∀ a', a'.tmps.size = 6 → a'.tmps.getD 2 undef = a.tmps.getD 2 undef → a'.defers = a.defers → Q .normal a' w')
  (h2 : ∀ ch w', R (.panicked ch) w' → ∀ a', a'.tmps.size = 6 → a'.tmps.getD 2 undef = a.tmps.getD 2 undef → a'.defers = a.defers → Q (.panic ch) a' w')
  (h3 : ∀ w', ¬ R .outgrown w') : (bodyAt Tryz.f27 [1, 1, 0]).wp Tryz.prog Q a w := by
 obtain ⟨tm, ds⟩ := a
 obtain ⟨t0, t1, t2, t3, t4, t5, rfl⟩ := six tm hn
 simp at hp
 subst hp
 simp only [bodyAt, codeAt, Tryz.f27]
 refine wp_region ?_
 rcases hC with ⟨hcf, hC⟩ | ⟨v, w', hcf, hR⟩
 ·simp [wpOps, go_sem, hcf]
  refine .inl (.inl (Calls.mono hC fun e w' hR => ?_))
  cases e with
  | returned v => exact h1 v w' hR _ rfl rfl rfl
  | panicked ch => exact h2 ch w' hR _ rfl rfl rfl
  | outgrown => exact (h3 w' hR).elim
 ·simp [wpOps, go_sem, hcf]
  exact .inl (.inl (h1 v w' hR _ rfl rfl rfl))
theorem alloc27 (a : Act) (w : World) (Q : Exit → Act → World → Prop) (hn : a.tmps.size = 6)
  (h : ∀ a', a'.tmps.size = 6 → a'.tmps.getD 0 undef = a.tmps.getD 0 undef → a'.tmps.getD 2 undef = .pointer (some ⟨w.heap.size, 0, none⟩) → a'.defers = a.defers → Q .normal a' (w.alloc (.cells #[.int .i64 0] 34))) : (bodyAt Tryz.f27 [0]).wp Tryz.prog Q a w := by
 obtain ⟨tm, ds⟩ := a
 obtain ⟨t0, t1, t2, t3, t4, t5, rfl⟩ := six tm hn
 simp only [bodyAt, codeAt, Tryz.f27]
 refine wp_region ?_
 simp [wpOps, go_sem]
 exact .inl (h _ rfl rfl rfl rfl)
theorem store27 (a : Act) (w : World) (b : Nat) (x : Int) (Q : Exit → Act → World → Prop) (hn : a.tmps.size = 6) (hp : a.tmps.getD 2 undef = .pointer (some ⟨b, 0, none⟩)) (hc : w.cell? ⟨b, 0, none⟩ = some (.int .i64 x)) (hz : w.frozen? ⟨b, 0, none⟩ = false)
  (h : Q .ret a (w.setCell ⟨b, 0, none⟩ (.int .i64 0))) : (bodyAt Tryz.f27 [1, 1, 1]).wp Tryz.prog Q a w := by
 obtain ⟨tm, ds⟩ := a
 obtain ⟨t0, t1, t2, t3, t4, t5, rfl⟩ := six tm hn
 simp at hp
 subst hp
 simp only [bodyAt, codeAt, Tryz.f27]
 refine wp_seq (wp_region ?_)
 simp [wpOps, go_sem, hc, hz]
 exact .inl (wp_ret h)
theorem CameG.frame {g g' : Gh} {w w1 w2 w3 : World} {ls : List M} {bs : List Bk} {o : Obj} (hg : CameG g w1 ls bs g' w2) (hw : w1 = w.alloc o) (hL : LInv g (named bs ls) w) (hb : Belows (fun x => x = w.heap.size) w2 w3) : CameG g w ls bs g' w3 := by
  subst hw
  have hsz : (w.alloc o).heap.size = w.heap.size + 1 := by unfold World.alloc; exact Array.size_push _
  have hX : ∀ x, LX g bs ls x → x < w.heap.size := fun x ⟨k, o', hk, _, hx⟩ => by
    obtain ⟨hd, _, hbx⟩ := hL.bx k o' hk
    exact hbx.lt x hx
  have hφ : ∀ i m, bs[i]? = some (.is m) → i < ls.length → ¬ g'.φ (CB + i) w.heap.size := fun i m hm hi h => by
    rcases hg.src i m _ hm hi h with h | h
    · omega
    · have := hX _ h; omega
  have hD : ∀ j, g'.D w.heap.size j = none := fun j => by
    cases e : g'.D w.heap.size j with
    | none => rfl
    | some u =>
      rcases hg.dnew _ j u e with h | h | h
      · rw [Dm.none_of_ge hL.dw (Nat.le_refl _) j] at h; cases h
      · omega
      · have := hX _ h; omega
  have hbelow := below_alloc w o
  exact { D := hg.D
          inW := fun b j u hu => by
            have hlt := Dm.inW_lt hg.inW hu
            have hne : b ≠ w.heap.size := fun e => by subst e; rw [hD j] at hu; cases hu
            rw [World.cell?_of_block (w := w2) (a := ⟨b, j, none⟩) (hb.block b hlt hne)]
            exact hg.inW b j u hu
          β := hg.β
          box := fun i m hm hi => by
            obtain ⟨hd, h1, h2⟩ := hg.box i m hm hi
            exact ⟨hd, h1, h2.keep (Dm.le_refl _) (fun _ _ _ h => h) fun x hx => ⟨hb.block x (h2.lt x hx) fun e => hφ i m hm hi (e ▸ hx), fun _ => rfl⟩⟩
          src := fun i m b hm hi hb' => (hg.src i m b hm hi hb').imp_left fun h => by omega
          dis := hg.dis
          dnew := fun b j u hu => (hg.dnew b j u hu).imp_right fun h => h.imp_left fun h => by omega
          below := ⟨hb.os.trans (hg.below.os.trans hbelow.os), hb.tape.trans (hg.below.tape.trans hbelow.tape), hb.output.trans (hg.below.output.trans hbelow.output),
            Nat.le_trans hbelow.size (Nat.le_trans hg.below.size hb.size), fun k hk hn => by
              have h1 := hg.below.size
              rw [hb.block k (by omega) (by omega), hg.below.block k (by omega) hn]
              exact hbelow.block k hk⟩ }
theorem callFunc_enter' {P : Program} {f : FuncId} {fn : Func} (hf : P.funcs[f]? = some fn) (hn : (fn.name == "runtime.NumGoroutine") = false) (hb : fn.body.isSome = true) (vs : Array Value) (w : World) : (callFunc f vs).run P w = .ok (.enter f vs) w := by
 have hn' : ¬ fn.name = "runtime.NumGoroutine" := by simpa using hn
 obtain ⟨c, hc⟩ := Option.isSome_iff_exists.1 hb
 simp [callFunc, hf, hn', hc]
theorem belows_setCell {X : Foot} (w : World) (b : Nat) (v : Value) (hX : X b) : Belows X w (w.setCell ⟨b, 0, none⟩ v) := by
 have h := (Go.RowKit.Below.refl 0 w).setCell (p := ⟨b, 0, none⟩) (Nat.zero_le _) v
 exact ⟨h.os, h.tape, h.output, h.size, fun k _ hn => Go.RowKit.Below.heap_setCell w _ v k fun e => hn (by rw [e]; exact hX)⟩
theorem belows_alloc' {X : Foot} (w : World) (o : Obj) : Belows X w (w.alloc o) :=
 have h := below_alloc w o
 ⟨h.os, h.tape, h.output, h.size, fun k hk _ => h.block k hk⟩
theorem f27_ok {fid : FuncId} {caps ls : List M} {oc : Oc} {bs : List Bk} {res : Int} (hoc : (oc = .ret (.tup []) ∧ res = 0) ∨ oc = .pan (.iface 86 (.agg #[.int .i64 res]))) (h : CallOk Tryz.prog fid caps ls oc bs) :
  CallOk Tryz.prog 27 [.clo fid caps] ls (.ret (.t (.s (.int .i64 res)))) bs := by
 intro g w vs hL hR
 refine .inl ⟨callFunc_enter' Tryz.func27 (by kernel_rfl) (by kernel_rfl) _ _, ?_⟩
 obtain ⟨v0, r0, rfl, hv0, hR⟩ := hR.cons_inv
 obtain rfl := hR.nil_inv
 obtain ⟨cvs, rfl, hcl⟩ := hv0.clo_inv
 have hsz : (w.alloc (.cells #[.int .i64 0] 34)).heap.size = w.heap.size + 1 := by unfold World.alloc; exact Array.size_push _
 have hL1 : LInv g (named bs ls) (w.alloc (.cells #[.int .i64 0] 34)) := by
  refine ⟨fun k o hk => ?_, hL.sep, Dm.inW_below hL.dw (below_alloc w _)⟩
  obtain ⟨hd, h1, h2⟩ := hL.bx k o hk
  exact ⟨hd, h1, h2.keep (Dm.le_refl _) (fun _ _ _ h => h) (keep_below h2.lt (below_alloc w _))⟩
 have hce := h g _ cvs hL1 hcl
 have hX : ∀ x, LX g bs ls x → x < w.heap.size := fun x ⟨k, o', hk, _, hx⟩ => by
  obtain ⟨hd, _, hbx⟩ := hL.bx k o' hk
  exact hbx.lt x hx
 -- the answer's cell stays
 have hcell : ∀ {e : Ending} {w2 : World}, Came g (w.alloc (.cells #[.int .i64 0] 34)) ls bs oc e w2 → w2.cell? ⟨w.heap.size, 0, none⟩ = some (.int .i64 0) ∧ w2.frozen? ⟨w.heap.size, 0, none⟩ = false := fun {e w2} ⟨g', hg, _⟩ => by
  have hb := hg.below.block w.heap.size (by omega) fun h => by have := hX _ h; omega
  have hh : w2.heap[w.heap.size]? = some (.cells #[.int .i64 0] 34 (0, 0)) := by rw [hb]; exact heap_alloc_new w _
  exact ⟨by rw [cell_of_heap hh]; rfl, by simp [World.frozen?, hh]⟩
 have h3 : ∀ w', ¬ Came g (w.alloc (.cells #[.int .i64 0] 34)) ls bs oc .outgrown w' := fun w' ⟨g', _, hq⟩ => by
  rcases hoc with ⟨rfl, _⟩ | rfl
  ·obtain ⟨v, F, e, _⟩ := hq; cases e
  ·cases hq
 have hres : ∀ (a : Act) (w' : World) (x : Int), a.tmps.getD 2 undef = .pointer (some ⟨w.heap.size, 0, none⟩) → w'.cell? ⟨w.heap.size, 0, none⟩ = some (.int .i64 x) → (results Tryz.f27 a.tmps).run Tryz.prog w' = .ok (.int .i64 x) w' := fun a w' x hp hc => by
  simp [results, Tryz.results27, go_sem, hc]
  rw [Array.getD_eq_getD_getElem?] at hp
  simp [hp, go_sem, hc]
 refine calls_of_wp_defers Tryz.func27 body27 ?_
 refine wp_seq (alloc27 _ w _ rfl fun a1 hn1 h01 h21 hd1 => ?_)
 refine wp_seq (defer27 a1 _ w.heap.size _ h21 hn1 ?_)
 refine wp_seq (call27 _ _ fid cvs.toArray _ ?_ (by simp [hn1]) _ hce (fun v w2 hR a2 hn2 h22 hd2 => ?_) (fun ch w2 hR a2 hn2 h22 hd2 => ?_) h3)
 ·simp [Array.getD_eq_getD_getElem?] at h01 ⊢
  exact h01
 ·-- it has returned
  have h22' : a2.tmps.getD 2 undef = .pointer (some ⟨w.heap.size, 0, none⟩) := by rw [h22]; simp [Array.getD_eq_getD_getElem?] at h21 ⊢; exact h21
  obtain ⟨hc, hz⟩ := hcell hR
  refine store27 a2 w2 w.heap.size 0 _ hn2 h22' hc hz ?_
  show Leaves _ _ _ _ a2.defers .returning _
  rw [hd2, hd1]
  refine leaves_cons (f := 54) (args := #[.pointer (some ⟨w.heap.size, 0, none⟩)]) (by simp) (by simp [go_sem]) ?_
  refine (catch_idle _ _).mono ?_
  rintro e u' w3 ⟨rfl, rfl, rfl⟩
  refine ⟨_, hres a2 _ 0 h22' (World.cell?_setCell_same _ _ _ hc), ?_⟩
  obtain ⟨g', hg, hq⟩ := hR
  rcases hoc with ⟨rfl, rfl⟩ | rfl
  ·exact ⟨g', hg.frame rfl hL (belows_setCell w2 _ _ rfl), _, fun _ => False, rfl, .leaf _ _ _ (.t _ _ (.s _ rfl)) (fun _ h => h), fun b h => h.elim, fun i m b _ _ h => h.elim⟩
  ·cases hq
 ·-- it has raised something
  have h22' : a2.tmps.getD 2 undef = .pointer (some ⟨w.heap.size, 0, none⟩) := by rw [h22]; simp [Array.getD_eq_getD_getElem?] at h21 ⊢; exact h21
  obtain ⟨hc, hz⟩ := hcell hR
  obtain ⟨g', hg, hq⟩ := hR
  rcases hoc with ⟨rfl, rfl⟩ | rfl
  ·obtain ⟨v, F, e, _⟩ := hq; cases e
  ·injection hq with hq
   subst hq
   show Leaves _ _ _ _ a2.defers (.panicking _) _
   rw [hd2, hd1]
   refine leaves_cons (f := 54) (args := #[.pointer (some ⟨w.heap.size, 0, none⟩)]) (by simp) (by simp [go_sem]) ?_
   refine (catch_pan w.heap.size 0 res w2 hc hz).mono ?_
   rintro e u' w3 ⟨rfl, rfl, rfl⟩
   have hlt : w.heap.size < w2.heap.size := World.block_lt_of_cell? w2 ⟨w.heap.size, 0, none⟩ hc
   have hc3 : ((w2.alloc (.cells #[.int .i64 0] 86)).setCell ⟨w2.heap.size, 0, none⟩ (.int .i64 res)).cell? ⟨w.heap.size, 0, none⟩ = some (.int .i64 0) := by
    rw [World.cell?_of_block (w := w2) (a := ⟨w.heap.size, 0, none⟩) (by rw [Go.RowKit.Below.heap_setCell _ _ _ _ (by show w.heap.size ≠ w2.heap.size; omega), Go.RowKit.Below.heap_alloc _ _ _ hlt])]; exact hc
   refine ⟨_, hres a2 _ res h22' (World.cell?_setCell_same _ _ _ hc3), g', hg.frame rfl hL ?_, _, fun _ => False, rfl, .leaf _ _ _ (.t _ _ (.s _ rfl)) (fun _ h => h), fun b h => h.elim, fun i m b _ _ h => h.elim⟩
   have hA := belows_alloc' (X := fun x => x = w.heap.size) w2 (.cells #[.int .i64 0] 86)
   have hB : Belows (fun x => x = w.heap.size) w2 ((w2.alloc (.cells #[.int .i64 0] 86)).setCell ⟨w2.heap.size, 0, none⟩ (.int .i64 res)) := by
    have hS := (Go.RowKit.Below.refl w2.heap.size (w2.alloc (.cells #[.int .i64 0] 86))).setCell (p := ⟨w2.heap.size, 0, none⟩) (Nat.le_refl _) (.int .i64 res)
    exact ⟨hS.os.trans hA.os, hS.tape.trans hA.tape, hS.output.trans hA.output, Nat.le_trans hA.size hS.size, fun k hk hn => (hS.block k hk).trans (hA.block k hk hn)⟩
   exact hB.trans (belows_setCell _ _ _ rfl)
end Go.Bm
