/-
  Parts of a proof.
-/
import Derived.Test.YtgffifleflkjoaaGreatFin01
set_option linter.unusedSimpArgs false
set_option linter.unusedVariables false
set_option maxRecDepth 100000
set_option maxHeartbeats 16000000
namespace Go.Proofs.YtgffifleflkjoaaGreat
open _root_.Go.Proofs.Tryz
variable {w W w' w0 wr w1 W0 W1 W2 A B : World} {F G F' O : Nat → Prop} {v : Value} {l : List UInt8} {n q m pd md pl g p : Nat} {C : Array Value} {c : Int}
open Go.RowKit
structure Moves (O : Nat -> Prop) (A B : World) : Prop where
 os : B.os = A.os
 tape : B.tape = A.tape
 output : B.output = A.output
 size : A.heap.size <= B.heap.size
 block : ∀ k, k < A.heap.size -> ¬ O k -> B.heap[k]? = A.heap[k]?
structure dm (K : Nat -> Prop) (A B : World) : Prop where
 size : A.heap.size <= B.heap.size
 block : ∀ k, K k -> k < A.heap.size -> B.heap[k]? = A.heap[k]?
theorem Moves.refl (O : Nat -> Prop) (A : World) : Moves O A A := ⟨rfl, rfl, rfl, Nat.le_refl _, λ _ _ _ => rfl⟩
theorem dm.refl (K : Nat -> Prop) (A : World) : dm K A A := ⟨Nat.le_refl _, λ _ _ _ => rfl⟩
theorem dm.trans {K : Nat -> Prop} {C : World} (h : dm K A B) (k : dm K B C) : dm K A C :=
 ⟨IP h.size k.size, λ i hi hl => (k.block i hi (Jc hl h.size)).trans (h.block i hi hl)⟩
theorem dm.mono {K K' : Nat -> Prop} (h : dm K A B) (hk : ∀ i, K' i -> K i) : dm K' A B := ⟨h.size, λ i hi => h.block i (hk i hi)⟩
theorem dm.of_below {K : Nat -> Prop} (h : Below A A B) : dm K A B := ⟨h.size, λ i _ hl => h.block i hl⟩
theorem dm.Gd {K : Nat -> Prop} (h : Moves O A B) (hk : ∀ i, K i -> ¬ O i) : dm K A B := ⟨h.size, λ i hi hl => h.block i hl (hk i hi)⟩
theorem Moves.trans {O' : Nat -> Prop} {C : World} (h : Moves O A B) (k : Moves O' B C) (ho : ∀ i, i < A.heap.size -> O' i -> O i) : Moves O A C :=
 ⟨k.os.trans h.os, k.tape.trans h.tape, k.output.trans h.output, IP h.size k.size, λ i hl hn => (k.block i (Jc hl h.size) (λ e => hn (ho i hl e))).trans (h.block i hl hn)⟩
theorem Moves.of_below (h : Below A A B) : Moves O A B := ⟨h.os, h.tape, h.output, h.size, λ i hl _ => h.block i hl⟩
theorem Moves.below (h : Moves (λ _ => False) A B) : Below A A B := ⟨h.os, h.tape, h.output, h.size, λ i hl => h.block i hl (λ e => e)⟩
theorem Moves.mono {O' : Nat -> Prop} (h : Moves O A B) (ho : ∀ i, O i -> O' i) : Moves O' A B := ⟨h.os, h.tape, h.output, h.size, λ i hl hn => h.block i hl (λ e => hn (ho i e))⟩
def Stable {β : Type} (J : β -> (Nat -> Prop) -> World -> Prop) : Prop :=
 ∀ k (O O' : Nat -> Prop) (A B : World), J k O A -> Moves O A B -> (∀ i, O i -> O' i) -> (∀ i, O' i -> O i \/ A.heap.size <= i) -> J k O' B
def Iter {α : Type} (P : Program) (gf : Nat) (lb : Array Value) (encs : α -> Array Value) (xs : List α) (R : Nat -> Prop) (w : World) : Prop :=
 ∀ (l : Nat) (J Jx : Nat -> (Nat -> Prop) -> World -> Prop) (W : World), Below w.heap.size w W -> Stable J -> Stable Jx ->
  (∀ k x O W1, xs[k]? = some x -> J k O W1 -> YieldAt Fence.wide 0 P l (encs x) W1 λ e W' =>
   (e = .returned (.bool true) /\ J (k + 1) O W' /\ dm (λ i => O i \/ R i) W1 W') \/ (e = .returned (.bool false) /\ Jx (k + 1) O W' /\ dm (λ i => O i \/ R i) W1 W')) ->
  J 0 (λ _ => False) W ->
  CallsIn Fence.wide 0 P gf (#[.func (.yield l) #[] #[]] ++ lb) W λ e W' => (∃ v, e = .returned v) /\ ∃ O, (J xs.length O W' \/ ∃ k, k <= xs.length /\ Jx k O W')
def z0z {α : Type} (K : Nat -> Prop) (I : Nat -> (Nat -> Prop) -> World -> Prop) (Ix : Code -> Nat -> (Nat -> Prop) -> World -> Prop) (xs : List α) (k : Nat) (O : Nat -> Prop) (W : World) : Exit -> Act -> World -> Prop
 | .normal, _, W' => dm K W W' /\ I (k + 1) O W'
 | .ret, _, W' => dm K W W' /\ Ix .ret (k + 1) O W'
 | .exit id, _, W' => dm K W W' /\ Ix (.exit id) (k + 1) O W'
 | .goto t, _, W' => dm K W W' /\ Ix (.goto t) (k + 1) O W'
 | .panic _, _, _ => False
 | .outgrown, _, _ => False
def y3u (p : World -> Prop) : Prop := ∀ (W : World) (l : Nat) (r : Loop) (o : Obj), W.heap[l]? = some (.loop r) -> p W -> p (W.putObj l o)
theorem vQ {l : Nat} (o : Obj) : Moves (λ i => i = l) W (W.putObj l o) :=
 ⟨rfl, rfl, rfl, GV, λ k _ hk => Jd hk⟩
theorem BP {K : Nat -> Prop} {l : Nat} (o : Obj) (h : ¬ K l) : dm K W (W.putObj l o) :=
 ⟨GV, λ k hk _ => Jd (λ e => h (e ▸ hk))⟩
theorem z2g {α : Type} {P : Program} {g : Operand} {ps : Array Tmp} {assign body : Code} {Q : Exit -> Act -> World -> Prop} {a : Act}
 {gf : Nat} {lb : Array Value} (hg : a.eval g = .func (.func gf) #[] lb) (eg : ∀ args w, (callFunc gf args).run P w = .ok (.enter gf args) w)
 {encs : α -> Array Value} {xs : List α} {R : Nat -> Prop} (hseq : Iter P gf lb encs xs R w0) (hR : ∀ i, R i -> i < w.heap.size) (hb0 : Below w0 w0 w) (hps : ∀ x, (encs x).size = ps.size)
 (I : Nat -> (Nat -> Prop) -> World -> Prop) (Ix : Code -> Nat -> (Nat -> Prop) -> World -> Prop) (hI : Stable I) (hIx : ∀ c, Stable (Ix c))
 (kY : ∀ k O (r : Loop) (o : Obj) W, W.heap[w.heap.size + 1]? = some (.loop r) -> I k O W -> I k O (W.putObj (w.heap.size + 1) o))
 (nD : ∀ c k O (r : Loop) (o : Obj) W, W.heap[w.heap.size + 1]? = some (.loop r) -> Ix c k O W -> Ix c k O (W.putObj (w.heap.size + 1) o))
 (h0 : ∀ W, Below w w W -> W.heap.size = w.heap.size + 2 -> I 0 (λ _ => False) W) (Ax : α -> Act -> World -> Prop) (hAx : ∀ x a', y3u (Ax x a'))
 (hassign : ∀ (k : Nat) (x : α) (O : Nat -> Prop) (W : World), xs[k]? = some x -> I k O W -> w.heap.size + 1 < W.heap.size -> ¬ O (w.heap.size + 1) -> ¬ O w.heap.size ->
  assign.wpIn (Fence.wide.inRound (w.heap.size + 1)) 0 P (Exit.then (λ a' W' => I k O W' /\ dm (λ i => O i \/ R i \/ i = w.heap.size + 1 \/ i = w.heap.size) W W' /\ Ax x a' W') (λ _ _ _ => False)) { tmps := (ps.zip (encs x)).foldl (λ t (p, v) => t.setIfInBounds p v) a.tmps, defers := [] } W)
 (hbody : ∀ (k : Nat) (x : α) (O : Nat -> Prop) (a' : Act) (W : World), xs[k]? = some x -> (∃ r, W.heap[w.heap.size + 1]? = some (.loop r)) -> (∃ o, W.heap[w.heap.size]? = some (.deferred o)) -> ¬ O (w.heap.size + 1) -> ¬ O w.heap.size -> I k O W -> Ax x a' W ->
  body.wpIn (Fence.wide.inRound (w.heap.size + 1)) 0 P (z0z (λ i => O i \/ R i \/ i = w.heap.size + 1 \/ i = w.heap.size) I Ix xs k O W) a' W)
 (hdone : ∀ (O : Nat -> Prop) (W : World), I xs.length O W -> ¬ O w.heap.size -> W.heap[w.heap.size]? = some (.deferred (some [])) -> Q .normal { a with defers := { target := .collected w.heap.size, args := #[] } :: a.defers } W)
 (hstop : ∀ (c : Code) (k : Nat) (O : Nat -> Prop) (W : World), k <= xs.length -> Ix c k O W -> ¬ O w.heap.size -> W.heap[w.heap.size]? = some (.deferred (some [])) -> c.wpIn Fence.wide 0 P Q { a with defers := { target := .collected w.heap.size, args := #[] } :: a.defers } W) :
 (Code.rangeFunc g ps assign body).wpIn Fence.wide 0 P Q a w := by
 refine wpIn_rangeFunc ?_;intro fn hfn
 show ∃ (l : Nat) (mark : List Deferred) (w₁ : World) (d : Deferred) (w₁' : World) (f : FuncId) (args : Array Value) (w₂ : World),
  (Instr.enterLoop fn a.tmps ps assign body none).run P w = .ok (l, mark) w₁ /\ _
 obtain ⟨rec, hrec⟩ : ∃ rec : LoopState -> Option Code -> Loop, rec = λ st pe => { state := st, pending := pe, fn, tmps := a.tmps, params := ps, assign, body, defers := w.heap.size } := ⟨_, rfl⟩;obtain ⟨W1, hW1⟩ := G5 ((w.alloc (.deferred (some []))).alloc (.loop (rec .ready none)));have hL1 : W1.heap[w.heap.size + 1]? = some (.loop (rec .ready none)) := by
  exact Q7
 have hK1 : W1.heap[w.heap.size]? = some (.deferred (some [])) := by
  rw [<-hW1]; exact (JL _ _ _ GV).trans (Lv w _)
 have hbw : Below w w W1 := by
  rw [<-hW1]; exact ((Below.refl _ w).alloc GZ _).alloc GV _
 have hb1 : Below w0 w0 W1 := hb0.trans (hbw.mono hb0.size);have hI1 := h0 W1 hbw (by rw [<-hW1]; simp)
 refine ⟨w.heap.size + 1, [{ target := .collected w.heap.size, args := #[] }], W1, { target := .fn (.func gf) lb, args := #[.func (.yield (w.heap.size + 1)) #[] #[]] }, W1, gf,
  #[.func (.yield (w.heap.size + 1)) #[] #[]] ++ lb, W1, ?_, ?_, ?_, ?_, (λ h => by cases h), ?_⟩
 ·rw [<-hW1, hrec]; exact run_enterLoop_outer _ _ _ _ _
 ·simp only [resolve, hg]
  simp [go_sem]
 ·intro f' _; trivial
 ·simp [invoke, go_sem, eg]
 ·have stay : ∀ (O O' : Nat -> Prop) (A B : World) (k : Nat) (o : Obj), A.heap[k]? = some o -> ¬ O k -> Moves O A B -> (∀ i, O' i -> O i \/ A.heap.size <= i) -> B.heap[k]? = some o /\ ¬ O' k := by
   exact P8
  refine (hseq (w.heap.size + 1)
   (λ k O W => I k O W /\ (W.heap[w.heap.size + 1]? = some (.loop (rec .ready none)) /\ ¬ O (w.heap.size + 1)) /\ (W.heap[w.heap.size]? = some (.deferred (some [])) /\ ¬ O w.heap.size))
   (λ k O W => ∃ c, Ix c k O W /\ (W.heap[w.heap.size + 1]? = some (.loop (rec .done (some c))) /\ ¬ O (w.heap.size + 1)) /\ (W.heap[w.heap.size]? = some (.deferred (some [])) /\ ¬ O w.heap.size))
   W1 hb1
   (λ k O O' A B hs hm ho1 ho2 => ⟨hI k O O' A B hs.1 hm ho1 ho2, stay O O' A B _ _ hs.2.1.1 hs.2.1.2 hm ho2, stay O O' A B _ _ hs.2.2.1 hs.2.2.2 hm ho2⟩)
   (λ k O O' A B hs hm ho1 ho2 => by
    obtain ⟨c, hc, hl, hk⟩ := hs;exact ⟨c, hIx c k O O' A B hc hm ho1 ho2, stay O O' A B _ _ hl.1 hl.2 hm ho2, stay O O' A B _ _ hk.1 hk.2 hm ho2⟩)
   ?_ ⟨hI1, ⟨hL1, λ h => h⟩, ⟨hK1, λ h => h⟩⟩).mono ?_
  ·rintro k x O W hx ⟨hi, ⟨hl, hol⟩, ⟨hk, hok⟩⟩
   have hlt : w.heap.size + 1 < W.heap.size := (Jf.1 hl).1;have hnR : ¬ R (w.heap.size + 1) := λ h => Hf (hR _ h);have hy := run_yield (P := P) (args := encs x) hl (by rw [hrec]; exact hps x);rw [hrec] at hy;refine ⟨fn, _, assign, body, hy, roundIn_of_wpIn hfn (KR (hassign k x O W hx hi hlt hol hok) ?_)⟩;clear hy;intro e a' Wa hp;cases e with
   | ret => exact hp.elim
   | exit id => exact hp.elim
   | goto t => exact hp.elim
   | panic ch => exact hp.elim
   | outgrown => exact hp.elim
   | normal =>
    obtain ⟨hia, hka, hax⟩ := hp;have hla := (hka.block _ (Iz (Iz (Iy rfl))) hlt).trans hl;have hda := (hka.block _ (Iz (Iz (Iz rfl))) GR).trans hk;have z0r : w.heap.size + 1 < Wa.heap.size := (Jf.1 hla).1;refine ⟨_, run_beginRound hla (by rw [hrec]), ?_⟩;generalize nC : Wa.putObj (w.heap.size + 1) (.loop { rec .ready none with state := .busy }) = Wb;have hl2 : Wb.heap[w.heap.size + 1]? = some (.loop { rec .ready none with state := .busy }) := by rw [<-nC]; exact Lx z0r
    have hk2 : Wb.heap[w.heap.size]? = some (.deferred (some [])) := by rw [<-nC]; exact (Jd GR).trans hda
    have hib : I k O Wb := by rw [<-nC]; exact kY k O _ _ _ hla hia
    have hab : Ax x a' Wb := by rw [<-nC]; exact hAx x a' _ _ _ _ hla hax
    have hkb : dm (λ i => O i \/ R i) W Wb := by
     exact P9
    refine KR (hbody k x O a' Wb hx ⟨_, hl2⟩ ⟨_, hk2⟩ hol hok hib hab) ?_;exact Ol
  ·exact O_
theorem kR {P : Program} {b : Frame} {a : Act} {k : List Item} {cs : List Frame} {c : Code} :
 step P (lone (b.atR a (.code (.scope c) :: k)) cs w) = .next (lone (b.atR a (.code c :: .inScope c :: k)) cs w) :=
 step_lone_go (by simp [stepG, stepG.exec, Frame.atR])
theorem ER {P : Program} {b : Frame} {a : Act} {k : List Item} {cs : List Frame} {c : Code} :
 step P (lone (b.atR a (.inScope c :: k)) cs w) = .next (lone (b.atR a k) cs w) :=
 step_lone_go (by simp [stepG, stepG.exec, Frame.atR])
theorem En {F : Fence} {P : Program} {Q : Exit -> Act -> World -> Prop} {a : Act} {c : Code} (h : c.wpIn F n P (Exit.noGoto Q) a w) : (Code.scope c).wpIn F n P Q a w := by
 intro b k cs hro hb hr;have h0 : (lone (b.atR a (.code (.scope c) :: k)) cs w).fenced P F := K8 hb hr rfl;obtain ⟨e, a₁, w₁, hq, harr⟩ := h b (.inScope c :: k) cs hro hb hr;have hx : ∀ id, exitTo id (.inScope c :: k) = exitTo id k := λ id => by simp [exitTo]
 cases e with
 | normal => exact ⟨.normal, a₁, w₁, hq, .head h0 kR (StepsIn.trans harr (.one (K8 hb hr rfl) ER))⟩
 | exit id => exact ⟨.exit id, a₁, w₁, hq, λ k' hk => .head h0 kR (harr.1 k' Nu),
  λ hr' hk => let ⟨k₁, h1, h2⟩ := harr.2 hr' Nu; ⟨k₁, h1, .head h0 kR h2⟩⟩
 | goto l => exact hq.elim
 | ret => exact ⟨_, a₁, w₁, hq, .of_steps (.one h0 kR) harr⟩
 | panic ch => exact ⟨_, a₁, w₁, hq, .of_steps (.one h0 kR) harr⟩
 | outgrown => exact ⟨_, a₁, w₁, hq, .of_steps (.one h0 kR) harr⟩
theorem Eo {F : Fence} {P : Program} {Q : Exit -> Act -> World -> Prop} {a : Act} {l : Nat} {c : Code} (h : c.wpIn F n P Q a w) : (Code.seq (.label l) c).wpIn F n P Q a w :=
 wpIn_seq (wpIn_label h)
theorem vW {P : Program} {fn : Func} {tmps : Array Value} {R : Ending -> World -> Prop} {D : Nat}
 (hD : w.heap[D]? = some (.deferred (some []))) (hr : (results fn tmps).run P (w.putObj D (.deferred none)) = .ok v (w.putObj D (.deferred none)))
 (h : R (.returned v) (w.putObj D (.deferred none))) : LeavesInM Fence.wide 0 P fn tmps R [{ target := .collected D, args := #[] }] .returning w :=
 ⟨GV, .inl ⟨D, _, rfl, run_takeDeferred hD, ⟨v, hr, h⟩⟩⟩
theorem bD (o : Obj) (h : n = w.heap.size) : (w.alloc o).heap[n]? = some o := by subst h; exact IC w o
theorem aM {o o' : Obj} (h : n < w.heap.size) (k : w.heap[n]? = some o) : (w.alloc o').heap[n]? = some o := (heap_old_own w o' n h).trans k
namespace Dm
structure St where
 sec : Int -> List UInt8
 tp : Int -> List UInt8
def zeros : List UInt8 := List.replicate 256 0
def St.empty : St := ⟨λ _ => zeros, λ _ => []⟩
structure Step where
 what : Int
 n : Int
 many : Int
 b : List UInt8
def upd {α : Type} (f : Int -> α) (n : Int) (v : α) : Int -> α := λ k => if k = n then v else f k
def St.done (x : St) (s : Step) : St :=
 if s.what = 1 then { x with sec := upd x.sec s.n s.b }
 else if s.what = 2 then { x with tp := upd x.tp s.n (x.tp s.n ++ s.b) }
 else { x with tp := upd x.tp s.n ((x.tp s.n).take s.many.toNat) }
structure D where
 many : Int
 room : Int
 lasts : St
 waits : List Step
 dead : Bool
 stops : Int
def D.stand (d : D) : St := d.waits.foldl St.done d.lasts
def St.used (x : St) : Int := (x.tp 0).length + (x.tp 1).length + (x.tp 2).length + (x.tp 3).length
def new (Aw room : Int) : D := ⟨Aw, room, St.empty, [], false, -1⟩
def BD (Aw room : Int) : Int := if Aw < 0 \/ Aw > 4096 \/ room < 0 \/ room > 1048576 then 2 else 0
def D.goes (d : D) : D × Int :=
 if d.dead then (d, 281) else if d.stops = 0 then ({ d with dead := true, stops := -1 }, 281) else if d.stops > 0 then ({ d with stops := d.stops - 1 }, 0) else (d, 0)
def D.step (d : D) (s : Step) : D × Int :=
 if d.goes.2 = 0 then ({ d.goes.1 with waits := d.waits ++ [s] }, 0) else (d.goes.1, d.goes.2)
def D.append (d : D) (t : Int) (b : List UInt8) : D × Int :=
 if t < 0 \/ t > 3 then (d, 4) else if d.stand.used + b.length > d.room then (d, 280) else d.step ⟨2, t, 0, b⟩
def D.cut (d : D) (t n : Int) : D × Int :=
 if t < 0 \/ t > 3 \/ n < 0 \/ n > (d.stand.tp t).length then (d, 4) else d.step ⟨3, t, n, []⟩
def D.sync (d : D) : D × Int :=
 if d.goes.2 = 0 then ({ d.goes.1 with lasts := d.stand, waits := [] }, 0) else (d.goes.1, d.goes.2)
def D.stop (d : D) (after : Int) : D × Int :=
 if after < 0 then (d, 2) else if d.dead then (d, 281) else ({ d with stops := after }, 0)
def pick (k n : Int) : Int := k % n
theorem z7m (k n : Int) : (k.tmod n + n) % n = pick k n := by
 rw [Int.add_emod_right, Int.tmod_def, pick, Int.sub_mul_emod_self_left]
def St.part (x : St) (s : Step) (part : Int) : St :=
 if s.what = 1 then x.done ⟨1, s.n, 0, s.b.take (pick part 257).toNat ++ (x.sec s.n).drop (pick part 257).toNat⟩
 else if s.what = 2 then x.done ⟨2, s.n, 0, s.b.take (pick part (s.b.length + 1)).toNat⟩
 else x
structure bH where
 keep : List Bool
 bq : Int
 part : Int
def bH.dz (c : bH) (n i : Nat) : Bool := decide (c.part ≥ 0) && decide ((i : Int) = pick c.bq n)
def bH.kept (c : bH) (i : Nat) : Bool := decide (c.keep.length > 0) && c.keep.getD (i % max 1 c.keep.length) false
def eG (c : bH) (n : Nat) : List Step -> Nat -> St -> (Int -> Bool) -> St
 | [], _, x, _ => x
 | s :: l, i, x, ends =>
  if s.what ≠ 1 /\ ends s.n = true then eG c n l (i + 1) x ends
  else eG c n l (i + 1) (if c.dz n i then x.part s c.part else if c.kept i then x.done s else x)
   (if s.what ≠ 1 then upd ends s.n (c.dz n i || !c.kept i) else ends)
def D.aT (d : D) (c : bH) : D := ⟨d.many, d.room, eG c d.waits.length d.waits 0 d.lasts (λ _ => false), [], false, -1⟩
def Step.ok (many : Int) (s : Step) : Prop :=
 (s.what = 1 /\ 0 <= s.n /\ s.n < many /\ s.many = 0 /\ s.b.length = 256) \/ (s.what = 2 /\ 0 <= s.n /\ s.n <= 3 /\ s.many = 0 /\ s.b.length <= 1048576) \/ (s.what = 3 /\ 0 <= s.n /\ s.n <= 3 /\ 0 <= s.many /\ s.many <= 1048576 /\ s.b = [])
def D.upto (d : D) (k : Nat) : St := (d.waits.take k).foldl St.done d.lasts
structure D.ok (d : D) : Prop where
 vR : 0 <= d.many
 many1 : d.many <= 4096
 pz : 0 <= d.room
 fE : d.room <= 1048576
 sec : ∀ n, (d.lasts.sec n).length = 256
 tape : ∀ k t, ((d.upto k).tp t).length <= d.room
 waits : ∀ s ∈ d.waits, s.ok d.many
 stops : -1 <= d.stops
 si : d.stops <= 9223372036854775807
theorem upd_same {α : Type} (f : Int -> α) (n : Int) (v : α) : upd f n v n = v := by simp [upd]
theorem rY {α : Type} (f : Int -> α) (n k : Int) (v : α) (h : k ≠ n) : upd f n v k = f k := by simp [upd, h]
end Dm
structure Ext (B : Nat) (W : World) where
 world : World
 below : Below B W world
instance w2v (B : Nat) (W : World) : Nonempty (Ext B W) := ⟨⟨W, Below.refl _ _⟩⟩
theorem Ext.cell {B : Nat} (x : Ext B W) {p : Addr} (hp : p.block < B) (h : W.cell? p = some v) : x.world.cell? p = some v := (x.below.cell hp).trans h
def z9z : Op -> Bool
 | .defer _ => true
 | _ => false
theorem y3g {P : Program} {ops : Array Oper} {Q : Exit -> Act -> World -> Prop} (l0 : Nat) (hq : ∀ a w, ¬ Q .outgrown a w) (hd : ∀ (i : Nat) (o : Oper), ops[i]? = some o -> z9z o.op = false) :
 ∀ (l : List Nat) (a : Act) (w : World), wpOps P ops Q l a w -> wpOpsIn (Fence.wide.inRound l0) 0 P ops Q l a w := by
 intro l;induction l with
 | nil => exact λ a w h => h
 | cons i rest ih =>
  intro a w h;simp only [wpOps] at h;simp only [wpOpsIn];cases ho : ops[i]? with
  | none =>
   simp only [ho] at h ⊢;exact ih a w h
  | some o =>
   simp only [ho] at h ⊢;have hnd : ∀ c, o.op ≠ .defer c := λ c e => by have := hd i o ho; rw [e] at this; cases this
   split
   ·rename_i hw
    rw [IA hw] at h;rcases h with h | ⟨_, a', w', h⟩
    ·refine ⟨λ _ _ => trivial, ?_⟩
     rw [Oper.semAt_eq _ _ _ hnd];simp only [Oper.wp] at h;cases hr : (execOp a.eval o).run P w with
     | ok x w1 =>
      rw [hr] at h;cases x with
      | value v => exact ih _ _ h
      | skip => exact ih _ _ h
      | defer d => exact ih _ _ h
      | enter f args =>
       refine ⟨(λ e => by cases e), ?_⟩;have h' : Calls P f args w1 _ := h;refine CallsIn.inRound l0 ((Jg (n := 0)).2 (h'.mono λ e w2 he => ?_));cases e with
       | returned v => exact ih _ _ he
       | panicked ch => exact he
       | outgrown => exact he
      | row r args =>
       refine ⟨(λ e => by cases e), ?_⟩;intro c cs _;obtain ⟨v, w', hR, hs⟩ := h c cs;exact ⟨v, w', ih _ _ hR, stepsIn_wide.2 hs⟩
      | _ => exact h.elim
     | halt x w1 =>
      rw [hr] at h;cases x with
      | panic v => exact h
      | _ => exact h.elim
    ·exact (hq _ _ h).elim
   ·rename_i hw
    rw [Iw hw] at h;exact ⟨λ _ _ => trivial, ih _ _ h⟩
theorem z2h {P : Program} {id l0 : Nat} {Q : Exit -> Act -> World -> Prop} {a : Act} {l : List Oper} (hm : P.follows .mixedOrders = true) (hB : Region.lexB .any l.toArray = true) (hd : l.all (λ o => !z9z o.op) = true)
 (h : wpQuiet P l.toArray (λ w' => ∃ x : Ext w.heap.size w, w' = x.world) (λ a' => ∀ x : Ext w.heap.size w, Q .normal a' x.world) l a) : (Code.region id l.toArray true).wpIn (Fence.wide.inRound l0) 0 P Q a w := by
 have key : (Code.region id l.toArray true).wpIn (Fence.wide.inRound l0) 0 P (λ e a w => e = .normal /\ Q .normal a w) a w := by
  refine wpIn_region_draw λ t => y3g l0 (λ _ _ h => by cases h.1) (λ i o ho => ?_) _ _ _ ?_
  ·have hmem : o ∈ l := by
    have := Array.mem_of_getElem? ho;simpa using this
   have := JJ.1 hd o hmem;simpa using this
  ·simp only [Region.schedule, hm, Bool.true_or, I1]
   refine wpAny_sound l.toArray.size t _ a _ ?_;simp only [Region.lexB, Jh] at hB;refine wpAny_of_quiet (C := λ w' => ∃ x : Ext w.heap.size w, w' = x.world) (Q := λ a' => ∀ x : Ext w.heap.size w, Q .normal a' x.world) (λ a' w' hw' h => by obtain ⟨x, rfl⟩ := hw'; exact ⟨rfl, h x⟩) _ _ _ _ ⟨⟨w.drew, GY.drew⟩, rfl⟩ ?_;have := wpAnyQ_lex (C := λ w' => ∃ x : Ext w.heap.size w, w' = x.world) (md := .any) hB.1 l.toArray.toList 0 (Array.replicate l.toArray.size false) a GV (by simpa using hB.2) NU;simpa using this
 refine KR key (λ e a' w' he => ?_);obtain ⟨rfl, hq⟩ := he;exact hq
theorem qB {P : Program} {id : Nat} {Q : Exit -> Act -> World -> Prop} {a : Act} {l : List Oper} (n : Nat) (hm : P.follows .mixedOrders = true) (hB : Region.lexTailB .any l.toArray n = true)
 (h : wpStill P l.toArray w.drew (λ a' => wpList P l.toArray Q (l.drop n) a' w.drew) (l.take n) a) : (Code.region id l.toArray true).wp P Q a w := wp_region_still_tail n hm hB h
theorem fK {P : Program} {t ty : TypeId} {cs : Array Value} {fr : Nat × Nat} {d : TypeDesc} (hg : w.heap[g]? = some (.cells cs t fr))
 (hu : P.underlying ty = some d) (hd : (match d with | .struct _ | .array _ _ => true | _ => false) = true) (hi : (P.info? ty).map (·.size) = some cs.size) :
 (Instr.loadAt ty (.pointer (some g))).run P w = .ok (.agg cs) w := by
 simp only [Instr.loadAt, Instr.sureAddr, JE, JS, JF];exact KX w g t ty cs fr d hg hu hd hi
open Dm
abbrev dO : Nat := 95
abbrev dY : Nat := 115
abbrev bT : Nat := 5
def bL (b : UInt8) : Value := .int .u8 b.toNat
def BytesAt (h : Array Obj) (F : Nat -> Prop) (v : Value) (l : List UInt8) : Prop :=
 (v = .slice none 0 0 /\ l = []) \/ ∃ (b o cap : Nat) (c : Array Value) (t : TypeId) (fr : Nat × Nat), v = .slice (some ⟨b, o, none⟩) l.length cap /\ l.length <= cap /\ cap <= 9223372036854775807 ∧
  F b /\ h[b]? = some (.cells c t fr) /\ ∀ i x, l[i]? = some x -> c[o + i]? = some (bL x)
def iZ (h : Array Obj) (m : Nat) (f : Int -> List UInt8) : Prop :=
 ∃ (es : Array MapEntry) (clock : Nat), h[m]? = some (.map es clock) /\ (∀ e ∈ es, e.born < clock) ∧
  (∀ e ∈ es, ∃ n : Int, e.key = .int .i64 n /\ e.val = .agg ((f n).map bL).toArray /\ (f n).length = 256) ∧
  (∀ n : Int, (∀ e ∈ es, e.key ≠ .int .i64 n) -> f n = zeros) /\ (es.toList.map (·.key)).Nodup /\ (es.toList.map (·.born)).Nodup
def il (h : Array Obj) (F : Nat -> Prop) (s : Step) (does part tape w0 w1 w2 str : Value) : Prop :=
 w0 = .int .i64 s.what /\ w1 = .int .i64 s.n /\ w2 = .int .i64 s.many /\ (∃ ba : ByteArray, str = .string ba /\ ba.data.toList = s.b) ∧
 ((s.what = 1 /\ tape = .int .i64 (-1) /\ ∃ bn bx : Nat, F bn /\ F bx /\ does ≠ does ∧
  part = part /\ h[bn]? = some (.cells #[.int .i64 s.n] 3 (0, 0)) /\ h[bx]? = some (.cells (s.b.map bL).toArray 135 (0, 0))) ∨
  (s.what = 2 /\ tape = .int .i64 s.n /\ ∃ bt bx oF bx' : Nat, ∃ v : Value, F bt /\ F bx /\ F oF /\ F bx' /\ does = .func (.func 142) #[] #[.pointer (some ⟨oF, 0, none⟩), .pointer (some ⟨bx', 0, none⟩)] ∧
   part = .func (.func 101) #[] #[.pointer (some ⟨bt, 0, none⟩), .pointer (some ⟨bx, 0, none⟩)] /\ h[bt]? = some (.cells #[.int .i64 s.n] 3 (0, 0)) /\ h[oF]? = some (.cells #[.int .i64 s.n] 3 (0, 0)) ∧
   h[bx]? = some (.cells #[v] 31 (0, 0)) /\ h[bx']? = some (.cells #[v] 31 (0, 0)) /\ BytesAt h F v s.b) ∨
  (s.what = 3 /\ tape = .int .i64 s.n /\ ∃ bt bn : Nat, F bt /\ F bn /\ does = .func (.func 122) #[] #[.pointer (some ⟨bt, 0, none⟩), .pointer (some ⟨bn, 0, none⟩)] ∧
   part = .func (.func 123) #[] #[] /\ h[bt]? = some (.cells #[.int .i64 s.n] 3 (0, 0)) /\ h[bn]? = some (.cells #[.int .i64 s.many] 3 (0, 0))))
def jX (h : Array Obj) (F : Nat -> Prop) (v : Value) (l : List Step) : Prop :=
 (v = .slice none 0 0 /\ l = []) \/ ∃ (b o cap : Nat) (c : Array Value) (t : TypeId) (fr : Nat × Nat), v = .slice (some ⟨b, o, none⟩) l.length cap /\ l.length <= cap /\ cap <= 9223372036854775807 ∧
  F b /\ h[b]? = some (.cells c t fr) ∧
   ∀ i s, l[i]? = some s -> ∃ d p tp w0 w1 w2 st, c[o + i * 7]? = some d /\ c[o + i * 7 + 1]? = some p /\ c[o + i * 7 + 2]? = some tp /\ c[o + i * 7 + 3]? = some w0 /\ c[o + i * 7 + 4]? = some w1 /\ c[o + i * 7 + 5]? = some w2 /\ c[o + i * 7 + 6]? = some st /\ il h F s d p tp w0 w1 w2 st
def uf (m : Nat) (t0 t1 t2 t3 : Value) (ml : Nat) (l0 l1 l2 l3 wv : Value) (many most : Int) (dead stops : Bool) (after : Int) : Array Value :=
 #[.map (some m), t0, t1, t2, t3, .map (some ml), l0, l1, l2, l3, wv, .int .i64 many, .int .i64 most, .bool dead, .bool stops, .int .i64 after, .bool true]
structure aQ (h : Array Obj) (p m : Nat) (d : D) (F : Nat -> Prop) : Prop where
 ok : d.ok
 cells : ∃ t0 t1 t2 t3 ml l0 l1 l2 l3 wv stops after, h[p]? = some (.cells (uf m t0 t1 t2 t3 ml l0 l1 l2 l3 wv d.many d.room d.dead stops after) dO (0, 0)) ∧
  (d.stops = if stops then after else -1) /\ (stops = true -> 0 <= after) ∧
  iZ h m d.stand.sec /\ iZ h ml d.lasts.sec /\ F ml /\ ¬ F m /\ ¬ F p /\ m ≠ p ∧
  BytesAt h F t0 (d.stand.tp 0) /\ BytesAt h F t1 (d.stand.tp 1) /\ BytesAt h F t2 (d.stand.tp 2) /\ BytesAt h F t3 (d.stand.tp 3) ∧
  BytesAt h F l0 (d.lasts.tp 0) /\ BytesAt h F l1 (d.lasts.tp 1) /\ BytesAt h F l2 (d.lasts.tp 2) /\ BytesAt h F l3 (d.lasts.tp 3) /\ jX h F wv d.waits
theorem BytesAt.stays {h h' : Array Obj} (x : BytesAt h F v l) (hs : ∀ k, F k -> h'[k]? = h[k]?) (hF : ∀ k, F k -> F' k) : BytesAt h' F' v l := by
 rcases x with x | ⟨b, o, cap, c, t, fr, h1, h2, h3, g2, g3, g4⟩
 ·exact Iy x
 ·exact Iz ⟨b, o, cap, c, t, fr, h1, h2, h3, hF _ g2, (hs _ g2).trans g3, g4⟩
theorem iZ.stays {h h' : Array Obj} {f : Int -> List UInt8} (x : iZ h m f) (hs : h'[m]? = h[m]?) : iZ h' m f := by
 obtain ⟨es, clock, h1, h2⟩ := x;exact ⟨es, clock, hs.trans h1, h2⟩
theorem infoByte : (prog.info? bT).map (λ i => (i.zero, i.size, i.bytes)) = some (some (.int .u8 0), 1, 1) := GQ
def zU (w : World) (l : List UInt8) (e : Ending) (w' : World) : Prop := ∃ v', e = .returned v' /\ Below w.heap.size w w' /\ BytesAt w'.heap (λ k => w.heap.size <= k) v' l
theorem Dj {base : Nat} (h : w.ownsRow base bT 1 v n (l.map bL)) (hn : n = l.length) : BytesAt w.heap (λ k => base <= k) v l := by
 subst hn;obtain ⟨_, h⟩ := h;rcases h with ⟨rfl, h⟩ | ⟨g, cap, cur, rfl, hg, hh, h1, h2, h3, h4⟩
 ·exact Iy ⟨rfl, by simpa using h⟩
 ·refine Iz ⟨g, 0, cap, cur, bT, (0, 0), rfl, h1, by unfold maxLen at h2; omega, hg, hh, λ i x hi => ?_⟩
  have hlt : i < l.length := (IY.1 hi).1;have e : (cur.toList.take (l.length * 1))[i]? = some (bL x) := by rw [h4]; simp [hi]
  rw [JI, IA GR] at e;rw [I8];simpa using e
theorem y1t (w : World) : Calls prog 98 #[()] w λ e w' => e = .returned (.slice none 0 0) /\ w = w' := by
 have h1 := K_ (P := prog);go_in;go_wp2;exact OJ
theorem y1s (ad : Addr) (cap : Nat) (l : List UInt8) (w : World) (hl : l.length <= 1099511627776) (hc : ∀ j u, (l.map bL)[j]? = some u -> w.cell? (ad.add j) = some u) :
 Calls prog 98 #[.slice (some ad) l.length cap] w (zU w l) := by
 obtain ⟨i0, hi, hz0, hz1, hz2⟩ := JG infoByte
 have hown : (w.alloc (.cells #[] bT)).ownsRow w.heap.size bT 1 (.slice (some w.heap.size) 0 0) 0 [] :=
  ⟨rfl, Iz ⟨w.heap.size, 0, #[], rfl, Nat.le_refl _, IC _ _, Nat.le_refl _, IV _, rfl, rfl⟩⟩
 have HC := hd1 hc;have HO := hd1 hown;have HI := hd4 hi hz0 hz1 hz2;clear hc hown hi hz0 hz1 hz2;have s2 : ∀ j u, (l.map bL)[j]? = some u -> (w.alloc (.cells #[] bT)).cell? (ad.add j) = some u := by
  intro j u hj;have hc := HC.out j u hj;exact (((Below.refl w w).alloc GZ (.cells #[] bT)).cell (p := ad.add j) (IX hc)).trans hc
 have s3 : ∀ u ∈ l.map bL, u.oneCell' = true := by
  intro u hu;exact Qv
 have HS := hd2 s2 s3;clear s2 s3;have hnil := λ (w : World) (a : Option Addr) (n c : Nat) => K_ (P := prog) w 31 bT a n c 0 0 Ia;go_in;go_wp2_with (at_builtin; refine Ky _ rfl (.tmp 5) (.tmp 6) 31 rfl w.heap.size bT i0 (.int .u8 0) 1 1 Ia HI.1 HI.2.1 HI.2.2.1 HI.2.2.2 rfl GU _ 0 [] rfl HO.out ad l.length cap (l.map bL) rfl GV HS.1 HS.2 Nr GR GV ?_; intro v' w1 hown1 hgrow _)
 go_ret;refine ⟨_, rfl, ((bla).grown hgrow GV (λ k e => by cases e; exact Nat.le_refl _)), ?_⟩;rw [Ji] at hown1;exact Dj hown1 GV
theorem x8q (b o cap : Nat) (l : List UInt8) (w : World) (hl : l.length <= 1099511627776) (hc : ∀ i x, l[i]? = some x -> w.cell? ⟨b, o + i, none⟩ = some (bL x)) :
 Calls prog 98 #[.slice (some (b, o)) l.length cap] w (zU w l) := y1s ⟨b, o, none⟩ cap l w hl λ j u hj => by
 obtain ⟨x, hx, rfl⟩ : ∃ x, l[j]? = some x /\ bL x = u := by simpa using hj
 have hadd : (⟨b, o, none⟩ : Addr).add j = ⟨b, o + j, none⟩ := by unfold Addr.add; split <;> simp_all
 rw [hadd];exact hc j x hx
end Go.Proofs.YtgffifleflkjoaaGreat
