/-
  Parts of a proof.
-/
import Derived.Test.YtgffifleflkjoaaGreatFin03
import Derived.Deep.MidRow
set_option linter.unusedSimpArgs false
set_option linter.unusedVariables false
set_option maxRecDepth 100000
set_option maxHeartbeats 16000000
namespace Go.Proofs.YtgffifleflkjoaaGreat
open _root_.Go.Proofs.Tryz
variable {w W w' w0 wr w1 W0 W1 W2 A B : World} {F G F' O : Nat → Prop} {v : Value} {l : List UInt8} {n q m pd md pl g p : Nat} {C : Array Value} {c : Int}
open Go.RowKit Dm
theorem x1d (w : World) : Calls prog 45 #[.pointer none] w λ e w' => e = .returned (.bool true) /\ w = w' := by
 go_in;go_wp2;exact OJ
theorem gY (p : Nat) (made : Bool) (w : World) (h : w.cell? (p, 16) = some (.bool made)) :
 Calls prog 45 #[p] w λ e w' => e = .returned (.bool (!made)) /\ w = w' := by
 cases made
 all_goals
  go_in;go_wp2;go_ret;exact ⟨rfl, rfl⟩
theorem vK (k n : Int) (w : World) (hk : -9223372036854775808 <= k) (hk' : k <= 9223372036854775807) (h1 : 1 <= n) (h2 : n <= 1152921504606846976) :
 Calls prog 46 #[.int .i64 k, .int .i64 n] w λ e w' => e = .returned (.int .i64 (pick k n)) /\ w = w' := by
 exact Qj
theorem y8i (p : Nat) (n : Int) (w : World) (h : w.cell? (p, 16) = some (.bool true)) (h2 : w.cell? (p, 12) = some (.int .i64 n)) :
 Calls prog 80 #[p] w λ e w' => e = .returned (.int .i64 n) /\ w = w' := by
 go_in;go_wp2_with (go_at_call 45; refine (gY _ true _ h).mono ?_; rintro e w' ⟨rfl, rfl⟩)
 exact OJ
theorem y4l (p : Nat) (a : Option Addr) (n c : Nat) (w : World) (h : w.cell? (p, 16) = some (.bool true)) (h2 : w.cell? (p, 10) = some (.slice a n c)) :
 Calls prog 62 #[p] w λ e w' => e = .returned (.int .i64 n) /\ w = w' := by
 go_in;go_wp2_with (go_at_call 45; refine (gY _ true _ h).mono ?_; rintro e w' ⟨rfl, rfl⟩)
 exact OJ
theorem x6n (p : Nat) (d : Bool) (w : World) (h : w.cell? (p, 16) = some (.bool true)) (h2 : w.cell? (p, 13) = some (.bool d)) :
 Calls prog 63 #[p] w λ e w' => e = .returned (.bool d) /\ w = w' := by
 go_in;go_wp2_with (go_at_call 45; refine (gY _ true _ h).mono ?_; rintro e w' ⟨rfl, rfl⟩)
 exact OJ
theorem x5y (p : Nat) (w : World) (h : w.cell? (p, 13) = some (.bool true)) :
 Calls prog 102 #[p] w λ e w' => e = .returned (.int .i64 281) /\ w = w' := by
 go_in;go_wp2;exact OJ
theorem x4a (p : Nat) (w : World) (h : w.cell? (p, 13) = some (.bool false)) (h2 : w.cell? (p, 14) = some (.bool false)) :
 Calls prog 102 #[p] w λ e w' => e = .returned (.int .i64 0) /\ w = w' := by
 go_in;go_wp2;exact OJ
theorem x5z (p : Nat) (w : World) (h : w.cell? (p, 13) = some (.bool false)) (h2 : w.cell? (p, 14) = some (.bool true)) (h3 : w.cell? (p, 15) = some (.int .i64 0))
 (f1 : w.frozen? ⟨p, 13, none⟩ = false) (f2 : w.frozen? ⟨p, 14, none⟩ = false) :
 Calls prog 102 #[p] w λ e w' => e = .returned (.int .i64 281) /\ (w.setCell (p, 13) (.bool true)).setCell (p, 14) (.bool false) = w' := by
 go_in;go_wp2;exact OJ
theorem x5x (p : Nat) (n : Int) (w : World) (h : w.cell? (p, 13) = some (.bool false)) (h2 : w.cell? (p, 14) = some (.bool true)) (h3 : w.cell? (p, 15) = some (.int .i64 n)) (hn : 0 < n) (hn' : n <= 9223372036854775807)
 (f3 : w.frozen? ⟨p, 15, none⟩ = false) :
 Calls prog 102 #[p] w λ e w' => e = .returned (.int .i64 0) /\ w.setCell (p, 15) (.int .i64 (n - 1)) = w' := by
 have hne : (n == 0) = false := by simp; omega
 go_in;go_wp2;exact OJ
section
variable {P : Program} {ops : Array Oper} {md : Region.Mode} {I : World -> Prop} {tail : List Nat}
abbrev sP : Exit -> Act -> World -> Prop := λ _ _ _ => False
def gD (P : Program) (md : Region.Mode) (ops : Array Oper) (I : World -> Prop) (tail : List Nat) (Q : Act -> World -> Prop) : Nat -> Array Bool -> Act -> World -> Prop
 | 0, listed, a, w => Region.ready md ops listed = [] /\ Q a w
 | f + 1, listed, a, w => (Region.ready md ops listed = [] -> Q a w) /\ ∀ i ∈ Region.ready md ops listed, wpOp P ops sP i (λ a' w' => (i ∉ tail -> I w') /\ gD P md ops I tail Q f (listed.setIfInBounds i true) a' w') a w
def gJ (P : Program) (ops : Array Oper) (I : World -> Prop) (o : Oper) (v : Value) (a : Act) : Prop :=
 (Region.wanted o (yielded ops a.tmps) = true /\ ∀ w, I w -> (execOp a.eval o).run P w = .ok (.value v) w) \/ (Region.wanted o (yielded ops a.tmps) = false /\ v = undef)
theorem gJ.of_same {o : Oper} {a a' : Act} (hy : gJ P ops I o v a) (he : execOp a'.eval o = execOp a.eval o)
 (hw : Region.wanted o (yielded ops a'.tmps) = Region.wanted o (yielded ops a.tmps)) : gJ P ops I o v a' := by
 unfold gJ at *;rw [he, hw];exact hy
theorem gJ.wpOp {i : Nat} {o : Oper} {a : Act} (hi : ops[i]? = some o) (hy : gJ P ops I o v a)
 {Q : Exit -> Act -> World -> Prop} {K : Act -> World -> Prop} (hI : I w) (h : K (a.put o.dst v) w) : wpOp P ops Q i K a w := by
 unfold Go.wpOp;simp only [hi];rcases hy with ⟨hw, hv⟩ | ⟨hw, rfl⟩
 ·simp only [hw, I1, Oper.wp, hv w hI, Oper.upon]; exact .inl h
 ·simp only [hw, KJ, JM]; exact h
theorem Ef {j : Nat} {oi oj : Oper} (hj : ops[j]? = some oj) (hap : oi.apart ops oj = true)
 (hsi : ∀ cs b, oi.op ≠ .select cs b) (hsj : ∀ cs b, oj.op ≠ .select cs b) {K : Act -> World -> Prop} {a : Act}
 (hy : gJ P ops I oi v a) (h : wpOp P ops sP j K (a.put oi.dst v) w) :
 wpOp P ops sP j (λ a' w' => gJ P ops I oi v a' /\ K (a'.put oi.dst v) w') a w := by
 obtain ⟨h1, h2, h3⟩ := Oper.apart_spec hap
 have keep : ∀ (a : Act), gJ P ops I oi v a -> ∀ u, gJ P ops I oi v (a.put oj.dst u) := λ a hy u =>
  hy.of_same (KP oi hsi a oj.dst u h3) (wanted_put oi a oj.dst u h3)
 have keepD : ∀ d, gJ P ops I oi v { a with defers := d :: a.defers } := λ d => hy.of_same rfl rfl;unfold wpOp at *;simp only [hj] at *;rw [wanted_put oj a oi.dst v h1] at h;split
 ·rename_i hw
  simp only [hw, I1] at h;rcases h with h | ⟨hasks, hlets⟩;case inr => exact .inr ⟨by unfold Oper.asks at *; rw [KP oj hsj a oi.dst v h1] at hasks; exact hasks, hlets⟩
  refine .inl ?_;unfold Oper.wp at *;rw [KP oj hsj a oi.dst v h1] at h;generalize (execOp a.eval oj).run P w = r at *;cases r with
  | ok n w' =>
   cases n <;> simp only [Oper.upon] at h ⊢;case value u => exact ⟨keep a hy u, by rw [<-JQ a v u h2]; exact h⟩
   case skip => exact ⟨keep a hy _, by rw [<-JQ a v undef h2]; exact h⟩
   case defer d =>
    exact QZ
   case enter f args =>
    refine Calls.mono h λ e w'' he => ?_;cases e with
    | returned u => exact ⟨keep a hy u, by rw [<-JQ a v u h2]; exact he⟩
    | panicked c => exact he
    | outgrown => exact he
   case row row args => exact Rows.mono h λ u w'' he => ⟨keep a hy u, by rw [<-JQ a v u h2]; exact he⟩
  | halt x w' =>
   cases x <;> simp only [Oper.upon] at h ⊢;case panic u => exact h
 ·exact Q8
def Closed (md : Region.Mode) (ops : Array Oper) (listed : Array Bool) : Prop :=
 ∀ j oj, ops[j]? = some oj -> listed.getD j false = true -> ∀ e ∈ oj.after, Region.binds md e = true -> listed.getD e.on false = true
theorem Closed.set {listed : Array Bool} {i : Nat} (h : Closed md ops listed) (hi : i ∈ Region.ready md ops listed) : Closed md ops (listed.setIfInBounds i true) := by
 obtain ⟨_, oi, hoi, hall⟩ := Jq.1 hi;intro j oj hj hl e he hb;by_cases hij : i = j
 ·subst hij
  have : oj = oi := IM (hj.symm.trans hoi);subst this;exact getD_set_true (hall e he hb)
 ·rw [KQ false hij] at hl
  exact getD_set_true (h j oj hj hl e he hb)
def jA (md : Region.Mode) (ops : Array Oper) : Nat -> Nat -> Nat -> Bool
 | 0, _, _ => false
 | f + 1, t, i => match ops[t]? with
  | some o => o.after.any λ e => Region.binds md e && (e.on == i || jA md ops f e.on i)
  | none => false
theorem yH {listed : Array Bool} (hc : Closed md ops listed) : ∀ (f t i : Nat), jA md ops f t i = true -> listed.getD t false = true -> listed.getD i false = true
 | 0, _, _, h, _ => by cases h
 | f + 1, t, i, h, ht => by
  simp only [jA] at h;split at h
  ·rename_i o ho
   obtain ⟨e, he, hb⟩ := Me.1 h;simp only [Jh, Lr, beq_iff_eq] at hb;have h1 := hc t o ho ht e he hb.1;rcases hb.2 with h2 | h2
   ·rw [<-h2]; exact h1
   ·exact yH hc f e.on i h2 h1
  ·cases h
theorem z8y {listed : Array Bool} (hc : Closed md ops listed) {f t i : Nat} (h : jA md ops f t i = true) (hi : listed.getD i true = false) : t ∉ Region.ready md ops listed := by
 intro ht;obtain ⟨_, o, ho, hall⟩ := Jq.1 ht;have hf : listed.getD i false = false := Kh hi;cases f with
 | zero => cases h
 | succ f =>
  simp only [jA, ho] at h;obtain ⟨e, he, hb⟩ := Me.1 h;simp only [Jh, Lr, beq_iff_eq] at hb;have h1 := hall e he hb.1;rcases hb.2 with h2 | h2
  ·rw [h2, hf] at h1; cases h1
  ·rw [yH hc f e.on i h2 h1] at hf; cases hf
theorem y4t {Q : Act -> World -> Prop} {i : Nat} {oi : Oper} (hi : ops[i]? = some oi) (hsel : ∀ (j : Nat) (o : Oper) cs b, ops[j]? = some o -> o.op ≠ .select cs b) (g : Nat) (hw : ∀ t ∈ tail, jA md ops g t i = true) :
 ∀ (fuel : Nat) (listed : Array Bool) (a : Act) (w : World), Closed md ops listed ->
  (∀ j oj, ops[j]? = some oj -> j ≠ i -> listed.getD j true = false -> (∀ e ∈ oj.after, Region.binds md e = true -> e.on ≠ i) -> oi.apart ops oj = true) ->
  i ∈ Region.ready md ops listed -> gJ P ops I oi v a -> I w ->
  gD P md ops I tail Q fuel (listed.setIfInBounds i true) (a.put oi.dst v) w -> gD P md ops I tail Q (fuel + 1) listed a w := by
 intro fuel;induction fuel with
 | zero =>
  exact PP
 | succ fuel ih =>
  intro listed a w hcl hfree hr hy hI H;refine ⟨λ h => Nj, λ j hj => ?_⟩;by_cases hji : j = i
  ·subst hji; exact hy.wpOp hi hI ⟨λ _ => hI, H⟩
  ·have h1 := H.2 j (JR hj hji)
   obtain ⟨hjun, oj, hoj, hall⟩ := Jq.1 hj;have hun := (Jq.1 hr).1;have hjt : j ∉ tail := λ hm => z8y hcl (hw j hm) hun hj;have hnot : ∀ e ∈ oj.after, Region.binds md e = true -> e.on ≠ i := λ e he hb heq => by
    exact P7
   have h2 := Ef hoj (hfree j oj hoj hji hjun hnot) (λ cs b => hsel i oi cs b hi) (λ cs b => hsel j oj cs b hoj) hy h1;exact OY
theorem Ee {i : Nat} {a : Act} {K K' : Act -> World -> Prop} {Q' : Exit -> Act -> World -> Prop} (h : ∀ a w, K a w -> K' a w) (hh : wpOp P ops sP i K a w) : wpOp P ops Q' i K' a w := by
 unfold wpOp at *;split
 ·exact h _ _ (by simpa [*] using hh)
 ·rename_i o ho
  simp only [ho] at hh;split
  ·rename_i hw
   simp only [hw, I1] at hh;rcases hh with hh | ⟨_, _, _, hx⟩
   ·refine .inl ?_
    unfold Oper.wp at *;generalize (execOp a.eval o).run P w = r at *;cases r with
    | ok n w' =>
     cases n <;> simp only [Oper.upon] at hh ⊢;case value u => exact h _ _ hh
     case skip => exact h _ _ hh
     case defer d => exact h _ _ hh
     case enter f args =>
      refine Calls.mono hh λ e w'' he => ?_;cases e with
      | returned u => exact h _ _ he
      | panicked c => exact he.elim
      | outgrown => obtain ⟨_, _, hx⟩ := he; exact hx.elim
     case row row args => exact Rows.mono hh λ u w'' he => h _ _ he
    | halt x w' =>
     cases x <;> simp only [Oper.upon] at hh ⊢;case panic u => exact hh.elim
   ·exact hx.elim
  ·rename_i hw
   simp only [hw] at hh;exact h _ _ hh
theorem z2d {Q : Act -> World -> Prop} {Q' : Exit -> Act -> World -> Prop} (hQ : ∀ a w, Q a w -> Q' .normal a w) : ∀ (f : Nat) (listed : Array Bool) (a : Act) (w : World), gD P md ops I tail Q f listed a w -> wpAny P md ops Q' f listed a w
 | 0, _, _, _, h => ⟨h.1, hQ _ _ h.2⟩
 | f + 1, _, _, _, h => ⟨λ h0 => hQ _ _ (h.1 h0), λ i hi => Ee (λ a' w' h' => z2d hQ f _ a' w' h'.2) (h.2 i hi)⟩
theorem y4v {Q : Act -> World -> Prop} {f k : Nat} {listed : Array Bool} {a : Act} {o : Oper} (ho : ops[k]? = some o) (hr : Region.ready md ops listed = [k])
 (h : wpOp P ops sP k (λ a' w' => (k ∉ tail -> I w') /\ gD P md ops I tail Q f (listed.setIfInBounds k true) a' w') a w) : gD P md ops I tail Q (f + 1) listed a w :=
 ⟨λ h0 => Nh, λ i hi => by rw [hr] at hi; have e : i = k := NI; subst e; exact h⟩
def ah (w : World) (v : Value) : Result Next -> Prop
 | .ok (.value u) w' => w' = w /\ u = v
 | _ => False
def au (P : Program) (I : World -> Prop) (o : Oper) (a : Act) (next : Act -> Prop) : Prop := ∃ v, (∀ w, I w -> ah w v ((execOp a.eval o).run P w)) /\ next (a.put o.dst v)
def f_ (P : Program) (ops : Array Oper) (I : World -> Prop) (Q : Act -> Prop) : List Oper -> Act -> Prop
 | [], a => Q a
 | o :: rest, a => if Region.wanted o (yielded ops a.tmps) then au P I o a (f_ P ops I Q rest) else f_ P ops I Q rest (a.put o.dst undef)
theorem aA {Q : Act -> Prop} {a : Act} (h : Q a) : f_ P ops I Q [] a := h
theorem ak {Q : Act -> Prop} {a : Act} {o : Oper} {rest : List Oper}
 (h : ∀ K : Act -> Prop, (∀ a, f_ P ops I Q rest a -> K a) -> if Region.wanted o (yielded ops a.tmps) then au P I o a K else K (a.put o.dst undef)) : f_ P ops I Q (o :: rest) a :=
 h _ (λ _ h => h)
def tC (md : Region.Mode) (ops : Array Oper) (tail : List Nat) : List Nat -> Array Bool -> Bool
 | [], _ => true
 | k :: r, listed => (Region.ready md ops listed).contains k && Region.free md ops listed k && tail.all (λ t => jA md ops ops.size t k) && tC md ops tail r (listed.setIfInBounds k true)
theorem z3y {Q : Act -> World -> Prop} (hs : Region.noSelect ops = true) (hI : I w) : ∀ (ks : List Nat) (f : Nat) (listed : Array Bool) (a : Act), Closed md ops listed -> tC md ops tail ks listed = true ->
 f_ P ops I (λ a' => gD P md ops I tail Q f (ks.foldl (λ l k => l.setIfInBounds k true) listed) a' w) (ks.filterMap (λ k => ops[k]?)) a -> gD P md ops I tail Q (f + ks.length) listed a w
 | [], f, listed, a, _, _, h => h
 | k :: r, f, listed, a, hc, hB, h => by
  simp only [tC, Jh, JJ] at hB;obtain ⟨⟨⟨h1, h2⟩, h3⟩, h4⟩ := hB;have hr : k ∈ Region.ready md ops listed := by simpa using h1
  obtain ⟨_, o, ho, _⟩ := Jq.1 hr;simp only [List.filterMap_cons, ho, f_] at h;have : ∃ v, gJ P ops I o v a /\ f_ P ops I (λ a' => gD P md ops I tail Q f ((k :: r).foldl (λ l k => l.setIfInBounds k true) listed) a' w) (r.filterMap (λ k => ops[k]?)) (a.put o.dst v) := by
   exact OD
  obtain ⟨v, hy, hn⟩ := this;rw [show f + (k :: r).length = (f + r.length) + 1 by simp; omega];exact y4t ho (Ls hs) ops.size h3 _ _ _ _ hc (Lt ho h2) hr hy hI (z3y hs hI r f _ _ (hc.set hr) h4 hn)
theorem x8u (n : Nat) : Closed md ops (Array.replicate n false) := λ j oj _ hl => by rw [getD_replicate_false] at hl; cases hl
def Dc (md : Region.Mode) (ops : Array Oper) (listed : Array Bool) : Bool :=
 (List.range ops.size).all λ j => match ops[j]? with
  | some o => !listed.getD j false || o.after.all λ e => !Region.binds md e || listed.getD e.on false
  | none => true
theorem z1h {listed : Array Bool} (h : Dc md ops listed = true) : Closed md ops listed := by
 intro j oj hj hl e he hb;have h1 := JJ.1 h j (K7.2 (Jf.1 hj).1);simp only [hj, hl, Bool.not_true, Lh] at h1;have h2 := (JD.1 h1) e he;simpa [hb] using h2
theorem aI {Q : Act -> World -> Prop} {a : Act} (ks : List Nat) (f : Nat) (listed : Array Bool) (hI : I w) (hB : (Region.noSelect ops && Dc md ops listed && tC md ops tail ks listed) = true)
 (h : f_ P ops I (λ a' => gD P md ops I tail Q f (ks.foldl (λ l k => l.setIfInBounds k true) listed) a' w) (ks.filterMap (λ k => ops[k]?)) a) : gD P md ops I tail Q (f + ks.length) listed a w := by
 simp only [Jh] at hB;exact z3y hB.1.1 hI ks f listed a (z1h hB.1.2) hB.2 h
theorem xH {R : Act -> World -> Prop} {a : Act} {k : Nat} {o : Oper} (ho : ops[k]? = some o)
 (h : wpList P ops (λ e a' w' => e = .normal /\ R a' w') [o] a w) : wpOp P ops sP k R a w := by
 unfold wpOp;simp only [ho];simp only [wpList] at h;split
 ·rename_i hw
  simp only [hw, I1] at h;rcases h with h | ⟨_, _, _, hx⟩
  ·refine .inl ?_
   unfold Oper.wp at *;generalize (execOp a.eval o).run P w = r at *;cases r with
   | ok n w' =>
    cases n <;> simp only [Oper.upon] at h ⊢;case value u => exact h.2
    case skip => exact h.2
    case defer d => exact h.2
    case enter f args =>
     refine Calls.mono h λ e w'' he => ?_;cases e with
     | returned u => exact he.2
     | panicked c => cases he.1
     | outgrown => obtain ⟨_, _, hx⟩ := he; cases hx.1
    case row row args => exact Rows.mono h λ u w'' he => he.2
   | halt x w' =>
    cases x <;> simp only [Oper.upon] at h ⊢;case panic u => cases h.1
  ·cases hx.1
 ·rename_i hw
  simp only [hw] at h;exact h.2
theorem az {Q : Act -> World -> Prop} {a : Act} (k f : Nat) (listed : Array Bool) (o : Oper) (ho : ops[k]? = some o) (hr : Region.ready md ops listed = [k])
 (h : wpList P ops (λ e a' w' => e = .normal /\ (k ∉ tail -> I w') /\ gD P md ops I tail Q f (listed.setIfInBounds k true) a' w') [o] a w) : gD P md ops I tail Q (f + 1) listed a w :=
 y4v ho hr (xH ho h)
theorem Ad {Q : Act -> World -> Prop} {a : Act} (k k' f : Nat) (listed : Array Bool) (o o' : Oper) (ho : ops[k]? = some o) (ho' : ops[k']? = some o') (hr : Region.ready md ops listed = [k, k'])
 (h : wpList P ops (λ e a' w' => e = .normal /\ (k ∉ tail -> I w') /\ gD P md ops I tail Q f (listed.setIfInBounds k true) a' w') [o] a w)
 (h' : wpList P ops (λ e a' w' => e = .normal /\ (k' ∉ tail -> I w') /\ gD P md ops I tail Q f (listed.setIfInBounds k' true) a' w') [o'] a w) : gD P md ops I tail Q (f + 1) listed a w := by
 refine ⟨λ h0 => Nh, λ i hi => ?_⟩;rw [hr] at hi;rcases J5.1 hi with rfl | hi
 ·exact xH ho h
 ·rcases J5.1 hi with rfl | hi
  ·exact xH ho' h'
  ·cases hi
structure Wd (p : World -> Prop) where
 world : World
 ok : p world
theorem dX {Q : Act -> Prop} {a : Act} {o : Oper} {rest : List Oper} (hgd : o.guard = none) (ty : TypeId) (x : Operand) (ho : o.op = .load ty x) (v : Value)
 (hrun : ∀ w, I w -> (Instr.loadAt ty (a.eval x)).run P w = .ok v w) (h : f_ P ops I Q rest (a.put o.dst v)) : f_ P ops I Q (o :: rest) a :=
 ak λ K hK => by
  simp only [Region.wanted, hgd, I1];exact QU
theorem y6d (w : World) (g : Nat) (c : Array Value) : Moves (λ k => k = g) w (w.setRow g c) :=
 ⟨rfl, rfl, rfl, GV, λ k _ hk => setRow_other w g k c hk⟩
theorem aC {rest : List Oper} {o : Oper} {a : Act} {Q : Exit -> Act -> World -> Prop} (hgd : o.guard = none) (ty : TypeId) (x y : Operand) (ho : o.op = .store ty x y)
 (g : Nat) (cells : Array Value) (hx : a.eval x = .pointer (some g)) (hy : a.eval y = .agg cells)
 (t : TypeId) (c : Array Value) (hg : w.heap[g]? = some (.cells c t)) (hi : (P.info? ty).map (·.size) = some cells.size)
 (hold : c.size = cells.size) (h1 : cells.all (·.oneCell') = true)
 (h : ∀ W, Hid (W.heap[g]? = some (.cells cells t)) -> Moves (λ k => k = g) w W -> W.heap.size = w.heap.size -> wpList P ops Q rest (a.put o.dst undef) W) : wpList P ops Q (o :: rest) a w :=
 wpList_store_row hgd ty x y ho g cells hx hy t c hg hi hold h1 (h _ (setRow_heap w g c cells t (0, 0) hg) (y6d w g cells) GV)
theorem bC {id : Nat} {Q : Exit -> Act -> World -> Prop} {a : Act} (I : World -> Prop) (tail : List Nat) (hm : P.follows .mixedOrders = true)
 (h : gD P .any ops I tail (λ a' w' => Q .normal a' w') ops.size (Array.replicate ops.size false) a w.drew) : (Code.region id ops true).wp P Q a w :=
 Lu hm (z2d (λ _ _ h => h) _ _ _ _ h)
end
theorem x6b (q bt bn t n b o len cap : Nat) (w : World) (ht : t < 4) (hlen : len <= cap) (hcap : cap <= 9223372036854775807) (hc : len < n) (hn : n <= 1048576)
 (hbt : w.cell? bt = some (.int .i64 t)) (hbn : w.cell? bn = some (.int .i64 n)) (hq : w.cell? (q, 1 + t) = some (.slice (some (b, o)) len cap)) (hf : w.frozen? ⟨q, 1 + t, none⟩ = false) :
 Calls prog 122 #[q, bt, bn] w λ e w' =>
  e = .returned (.tuple #[]) /\ (w.setCell (q, 1 + t) (.slice (some (b, o)) len cap)).drew = w' := by
 have hz : (0 : Int) <= (t : Int) := GR;have qW : (t : Int) < 4 := GR;exact PT
theorem x6c (q bt bn t n b o len cap : Nat) (w : World) (ht : t < 4) (hlen : len <= cap) (hcap : cap <= 9223372036854775807) (hc : n <= len) (hn : n <= 1048576)
 (hbt : w.cell? bt = some (.int .i64 t)) (hbn : w.cell? bn = some (.int .i64 n)) (hq : w.cell? (q, 1 + t) = some (.slice (some (b, o)) len cap)) (hf : w.frozen? ⟨q, 1 + t, none⟩ = false) :
 Calls prog 122 #[q, bt, bn] w λ e w' =>
  e = .returned (.tuple #[]) /\ (w.setCell (q, 1 + t) (.slice (some (b, o)) n cap)).drew = w' := by
 have hz : (0 : Int) <= (t : Int) := GR;have qW : (t : Int) < 4 := GR;have hc2 : ¬ len < n := GR;have hc3 : n <= cap := GR;have hc4 : (n : Int) <= (cap : Int) := GR;exact PT
theorem x6d (q bt bn t n : Nat) (w : World) (ht : t < 4)  (hn : n <= 1048576)
 (hbt : w.cell? bt = some (.int .i64 t)) (hbn : w.cell? bn = some (.int .i64 n)) (hq : w.cell? (q, 1 + t) = some (.slice none 0 0)) (hf : w.frozen? ⟨q, 1 + t, none⟩ = false) :
 Calls prog 122 #[q, bt, bn] w λ e w' =>
  e = .returned (.tuple #[]) /\ (w.setCell (q, 1 + t) (.slice none 0 0)).drew = w' := by
 have hz : (0 : Int) <= (t : Int) := GR;have qW : (t : Int) < 4 := GR;rcases Mc n with rfl | hpos
 all_goals
  go_in;go_wp2;refine qB 21 GQ GQ ?_;simp only [Jt, JN, JO, JP];repeat still_step
  refine Kg ?_;refine IE rfl λ K hK => ?_;go_simp;refine hK _ _ ?_;simp only [wpList];go_end0
  exact ⟨rfl, rfl⟩
theorem x6e (v : Value) (k : Int) (w : World) : Calls prog 123 #[v, .int .i64 k] w λ e w' => e = .returned (.tuple #[]) /\ w = w' := by
 go_in;go_wp2;exact Rc
def qJ (c : Array Value) (o : Nat) : List Value -> Array Value
 | [] => c
 | v :: vs => qJ (c.setIfInBounds o v) (o + 1) vs
theorem z4b (g : Nat) (t : TypeId) : ∀ (vs : List Value) (o : Nat) (c : Array Value) (w : World), w.heap[g]? = some (.cells c t) ->
 (w.setCells g o vs).heap[g]? = some (.cells (qJ c o vs) t (0, 0)) /\ Moves (λ k => k = g) w (w.setCells g o vs) /\ (w.setCells g o vs).heap.size = w.heap.size
 | [], _, _, w, h => ⟨h, Moves.refl _ _, rfl⟩
 | v :: vs, o, c, w, h => by
  obtain ⟨h1, h2, h3⟩ := z4b g t vs (o + 1) (c.setIfInBounds o v) (w.setCell (g, o) v) (IQ w g o c t v h);refine ⟨h1, ⟨h2.os, h2.tape, h2.output, ?_, λ k hk hn => ?_⟩, h3.trans GV⟩
  ·rw [show w.heap.size = (w.setCell (g, o) v).heap.size by simp]; exact h2.size
  ·exact (h2.block k NJ hn).trans (IU w _ k v hn)
theorem y5u {o : Nat} {c : Array Value} {t : TypeId} (h : w.heap[g]? = some (.cells c t)) (hl : o + n <= c.size) : w.there g o n := λ j hj => by
 refine ⟨?_, by simp [World.frozen?, h]⟩;rw [IJ _ _ _ _ _ _ h, Array.getElem?_eq_getElem GR];rfl
section
variable {P : Program} {ops : Array Oper}
theorem nU {rest : List Oper} {o : Oper} {a : Act} {Q : Exit -> Act -> World -> Prop} (hgd : o.guard = none) (ty : TypeId) (x y : Operand) (ho : o.op = .store ty x y)
 (g off : Nat) (cells : Array Value) (hx : a.eval x = .pointer (some (g, off))) (hy : a.eval y = .agg cells)
 (t : TypeId) (c : Array Value) (hg : w.heap[g]? = some (.cells c t)) (hi : (P.info? ty).map (·.size) = some cells.size)
 (hl : off + cells.size <= c.size) (h1 : cells.all (·.oneCell') = true)
 (h : ∀ W, Hid (W.heap[g]? = some (.cells (qJ c off cells.toList) t (0, 0))) -> Moves (λ k => k = g) w W -> W.heap.size = w.heap.size -> wpList P ops Q rest (a.put o.dst undef) W) : wpList P ops Q (o :: rest) a w := by
 obtain ⟨h2, h3, h4⟩ := z4b g t cells.toList off c w hg;exact wpList_store_mid hgd ty x y ho g off cells hx hy (y5u hg (by simpa using hl)) hi h1 (h _ h2 h3 h4)
end
theorem ae {c : Array Value} {t : TypeId} {fr : Nat × Nat} (h : w.heap[g]? = some (.cells c t fr)) {j : Nat} (hj : c[j]? = some v) : w.cell? (g, j) = some v := (IJ _ _ _ _ _ _ h).trans hj
theorem aZ {c : Array Value} {t : TypeId} (h : w.heap[g]? = some (.cells c t)) (j : Nat) : w.frozen? ⟨g, j, none⟩ = false := by simp [World.frozen?, h]
theorem below_drewN {B : Nat} (h : Below B w w') (n : Nat) : Below B w (w'.drewN n) := ⟨h.os, h.tape, h.output, h.size, h.block⟩
theorem Moves.new {W' : World} (hb : Below w w W) (hm : Moves (λ k => k = g) W W') (hg : w.heap.size <= g) : Below w w W' :=
 hb.trans ⟨hm.os, hm.tape, hm.output, hm.size, λ k hk => hm.block k (Hf hb.size) (λ e => GR)⟩
namespace Cm
def poly : Nat := 2197175160
def step (w : Nat) : Nat := w / 2 ^^^ (if w % 2 = 1 then poly else 0)
def steps : Nat -> Nat -> Nat
 | 0, w => w
 | n + 1, w => steps n (step w)
def tab (i : Nat) : Nat := steps 8 i
def uj (w c : Nat) : Nat := w / 256 ^^^ tab ((w ^^^ c) % 256)
def fO (w : Nat) (l : List UInt8) : Nat := l.foldl (λ w c => uj w c.toNat) w
def top : Nat := 4294967295
def sum (l : List UInt8) : Nat := top - fO top l
def low (n : Nat) (k : Nat) : List UInt8 := (List.range k).map λ i => UInt8.ofNat (n / 256 ^ i % 256)
def dw (l : List UInt8) : List UInt8 := l ++ low (sum l) 4
theorem x4i (a b : Nat) : (a ^^^ b) / 2 = a / 2 ^^^ b / 2 := by
 have h := Nat.shiftRight_xor_distrib (a := a) (b := b) (i := 1);simpa [Li] using h
theorem x2v (a b : Nat) : (a ^^^ b) % 2 = (a % 2 + b % 2) % 2 := by
 have h := Nat.testBit_xor a b 0;simp only [Nat.testBit_zero] at h;rcases KN a with ha | ha <;> rcases KN b with hb | hb <;> rcases KN (a ^^^ b) with hc | hc <;> simp [ha, hb, hc] at h ⊢
theorem y6u (a b : Nat) : step (a ^^^ b) = step a ^^^ step b := by
 unfold step;rw [x4i, x2v];rcases KN a with ha | ha <;> rcases KN b with hb | hb <;> simp only [ha, hb] <;> simp
 ·rw [Nat.xor_assoc]
 ·rw [Nat.xor_assoc, Nat.xor_assoc, Nat.xor_comm poly]
 ·rw [Nat.xor_comm (b / 2) poly, <-Nat.xor_assoc, Nat.xor_assoc (a / 2) poly poly, Nat.xor_self, Nat.xor_zero]
theorem z4s : ∀ (n a b : Nat), steps n (a ^^^ b) = steps n a ^^^ steps n b
 | 0, _, _ => rfl
 | n + 1, a, b => by rw [steps, y6u, z4s n]; rfl
theorem z4r : ∀ (n h : Nat), steps n (h * 2 ^ n) = h
 | 0, h => by simp [steps]
 | n + 1, h => by
  have e : h * 2 ^ (n + 1) = 2 * (h * 2 ^ n) := by rw [KO]; ac_rfl
  rw [steps, step, e, Nat.mul_mod_right, Iw GU, Nat.xor_zero, Nat.mul_div_cancel_left _ GU, z4r n]
theorem y3r (w n : Nat) : w = (w / 2 ^ n) * 2 ^ n ^^^ w % 2 ^ n := by
 apply Nat.eq_of_testBit_eq
 intro i;rw [Nat.testBit_xor, Nat.testBit_mul_two_pow, Nat.testBit_mod_two_pow, Nat.testBit_div_two_pow];by_cases h : i < n
 ·simp [h, show ¬ n <= i by omega]
 ·simp [h, show n <= i by omega, show i - n + n = i by omega]
theorem z2m {a b : Nat} (ha : a < 2 ^ n) (hb : b < 2 ^ n) : a ^^^ b < 2 ^ n := Nat.xor_lt_two_pow ha hb
theorem y1l (w c : Nat) (hc : c < 256) : uj w c = steps 8 (w ^^^ c) := by
 have e1 : (w ^^^ c) / 256 = w / 256 := by
  rw [show (256 : Nat) = 2 ^ 8 by rfl, <-Li, <-Li, Nat.shiftRight_xor_distrib, Li c, Nat.div_eq_of_lt hc, Nat.xor_zero]
 have e2 := y3r (w ^^^ c) 8;rw [show (2 : Nat) ^ 8 = 256 by rfl, e1] at e2;rw [e2, z4s];have := z4r 8 (w / 256);rw [show (2 : Nat) ^ 8 = 256 by rfl] at this;rw [this];rfl
theorem y6s {w : Nat} (h : w < 2 ^ 32) : step w < 2 ^ 32 := by
 unfold step;refine z2m GR ?_;split <;> decide
theorem xV : ∀ (n : Nat) {w : Nat}, w < 2 ^ 32 -> steps n w < 2 ^ 32
 | 0, _, h => h
 | n + 1, _, h => xV n (y6s h)
theorem Bd : ∀ (l : List UInt8) {w : Nat}, w < 2 ^ 32 -> fO w l < 2 ^ 32
 | [], _, h => h
 | c :: l, w, h => by
  have hc := c.toNat_lt;have : uj w c.toNat < 2 ^ 32 := by
   rw [y1l _ _ hc];exact xV _ (z2m h (Nat.lt_trans hc GU))
  exact Bd l this
theorem z6k (w : Nat) (l k : List UInt8) : fO w (l ++ k) = fO (fO w l) k := by simp [fO]
theorem ol (n k : Nat) : (low n k).length = k := by simp [low]
theorem y5w {r : Nat} (h : r < 2 ^ 32) : top - r = top ^^^ r := by
 have e : top = 2 ^ 32 - 1 := rfl;apply Nat.eq_of_testBit_eq
 intro i;rw [e, show 2 ^ 32 - 1 - r = 2 ^ 32 - (r + 1) by omega, Nat.testBit_two_pow_sub_succ h i, Nat.testBit_xor, Nat.testBit_two_pow_sub_one];by_cases hi : i < 32
 ·simp [hi]
 ·have : r.testBit i = false := Nat.testBit_lt_two_pow (Jc h (Lj GR GR))
  simp [hi, this]
end Cm
end Go.Proofs.YtgffifleflkjoaaGreat
