/-
  Parts of a proof.
-/
import Derived.Test.YtgffifleflkjoaaGreatFin09
import Derived.Laws.AppendOwnNone
set_option linter.unusedSimpArgs false
set_option linter.unusedVariables false
set_option maxRecDepth 100000
set_option maxHeartbeats 16000000
namespace Go.Proofs.YtgffifleflkjoaaGreat
open _root_.Go.Proofs.Tryz
variable {w W w' w0 wr w1 W0 W1 W2 A B : World} {F G F' O : Nat → Prop} {v : Value} {l : List UInt8} {n q m pd md pl g p : Nat} {C : Array Value} {c : Int}
open Go.RowKit Dm
def FreshBytes (h : Array Obj) (base : Nat) (v : Value) (l : List UInt8) : Prop :=
 (v = .slice none 0 0 /\ l = []) \/ ∃ (b cap : Nat) (c : Array Value) (t : TypeId), v = .slice (some ⟨b, 0, none⟩) l.length cap /\ l.length <= cap /\ cap <= 9223372036854775807 ∧
  base <= b /\ h[b]? = some (.cells c t (0, 0)) /\ ∀ (i : Nat) (x : UInt8), l[i]? = some x -> c[i]? = some (bL x)
theorem FreshBytes.bytes {h : Array Obj} {base : Nat} (x : FreshBytes h base v l) : BytesAt h (λ k => base <= k) v l := by
 rcases x with x | ⟨b, cap, c, t, h1, h2, h3, h4, h5, h6⟩
 ·exact Iy x
 ·exact Iz ⟨b, 0, cap, c, t, (0, 0), h1, h2, h3, h4, h5, λ i x hi => by rw [I8]; exact h6 i x hi⟩
theorem y0x {base : Nat} (h : w.ownsRow base bT 1 v n (l.map bL)) (hn : n = l.length) : FreshBytes w.heap base v l := by
 subst hn;obtain ⟨_, h⟩ := h;rcases h with ⟨rfl, h⟩ | ⟨g, cap, cur, rfl, hg, hh, h1, h2, h3, h4⟩
 ·exact Iy ⟨rfl, by simpa using h⟩
 ·refine Iz ⟨g, cap, cur, bT, rfl, h1, by unfold maxLen at h2; omega, hg, hh, λ i x hi => ?_⟩
  have hlt : i < l.length := (IY.1 hi).1;have e : (cur.toList.take (l.length * 1))[i]? = some (bL x) := by rw [h4]; simp [hi]
  rw [JI, IA GR] at e;simpa using e
def y2a (w : World) (l : List UInt8) (e : Ending) (w' : World) : Prop := ∃ v', e = .returned v' /\ Below w.heap.size w w' /\ FreshBytes w'.heap w.heap.size v' l
theorem x8o (b o cap : Nat) (l : List UInt8) (w : World) (hl : l.length <= 1099511627776) (hc : ∀ i x, l[i]? = some x -> w.cell? ⟨b, o + i, none⟩ = some (bL x)) :
 Calls prog 98 #[.slice (some (b, o)) l.length cap] w (y2a w l) := by
 obtain ⟨i0, hi, hz0, hz1, hz2⟩ := JG infoByte
 have hown : (w.alloc (.cells #[] bT)).ownsRow w.heap.size bT 1 (.slice (some w.heap.size) 0 0) 0 [] :=
  ⟨rfl, Iz ⟨w.heap.size, 0, #[], rfl, Nat.le_refl _, IC _ _, Nat.le_refl _, IV _, rfl, rfl⟩⟩
 have HC := hd1 hc;have HO := hd1 hown;have HI := hd4 hi hz0 hz1 hz2;clear hc hown hi hz0 hz1 hz2;have s2 : ∀ j u, (l.map bL)[j]? = some u -> (w.alloc (.cells #[] bT)).cell? ((⟨b, o, none⟩ : Addr).add j) = some u := by
  intro j u hj;obtain ⟨x, hx, rfl⟩ : ∃ x, l[j]? = some x /\ bL x = u := by simpa using hj
  have hadd : (⟨b, o, none⟩ : Addr).add j = ⟨b, o + j, none⟩ := by unfold Addr.add; split <;> simp_all
  have hc := HC.out j x hx;rw [hadd, Mg _ _ _ (IX hc)];exact hc
 have s3 : ∀ u ∈ l.map bL, u.oneCell' = true := by
  intro u hu;exact Qv
 have HS := hd2 s2 s3;clear s2 s3;have hnil := λ (w : World) (a : Option Addr) (n c : Nat) => K_ (P := prog) w 31 bT a n c 0 0 Ia;go_in;go_wp2_with (at_builtin; refine Ky _ rfl (.tmp 5) (.tmp 6) 31 rfl w.heap.size bT i0 (.int .u8 0) 1 1 Ia HI.1 HI.2.1 HI.2.2.1 HI.2.2.2 rfl GU _ 0 [] rfl HO.out ⟨b, o, none⟩ l.length cap (l.map bL) rfl GV HS.1 HS.2 Nr GR GV ?_; intro v' w1 hown1 hgrow _)
 go_ret;refine ⟨_, rfl, ((bla).grown hgrow GV (λ k e => by cases e; exact Nat.le_refl _)), ?_⟩;rw [Ji] at hown1;exact y0x hown1 GV
theorem x8n (x : BytesAt w.heap G v l) (hl : l.length <= 1099511627776) : Calls prog 98 #[v] w (y2a w l) := by
 rcases x with ⟨rfl, rfl⟩ | ⟨b, o, cap, c, t, fr, rfl, h2, h3, g2, g3, g4⟩
 ·refine (y1t w).mono ?_
  exact Ql
 ·exact x8o b o cap l w hl (λ i x hi => (IJ _ _ _ _ _ _ g3).trans (g4 i x hi))
theorem y5l (p : Nat) (t : Int) (w : World) (h : w.cell? (p, 16) = some (.bool true)) (hn : t < 0 \/ 4 <= t) : Calls prog 61 #[p, .int .i64 t] w λ e w' => e = .returned (.tuple #[.slice none 0 0, .int .i64 4]) /\ w = w' := by
 by_cases hn0 : t < 0
 all_goals
  have hn2 : ¬ t < 0 -> 4 <= t := λ h => GR;simp only [hn0, not_true_eq_false, LB, forall_const, false_implies] at hn2;go_in;go_wp2_with (go_at_call 45; refine (gY p true _ h).mono ?_; rintro e w' ⟨rfl, rfl⟩)
  go_ret2;exact ⟨rfl, rfl⟩
theorem y5k (p t : Nat) (v : Value) (l : List UInt8) (w : World) (F : Nat -> Prop) (h : w.cell? (p, 16) = some (.bool true)) (ht : t < 4) (hq : w.cell? (p, 1 + t) = some v) (hv : BytesAt w.heap F v l) (hl : l.length <= 1099511627776) :
 Calls prog 61 #[p, .int .i64 t] w λ e w' => ∃ v', e = .returned (.tuple #[v', .int .i64 0]) /\ Below w w w' /\ FreshBytes w'.heap w.heap.size v' l := by
 have h1 : ¬ (t : Int) < 0 := GR;have h2 : ¬ 4 <= (t : Int) := GR;have h4 : (0 : Int) <= t := GR;have h5 : (t : Int) < 4 := GR;have h6 : ¬ 4 <= t := GR;have H := hd1 (x8n hv hl);clear hv;go_in;go_wp2_with (first | (go_at_call 45; refine (gY p true _ h).mono ?_; rintro e w' ⟨rfl, rfl⟩) | (go_at_call 98; refine H.mono ?_; rintro e w' ⟨v', rfl, hb⟩))
 go_ret2;exact ⟨v', rfl, hb⟩
def w0a (w : World) (l : List UInt8) (c : Int) (e : Ending) (w' : World) : Prop := ∃ v', e = .returned (.tuple #[v', .int .i64 c]) /\ Below w.heap.size w w' /\ FreshBytes w'.heap w.heap.size v' l
theorem EE {d : D} (x : aQ w.heap p m d F) (t : Int) : Calls prog 61 #[p, .int .i64 t] w
 (w0a w (if t < 0 \/ t > 3 then [] else d.stand.tp t) (if t < 0 \/ t > 3 then 4 else 0)) := by
 obtain ⟨k16, k11, k12, k13⟩ := x.lu;by_cases h1 : t < 0 \/ t > 3
 ·rw [IA h1, IA h1]
  refine (y5l p t w k16 GR).mono ?_;exact Ql
 ·rw [Iw h1, Iw h1]
  obtain ⟨t, rfl, ht⟩ := kU (n := t) (k := 3) GR GR;obtain ⟨ml, l0, l1, l2, l3, wv, stops, after, sa, ra⟩ := x.parts;obtain ⟨v, hv, hf, bv⟩ := sa.cell.2 t GR;have := kC x.ok t;have := x.ok.fE;exact y5k p t v _ w F k16 GR hv bv GR
def oH (w : World) (size : Nat) (v : Value) (m : Nat) (news : List Value) : Prop :=
 (v = .slice none 0 0 /\ m = 0 /\ news = []) \/ ∃ ad c, v = .slice (some ad) m c /\ news.length = m * size /\ (∀ (j : Nat) u, news[j]? = some u -> w.cell? (ad.add j) = some u) /\ ∀ u ∈ news, u.oneCell' = true
section
variable {P : Program} {ops : Array Oper}
theorem lS {rest : List Oper} {o : Oper} {a : Act} {Q : Exit -> Act -> World -> Prop} (hgd : o.guard = none) (s x : Operand) (t : TypeId)
 (ho : o.op = .call { callee := .builtin .append, args := #[s, x], argTypes := #[t, t] })
 (B base : Nat) (w0 : World) (hb : Below B w0 w) (hB : B <= base) (e : TypeId) (z : Value) (size bytes : Nat) (ht : P.underlying t = some (.slice e)) (hi : (P.info? e).map (λ i => (i.zero, i.size, i.bytes)) = some (some z, size, bytes))
 (hzs : z.cells.size = size) (hsz : 0 < size)
 (v : Value) (n : Nat) (xs : List Value) (hs : a.eval s = v) (hown : w.ownsRow base e size v n xs)
 (v2 : Value) (m : Nat) (news : List Value) (hx : a.eval x = v2) (hsrc : oH w size v2 m news)
 (h63 : n + m <= maxLen) (hbytes : (n + m) * bytes <= 140737488355328) (hbase : base <= w.heap.size)
 (h : ∀ v' w', Hid (w'.ownsRow base e size v' (n + m) (xs ++ news)) -> Below B w0 w' -> Below base w w' -> wpList P ops Q rest (a.put o.dst v') w') : wpList P ops Q (o :: rest) a w := by
 obtain ⟨i0, hi0, hz0, hz1, hz2⟩ := JG hi;have BS : ∀ k, v.ownBlock = some k -> base <= k := λ k e => by
  exact Pg
 rcases hsrc with ⟨rfl, rfl, rfl⟩ | ⟨ad, c, rfl, g1, g2, g3⟩
 ·refine wpList_append_own_none hgd s x t ho base e i0 size ht hi0 v n xs hs hown hx (h v w ?_ hb GY)
  rw [Ju, Kz];exact hown
 ·refine Ky w hgd s x t ho base e i0 z size bytes ht hi0 hz0 hz1 hz2 hzs hsz v n xs hs hown ad m c news hx g1 g2 g3 h63 hbytes hbase ?_
  intro v' w' ho' hg _;exact h v' w' ho' (hb.grown hg GR (λ k e => Hf (BS k e))) (GY.grown hg hbase BS)
end
abbrev bY (w : World) (base : Nat) (v : Value) (l : List UInt8) : Prop := w.ownsRow base bT 1 v l.length (l.map bL)
theorem BytesAt.src (x : BytesAt w.heap G v l) : oH w 1 v l.length (l.map bL) := by
 rcases x with ⟨rfl, rfl⟩ | ⟨b, o, cap, c, t, fr, rfl, h2, h3, g2, g3, g4⟩
 ·exact Iy ⟨rfl, rfl, rfl⟩
 ·refine Iz ⟨⟨b, o, none⟩, cap, rfl, GV, λ j u hj => ?_, λ u hu => ?_⟩
  ·obtain ⟨x, hx, rfl⟩ : ∃ x, l[j]? = some x /\ bL x = u := by simpa using hj
   rw [addr_add, IJ _ _ _ _ _ _ g3];exact g4 j x hx
  ·exact Qv
theorem Bu (w : World) : bY (w.alloc (.cells #[] bT)) w.heap.size (.slice (some w.heap.size) 0 0) [] :=
 ⟨rfl, Iz ⟨w.heap.size, 0, #[], rfl, Nat.le_refl _, IC _ _, Nat.le_refl _, IV _, rfl, rfl⟩⟩
theorem bY.bytes {base : Nat} (h : bY w base v l) : FreshBytes w.heap base v l := y0x h rfl
theorem dS {ops : Array Oper} {rest : List Oper} {o : Oper} {a : Act} {Q : Exit -> Act -> World -> Prop} (hgd : o.guard = none) (s x : Operand)
 (ho : o.op = .call { callee := .builtin .append, args := #[s, x], argTypes := #[df, df] })
 (B base : Nat) (w0 : World) (hb : Below B w0 w) (hB : B <= base) (v : Value) (l1 : List UInt8) (hs : a.eval s = v) (hown : bY w base v l1)
 (v2 : Value) (l2 : List UInt8) (G : Nat -> Prop) (hx : a.eval x = v2) (hsrc : BytesAt w.heap G v2 l2)
 (hl : l1.length + l2.length <= 1099511627776) (hbase : base <= w.heap.size)
 (h : ∀ v' w', Hid (bY w' base v' (l1 ++ l2)) -> Below B w0 w' -> Below base w w' -> wpList prog ops Q rest (a.put o.dst v') w') : wpList prog ops Q (o :: rest) a w := by
 exact Pw
end Go.Proofs.YtgffifleflkjoaaGreat
