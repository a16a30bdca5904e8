/-
  Parts of a proof.
-/
import Derived.Test.YtgffifleflkjoaaGreatFin25
import Derived.Test.YtgffifleflkjoaaGreatFin26
import Derived.Laws.Cover1
set_option linter.unusedSimpArgs false
set_option linter.unusedVariables false
set_option maxRecDepth 100000
set_option maxHeartbeats 16000000
namespace Go.Proofs.YtgffifleflkjoaaGreat
open _root_.Go.Proofs.Tryz
variable {w W w' w0 wr w1 W0 W1 W2 A B : World} {F G F' O : Nat → Prop} {v : Value} {l : List UInt8} {n q m pd md pl g p : Nat} {C : Array Value} {c : Int}
open Go.RowKit Dm
theorem y5r {r tx : List UInt8} {most : Nat} (h : aU w q l) (hl : l.length <= 1000000000) (hr : Wm.dh most l = some (tx, r)) :
 Calls prog 178 #[q, .int .i64 most] w λ e w' => e = .returned (.tuple #[ag tx, .int .i64 0]) /\ aU w' q r /\ Moves (λ k => k = q) w w' := by
 have gN : ∀ (fn : Fn) (first cap : Array Value) (w : World), (Instr.makeFunc fn first cap).run prog w = .ok (.func fn first cap) w := λ _ _ _ _ => rfl;obtain ⟨W, hW⟩ := G5 (((w.alloc (.cells #[.pointer (some ⟨q, 0, none⟩)] iA)).alloc (.cells #[.int .i64 most] 3)).alloc (.cells #[.string ⟨#[]⟩] 9));have B : Below w w W := by rw [<-hW]; exact ((bla).alloc GV _).alloc N_ _
 have s : W.heap.size = w.heap.size + 3 := by rw [<-hW]; simp
 have r2 : W.heap[w.heap.size]? = some (.cells #[q] iA) := by rw [<-hW]; exact aM N_ (aM GV (IC w _))
 have r3 : W.heap[w.heap.size + 1]? = some (.cells #[.int .i64 most] 3) := by rw [<-hW]; exact aM GV (bD (w := w.alloc _) _ GV)
 have r4 : W.heap[w.heap.size + 1 + 1]? = some (.cells #[.string ⟨#[]⟩] 9 (0, 0)) := by rw [<-hW]; exact bD (w := (w.alloc _).alloc _) _ GV
 have lq := h.lt;have hx := h.later B
 have TC := hd1 (zW (w := W.drew) (q := q) (fn := 202) (fs := #[]) (cs := #[.pointer (some ⟨w.heap.size, 0, none⟩), .pointer (some ⟨w.heap.size + 1, 0, none⟩), .pointer (some ⟨w.heap.size + 1 + 1, 0, none⟩)])
  (R := λ X X' => aU X' q r /\ X'.heap[w.heap.size + 1 + 1]? = some (.cells #[ag tx] 9) /\ Moves (λ k => k = q \/ k = w.heap.size + 1 + 1) X X') (hx.later GY.drew) (enters_of func202 GQ rfl)
  (λ X hb => by
   rw [JH];have hb' : Below W W X := ((Below.refl W W).drew).trans hb;exact y5t (hx.later hb') hl hr (aN hb' (ae r2 rfl)) (aN hb' (ae r3 rfl)) ((hb'.block _ (aa r4)).trans r4) GR GR)
  (λ X X' hX => hX.2.2.mono (λ k hk => by show k < W.heap.size; omega)))
 have ne : Nonempty (Wd (Below W W)) := ⟨⟨_, Below.refl _ _⟩⟩;have f2 : ∀ x : Wd (Below W W), x.world.cell? w.heap.size = some (.pointer (some q)) := λ x => aN x.ok (ae r2 rfl);have f3 : ∀ x : Wd (Below W W), x.world.cell? (w.heap.size + 1, 0) = some (.int .i64 most) := λ x => aN x.ok (ae r3 rfl);have HB := hd3 B s lq;have HW := hd1 hW;clear hW r2 r3 r4 hx h B s lq;go_in;go_upto_region 1 with fail
 rw [HW.out];refine bC (λ w' => ∃ x : Wd (Below W W), w' = x.world) [4, 5] GQ ?_;refine aI [0, 1, 3] 3 _ Hq GQ ?_;simp only [fmc, fmn, gta, gcs, gcz];iterate 3 (with_reducible refine ak (λ K hK => ?_); simp only [au, ah]; go_simp; refine hK _ ?_; clear hK K)
 with_reducible refine aA ?_
 refine az 2 2 _ _ rfl GQ ?_;refine IE rfl λ K hK => ?_;go_simp;go_at_call 197;refine (Ag _ most).mono ?_;rintro e w' ⟨rfl, rfl⟩;refine hK _ _ (IB ⟨rfl, λ _ => Hq, ?_⟩);clear hK K;refine az 4 1 _ _ rfl GQ ?_;refine IE rfl λ K hK => ?_;go_simp;go_at_call 175;refine TC.mono ?_;rintro e w5 ⟨rfl, X, X', x0, b5, ⟨h5, t5, m5⟩, n5, hx0⟩;have H5 := hd6 b5 h5 t5 m5 n5 hx0;clear b5 h5 t5 m5 n5 hx0;refine hK _ _ (IB ⟨rfl, λ h => absurd GU h, ?_⟩);clear hK K;refine eY [5] 0 _ GQ ?_;refine G9 ?_;refine ⟨GQ, ?_⟩;obtain ⟨b5, h5, t5, m5, n5, hx0⟩ := H5.out;obtain ⟨B, sz, lq⟩ := HB.out;have hx0 : W.heap.size <= x0 := hx0;have t6 : w5.heap[w.heap.size + 1 + 1]? = some (.cells #[ag tx] 9) := (n5.block _ (aa t5) GR).trans t5;have c6 := ae t6 (j := 0) rfl;have z6 := aZ t6 0;have c7 := ae (IQ _ _ 0 _ 9 (ag tx) t6) (j := 0) rfl;obtain ⟨k1, k2⟩ := Fy (u := ag tx) B (((Below.refl W W).drew).trans b5) h5 m5 n5 hx0 (by omega : w.heap.size <= w.heap.size + 1 + 1) lq;exact P5
theorem y5q {most : Nat} (h : aU w q l) (hl : l.length <= 1000000000) (hr : Wm.dh most l = none) :
 Calls prog 178 #[q, .int .i64 most] w λ e w' => e = .returned (.tuple #[.string ⟨#[]⟩, .int .i64 140]) /\ Moves (λ k => k = q) w w' := by
 have gN : ∀ (fn : Fn) (first cap : Array Value) (w : World), (Instr.makeFunc fn first cap).run prog w = .ok (.func fn first cap) w := λ _ _ _ _ => rfl;obtain ⟨W, hW⟩ := G5 (((w.alloc (.cells #[.pointer (some ⟨q, 0, none⟩)] iA)).alloc (.cells #[.int .i64 most] 3)).alloc (.cells #[.string ⟨#[]⟩] 9));have B : Below w w W := by rw [<-hW]; exact ((bla).alloc GV _).alloc N_ _
 have s : W.heap.size = w.heap.size + 3 := by rw [<-hW]; simp
 have r2 : W.heap[w.heap.size]? = some (.cells #[q] iA) := by rw [<-hW]; exact aM N_ (aM GV (IC w _))
 have r3 : W.heap[w.heap.size + 1]? = some (.cells #[.int .i64 most] 3) := by rw [<-hW]; exact aM GV (bD (w := w.alloc _) _ GV)
 have r4 : W.heap[w.heap.size + 1 + 1]? = some (.cells #[.string ⟨#[]⟩] 9 (0, 0)) := by rw [<-hW]; exact bD (w := (w.alloc _).alloc _) _ GV
 have lq := h.lt;have hx := h.later B
 have TC := hd1 (zX (w := W.drew) (q := q) (fn := 202) (fs := #[]) (cs := #[.pointer (some ⟨w.heap.size, 0, none⟩), .pointer (some ⟨w.heap.size + 1, 0, none⟩), .pointer (some ⟨w.heap.size + 1 + 1, 0, none⟩)])
  (R := λ X X' => zJ q X X') (hx.later GY.drew) (enters_of func202 GQ rfl)
  (λ X hb => by
   rw [JH];have hb' : Below W W X := ((Below.refl W W).drew).trans hb;exact y5s (hx.later hb') hl hr (aN hb' (ae r2 rfl)) (aN hb' (ae r3 rfl)) GR)
  (λ X X' hb hX => hX))
 have ne : Nonempty (Wd (Below W W)) := ⟨⟨_, Below.refl _ _⟩⟩;have f2 : ∀ x : Wd (Below W W), x.world.cell? w.heap.size = some (.pointer (some q)) := λ x => aN x.ok (ae r2 rfl);have f3 : ∀ x : Wd (Below W W), x.world.cell? (w.heap.size + 1, 0) = some (.int .i64 most) := λ x => aN x.ok (ae r3 rfl);have HB := hd4 B s lq r4;have HW := hd1 hW;clear hW r2 r3 r4 hx h B s lq;go_in;go_upto_region 1 with fail
 rw [HW.out];refine bC (λ w' => ∃ x : Wd (Below W W), w' = x.world) [4, 5] GQ ?_;refine aI [0, 1, 3] 3 _ Hq GQ ?_;simp only [fmc, fmn, gta, gcs, gcz];iterate 3 (with_reducible refine ak (λ K hK => ?_); simp only [au, ah]; go_simp; refine hK _ ?_; clear hK K)
 with_reducible refine aA ?_
 refine az 2 2 _ _ rfl GQ ?_;refine IE rfl λ K hK => ?_;go_simp;go_at_call 197;refine (Ag _ most).mono ?_;rintro e w' ⟨rfl, rfl⟩;refine hK _ _ (IB ⟨rfl, λ _ => Hq, ?_⟩);clear hK K;refine az 4 1 _ _ rfl GQ ?_;refine IE rfl λ K hK => ?_;go_simp;go_at_call 175;refine TC.mono ?_;rintro e w5 ⟨rfl, m5⟩;have H5 := hd1 m5;clear m5;refine hK _ _ (IB ⟨rfl, λ h => absurd GU h, ?_⟩);clear hK K;refine eY [5] 0 _ GQ ?_;refine G9 ?_;refine ⟨GQ, ?_⟩;obtain ⟨B, sz, lq, r4⟩ := HB.out;have m5 : Moves (λ k => k = q) W w5 := (Moves.of_below ((Below.refl W W).drew)).trans H5.out (λ _ _ h => h);have t6 : w5.heap[w.heap.size + 1 + 1]? = some (.cells #[.string ⟨#[]⟩] 9 (0, 0)) := (m5.block _ (aa r4) GR).trans r4;have c6 := ae t6 (j := 0) rfl;have z6 := aZ t6 0;have c7 := ae (IQ _ _ 0 _ 9 (.string ⟨#[]⟩) t6) (j := 0) rfl;have k2 := Fx (u := .string ⟨#[]⟩) B m5 (by omega : w.heap.size <= w.heap.size + 1 + 1);exact Qh
theorem z3p {r : List UInt8} {b : Bool} (h : aU w q l) (hl : l.length <= 1000000000) (hr : Wm.iJ l = some (b, r)) :
 Calls prog 179 #[q] w λ e w' => e = .returned (.tuple #[.bool b, .int .i64 0]) /\ aU w' q r /\ Moves (λ k => k = q) w w' := by
 have gN : ∀ (fn : Fn) (first cap : Array Value) (w : World), (Instr.makeFunc fn first cap).run prog w = .ok (.func fn first cap) w := λ _ _ _ _ => rfl;obtain ⟨W, hW⟩ := G5 ((w.alloc (.cells #[.pointer (some ⟨q, 0, none⟩)] iA)).alloc (.cells #[false] 4));have B : Below w w W := by rw [<-hW]; exact (bla).alloc GV _
 have s : W.heap.size = w.heap.size + 2 := by rw [<-hW]; simp
 have r2 : W.heap[w.heap.size]? = some (.cells #[q] iA) := by rw [<-hW]; exact aM GV (IC w _)
 have r4 : W.heap[w.heap.size + 1]? = some (.cells #[false] 4) := by rw [<-hW]; exact bD (w := w.alloc _) _ GV
 have lq := h.lt;have hx := h.later B
 have TC := hd1 (zW (w := W) (q := q) (fn := 204) (fs := #[]) (cs := #[.pointer (some ⟨w.heap.size, 0, none⟩), .pointer (some ⟨w.heap.size + 1, 0, none⟩)])
  (R := λ X X' => aU X' q r /\ X'.heap[w.heap.size + 1]? = some (.cells #[.bool b] 4) /\ Moves (λ k => k = q \/ k = w.heap.size + 1) X X') hx (enters_of func204 GQ rfl)
  (λ X hb => by
   rw [JH];have hb' : Below W W X := hb;exact y4e (hx.later hb') hl hr (aN hb' (ae r2 rfl)) ((hb'.block _ (aa r4)).trans r4) GR)
  (λ X X' hX => hX.2.2.mono (λ k hk => by show k < W.heap.size; omega)))
 have ne : Nonempty (Wd (Below W W)) := ⟨⟨_, Below.refl _ _⟩⟩;have f2 : ∀ x : Wd (Below W W), x.world.cell? w.heap.size = some (.pointer (some q)) := λ x => aN x.ok (ae r2 rfl);have HB := hd3 B s lq;have HW := hd1 hW;clear hW r2 r4 hx h B s lq;go_in;go_upto_region 1 with fail
 rw [HW.out];have f0 := f2 ⟨W, Below.refl _ _⟩;dsimp only at f0;clear f2 ne;go_upto_region 2 with (go_at_call 175; refine TC.mono ?_; rintro e w5 ⟨rfl, X, X', x0, b5, ⟨h5, t5, m5⟩, n5, hx0⟩; have H5 := hd6 b5 h5 t5 m5 n5 hx0; clear b5 h5 t5 m5 n5 hx0)
 obtain ⟨b5, h5, t5, m5, n5, hx0⟩ := H5.out;obtain ⟨B, sz, lq⟩ := HB.out;have hx0 : W.heap.size <= x0 := hx0;have t6 : w5.heap[w.heap.size + 1]? = some (.cells #[.bool b] 4) := (n5.block _ (aa t5) GR).trans t5;have c6 := ae t6 (j := 0) rfl;have z6 := aZ t6 0;have c7 := ae (IQ _ _ 0 _ 4 (.bool b) t6) (j := 0) rfl;obtain ⟨k1, k2⟩ := Fy (u := .bool b) B b5 h5 m5 n5 hx0 (by omega : w.heap.size <= w.heap.size + 1) lq;have HE := hd3 c7 k1 k2;clear b5 h5 t5 m5 n5 hx0 sz lq B t6 c7 k1 k2;go_wp2;exact IK (nY (p := 2) (u := 3) rfl _ _ ⟨w.heap.size + 1, 0, none⟩ _ rfl HE.1 GQ) rfl ⟨rfl, HE.2.1, HE.2.2⟩
theorem y4c (h : aU w q l) (hl : l.length <= 1000000000) (hr : Wm.iJ l = none) :
 Calls prog 179 #[q] w λ e w' => e = .returned (.tuple #[.bool false, .int .i64 140]) /\ Moves (λ k => k = q) w w' := by
 have gN : ∀ (fn : Fn) (first cap : Array Value) (w : World), (Instr.makeFunc fn first cap).run prog w = .ok (.func fn first cap) w := λ _ _ _ _ => rfl;obtain ⟨W, hW⟩ := G5 ((w.alloc (.cells #[.pointer (some ⟨q, 0, none⟩)] iA)).alloc (.cells #[false] 4));have B : Below w w W := by rw [<-hW]; exact (bla).alloc GV _
 have s : W.heap.size = w.heap.size + 2 := by rw [<-hW]; simp
 have r2 : W.heap[w.heap.size]? = some (.cells #[q] iA) := by rw [<-hW]; exact aM GV (IC w _)
 have r4 : W.heap[w.heap.size + 1]? = some (.cells #[false] 4) := by rw [<-hW]; exact bD (w := w.alloc _) _ GV
 have lq := h.lt;have hx := h.later B
 have TC := hd1 (zX (w := W) (q := q) (fn := 204) (fs := #[]) (cs := #[.pointer (some ⟨w.heap.size, 0, none⟩), .pointer (some ⟨w.heap.size + 1, 0, none⟩)])
  (R := λ X X' => zJ q X X') hx (enters_of func204 GQ rfl)
  (λ X hb => by
   rw [JH];have hb' : Below W W X := hb;exact y4d (hx.later hb') hl hr (aN hb' (ae r2 rfl)))
  (λ X X' hb hX => by exact hX))
 have ne : Nonempty (Wd (Below W W)) := ⟨⟨_, Below.refl _ _⟩⟩;have f2 : ∀ x : Wd (Below W W), x.world.cell? w.heap.size = some (.pointer (some q)) := λ x => aN x.ok (ae r2 rfl);have HB := hd4 B s lq r4;have HW := hd1 hW;clear hW r2 r4 hx h B s lq;go_in;go_upto_region 1 with fail
 rw [HW.out];have f0 := f2 ⟨W, Below.refl _ _⟩;dsimp only at f0;clear f2 ne;go_upto_region 2 with (go_at_call 175; refine TC.mono ?_; rintro e w5 ⟨rfl, m5⟩; have H5 := hd1 m5; clear m5)
 obtain ⟨B, sz, lq, r4⟩ := HB.out;have m5 : Moves (λ k => k = q) W w5 := H5.out;have t6 : w5.heap[w.heap.size + 1]? = some (.cells #[false] 4) := (m5.block _ (aa r4) GR).trans r4;have c6 := ae t6 (j := 0) rfl;have z6 := aZ t6 0;have c7 := ae (IQ _ _ 0 _ 4 (.bool false) t6) (j := 0) rfl;have k2 := Fx (u := .bool false) B m5 (by omega : w.heap.size <= w.heap.size + 1);have HE := hd2 c7 k2;clear m5 sz lq B t6 c7 k2 r4;go_wp2;exact IK (nY (p := 2) (u := 3) rfl _ _ ⟨w.heap.size + 1, 0, none⟩ _ rfl HE.1 GQ) rfl ⟨rfl, HE.2⟩
theorem tZ (h : aU w q []) : Calls prog 149 #[q] w λ e w' => e = .returned (.int .i64 0) /\ Below w w w' := by
 have gN : ∀ (fn : Fn) (first cap : Array Value) (w : World), (Instr.makeFunc fn first cap).run prog w = .ok (.func fn first cap) w := λ _ _ _ _ => rfl;obtain ⟨W, hW⟩ := G5 (w.alloc (.cells #[.pointer (some ⟨q, 0, none⟩)] iA));have B : Below w w W := by rw [<-hW]; exact bla
 have r2 : W.heap[w.heap.size]? = some (.cells #[q] iA) := by rw [<-hW]; exact IC w _
 have f2 := ae r2 (j := 0) rfl;have hx := h.later B
 have TC := hd1 (zW (w := W) (q := q) (fn := 176) (fs := #[]) (cs := #[.pointer (some ⟨w.heap.size, 0, none⟩)]) (R := λ X X' => X = X') hx (enters_of func176 GQ rfl)
  (λ X hb => by rw [JH]; exact x6y (hx.later hb) (aN hb f2)) (λ X X' hX => by subst hX; exact Moves.refl _ _))
 have HB := hd1 B;have HW := hd1 hW;clear hW r2 hx h B;go_in;go_upto_region 1 with fail
 rw [HW.out];go_wp2_with (go_at_call 175; refine TC.mono ?_; rintro e w5 ⟨rfl, X, X', x0, b5, rfl, n5, hx0⟩; have H5 := hd3 b5 n5 hx0; clear b5 n5 hx0)
 go_ret;obtain ⟨b5, n5, hx0⟩ := H5.out;exact ⟨rfl, ((Moves.of_below (O := λ _ => False) (HB.trans (b5.mono HB.size))).trans n5 (λ i hi h => Hf HB.size)).below⟩
theorem y0n (h : aU w q l) (hl : l ≠ []) : Calls prog 149 #[q] w λ e w' => e = .returned (.int .i64 140) /\ Moves (λ k => k = q) w w' := by
 have gN : ∀ (fn : Fn) (first cap : Array Value) (w : World), (Instr.makeFunc fn first cap).run prog w = .ok (.func fn first cap) w := λ _ _ _ _ => rfl;obtain ⟨W, hW⟩ := G5 (w.alloc (.cells #[.pointer (some ⟨q, 0, none⟩)] iA));have B : Below w w W := by rw [<-hW]; exact bla
 have r2 : W.heap[w.heap.size]? = some (.cells #[q] iA) := by rw [<-hW]; exact IC w _
 have f2 := ae r2 (j := 0) rfl;have hx := h.later B
 have TC := hd1 (zX (w := W) (q := q) (fn := 176) (fs := #[]) (cs := #[.pointer (some ⟨w.heap.size, 0, none⟩)]) (R := λ X X' => X = X') hx (enters_of func176 GQ rfl)
  (λ X hb => by rw [JH]; exact x6x (hx.later hb) hl (aN hb f2)) (λ X X' hb hX => by subst hX; exact (hx.later hb).gone (Moves.refl _ _)))
 have HB := hd1 B;have HW := hd1 hW;clear hW r2 hx h B;go_in;go_upto_region 1 with fail
 rw [HW.out];go_wp2_with (go_at_call 175; refine TC.mono ?_; rintro e w5 ⟨rfl, m5⟩; have H5 := hd1 m5; clear m5)
 go_ret;exact ⟨rfl, (Moves.of_below HB.out).trans H5.out (λ _ _ h => h)⟩
abbrev cK : Nat := 214
theorem Bg (h : aU w q l) : ∃ W, w.alloc (.cells #[q] cK) = W /\ Below w w W /\ aU W q l /\ W.cell? w.heap.size = some (.pointer (some q)) := by
 have B : Below w w (w.alloc (.cells #[q] cK)) := bla;exact ⟨_, rfl, B, h.later B, ae (IC w _) rfl⟩
theorem oC {r : List UInt8} {most : Nat} (h : aU w q l) (hl : l.length <= 1000000000) (hr : Wm.bF most l = some (n, r)) :
 Calls prog 148 #[.agg #[.pointer (some q)], .int .i64 most] w λ e w' => e = .returned (.int .i64 n) /\ aU w' q r /\ Moves (λ k => k = q) w w' := by
 obtain ⟨W, hW, B, hx, c0⟩ := Bg h;have NC := hd1 (x1i hx hl hr);have HB := hd1 B;clear h hx B;go_in
 go_wp2_with (first
  | (go_at_call 174; refine NC.mono ?_; rintro e w1 ⟨rfl, x1, m1⟩; have H1 := hd2 x1 m1; clear x1 m1)
  | (go_at_call 109; refine (kH _).mono ?_; rintro e w' ⟨rfl, rfl⟩))
 exact Rl
theorem CO {most : Nat} (h : aU w q l) (hl : l.length <= 1000000000) (hr : Wm.bF most l = none) :
 Calls prog 148 #[.agg #[.pointer (some q)], .int .i64 most] w λ e w' => e = .panicked fQ /\ Moves (λ k => k = q) w w' := by
 obtain ⟨W, hW, B, hx, c0⟩ := Bg h;have NC := hd1 (x1h hx hl hr);have HB := hd1 B;clear h hx B;go_in
 go_wp2_with (first
  | (go_at_call 174; refine NC.mono ?_; rintro e w1 ⟨rfl, m1⟩; have H1 := hd1 m1; clear m1)
  | (go_at_call 109; refine (iL _).mono ?_; rintro e w' ⟨rfl, rfl⟩))
 exact Qu
theorem qa {r s : List UInt8} {most : Nat} (h : aU w q l) (hl : l.length <= 1000000000) (hr : Wm.dh most l = some (s, r)) :
 Calls prog 150 #[.agg #[.pointer (some q)], .int .i64 most] w λ e w' => e = .returned (ag s) /\ aU w' q r /\ Moves (λ k => k = q) w w' := by
 obtain ⟨W, hW, B, hx, c0⟩ := Bg h;have NC := hd1 (y5r hx hl hr);have HB := hd1 B;clear h hx B;go_in
 go_wp2_with (first
  | (go_at_call 178; refine NC.mono ?_; rintro e w1 ⟨rfl, x1, m1⟩; have H1 := hd2 x1 m1; clear x1 m1)
  | (go_at_call 109; refine (kH _).mono ?_; rintro e w' ⟨rfl, rfl⟩))
 exact Rl
theorem CK {most : Nat} (h : aU w q l) (hl : l.length <= 1000000000) (hr : Wm.dh most l = none) :
 Calls prog 150 #[.agg #[.pointer (some q)], .int .i64 most] w λ e w' => e = .panicked fQ /\ Moves (λ k => k = q) w w' := by
 obtain ⟨W, hW, B, hx, c0⟩ := Bg h;have NC := hd1 (y5q hx hl hr);have HB := hd1 B;clear h hx B;go_in
 go_wp2_with (first
  | (go_at_call 178; refine NC.mono ?_; rintro e w1 ⟨rfl, m1⟩; have H1 := hd1 m1; clear m1)
  | (go_at_call 109; refine (iL _).mono ?_; rintro e w' ⟨rfl, rfl⟩))
 exact Qu
theorem z2k (h : BytesAt w.heap F v l) (hl : l.length <= 1000000000) :
 Calls prog 173 #[v] w λ e w' => ∃ q, e = .returned (.pointer (some ⟨q, 0, none⟩)) /\ aU w' q l /\ w.heap.size <= q /\ Below w w w' := by
 have CL := hd1 (De h GR);clear h;go_in
 go_wp2_with (go_at_call 98; refine CL.mono ?_; rintro e w1 hg
              obtain ⟨u, rfl, b1, y1⟩ := hg;obtain ⟨ua, uc, rfl⟩ := y1.slice;have H1 := hd2 b1 y1;clear b1 y1)
 go_ret;obtain ⟨b1, y1⟩ := H1.out;have b2 : Below w1 w1 (w1.alloc (.cells #[.slice ua l.length uc, true, false] qF)) := bla;refine ⟨w1.heap.size, rfl, ⟨_, IC w1 _, y1.keeps (λ k _ hl => b2.block k hl) (λ k _ hl => hl)⟩, b1.size, b1.trans (b2.mono b1.size)⟩
theorem AA {r : List UInt8} {b : Bool} (h : Wm.iJ l = some (b, r)) : r.length <= l.length := by
 cases l with
 | nil => cases h
 | cons c l =>
  have h' : (if c > 1 then none else some (c == 1, l)) = some (b, r) := h;by_cases hc : c > 1
  ·rw [IA hc] at h'; cases h'
  ·rw [Iw hc] at h'
   have e : l = r := IG Prod.snd (IM h');subst e;simp
theorem kS {r s : List UInt8} {most : Nat} (h : Wm.dh most l = some (s, r)) : r.length <= l.length /\ s.length <= most := by
 rw [E5] at h;cases hn : Wm.bF most l with
 | none => rw [hn] at h; cases h
 | some p =>
  obtain ⟨n, r0⟩ := p;rw [hn] at h;simp only at h;obtain ⟨k1, k2, _⟩ := ic hn;by_cases hq : n > r0.length
  ·rw [IA hq] at h; cases h
  ·rw [Iw hq] at h
   have e := IM h;have e1 : r0.take n = s := IG Prod.fst e;have e2 : r0.drop n = r := IG Prod.snd e;rw [<-e1, <-e2, I5, I4];omega
theorem gm {t : TypeId} (r : w.heap[g]? = some (.cells C t)) (j : Nat) (v : Value) : ∃ W, w.setCell (g, j) v = W /\ W.heap[g]? = some (.cells (C.setIfInBounds j v) t (0, 0)) /\ Moves (λ k => k = g) w W :=
 ⟨_, rfl, IQ w g j C t v r, eP w g j v⟩
abbrev Df (k v : Value) (g : Bool) : Array Value := #[k, v, .bool g]
theorem y1r {r : List UInt8} {c : Em.ay} (h : aU w q l) (hl : l.length <= 1000000000) (hr : Em.kE l = some (c, r)) :
 Calls prog 151 #[.agg #[.pointer (some q)]] w λ e w' => e = .returned (.agg #[ag c.key, ag c.value, .bool c.gone]) /\ aU w' q r /\ Moves (λ k => k = q) w w' := by
 have lq := h.lt;obtain ⟨W, hW⟩ := G5 ((w.alloc (.cells #[.pointer (some ⟨q, 0, none⟩)] cK)).alloc (.cells (Df (.string ⟨#[]⟩) (.string ⟨#[]⟩) false) a_));have B : Below w w W := by rw [<-hW]; exact (bla).alloc GV _
 have r1 : W.heap[w.heap.size]? = some (.cells #[q] cK) := by rw [<-hW]; exact aM GV (IC w _)
 have r2 : W.heap[w.heap.size + 1]? = some (.cells (Df (.string ⟨#[]⟩) (.string ⟨#[]⟩) false) a_ (0, 0)) := by rw [<-hW]; exact bD (w := w.alloc _) _ GV
 have c1 := ae r1 (j := 0) rfl;unfold Em.kE at hr;cases ht : Wm.iJ l with
 | none => rw [ht] at hr; cases hr
 | some p =>
  obtain ⟨g, ra⟩ := p;rw [ht] at hr;simp only at hr;cases hk : Wm.dh 64 ra with
  | none => rw [hk] at hr; cases hr
  | some p =>
   obtain ⟨k, rb⟩ := p;rw [hk] at hr;simp only at hr;have la := AA ht;have lb := (kS hk).1;have TC := hd1 (z3p (h.later B) hl ht);have KC := hd1 (λ (X : World) (hx : aU X q ra) => qa hx GR hk);have HB := hd4 B r1 r2 lq;have HW := hd1 hW;clear h B r1 r2 lq hW ht hk;cases g with
   | true =>
    rw [IA rfl] at hr;obtain ⟨rfl, rfl⟩ : (⟨k, [], true⟩ : Em.ay) = c /\ rb = r := by
     exact Py
    clear hr;go_in;go_upto_region 1 with fail
    rw [HW.out]
    go_wp2_with (first
     | (go_at_call 179; refine TC.mono ?_; rintro e w1 ⟨rfl, x1, m1⟩
        have j1 := (IW (m1.block w.heap.size (aa HB.2.1) (Hf HB.2.2.2))).trans c1;have H1 := hd2 x1 m1;clear x1 m1 c1)
     | (go_at_call 109; refine (kH _).mono ?_; rintro e w' ⟨rfl, rfl⟩)
     | (go_at_call 150; refine (KC.out _ H1.1).mono ?_; rintro e w2 ⟨rfl, x2, m2⟩
        have t2 := (m2.block (w.heap.size + 1) (Hg (aa HB.2.2.1) H1.2.size) (Hf HB.2.2.2)).trans ((H1.2.block (w.heap.size + 1) (aa HB.2.2.1) (Hf HB.2.2.2)).trans HB.2.2.1);have k1 := ae t2 (j := 1) rfl;have k0 := ae t2 (j := 0) rfl;have k2 := ae t2 (j := 2) rfl;have z0 := aZ t2 0;have z1 := aZ t2 1;have z2 := aZ t2 2;have H2 := hd3 x2 m2 t2;clear x2 m2 t2 j1))
    obtain ⟨x2, m2, t2⟩ := H2.out;obtain ⟨V1, e1, u1, n1⟩ := gm t2 2 (.bool true);obtain ⟨V2, e2, u2, n2⟩ := gm u1 0 (ag k);obtain ⟨V3, e3, u3, n3⟩ := gm u2 0 (ag k);obtain ⟨V4, e4, u4, n4⟩ := gm u3 1 (.string ⟨#[]⟩);obtain ⟨V5, e5, u5, n5⟩ := gm u4 2 (.bool true);rw [e1, e2, e3, e4, e5];refine Hd u5 Ic GQ ?_;obtain ⟨B, r1, r2, lq⟩ := HB.out;have n15 := (((n1.trans n2 (λ _ _ h => h)).trans n3 (λ _ _ h => h)).trans n4 (λ _ _ h => h)).trans n5 (λ _ _ h => h);exact ⟨rfl, x2.moves n15 (λ i hi => GR), ((((Moves.of_below B).trans H1.2 (λ _ _ h => h)).trans m2 (λ _ _ h => h)).trans n15 (λ i hi h => GR))⟩
   | false =>
    rw [Iw GU] at hr;cases hv : Wm.dh 4096 rb with
    | none => rw [hv] at hr; cases hr
    | some p =>
     obtain ⟨v, rc⟩ := p;rw [hv] at hr;simp only at hr;obtain ⟨rfl, rfl⟩ : (⟨k, v, false⟩ : Em.ay) = c /\ rc = r := by
      exact Py
     have VC := hd1 (λ (X : World) (hx : aU X q rb) => qa hx GR hv);clear hr hv;go_in;go_upto_region 1 with fail
     rw [HW.out]
     go_upto_region 4 with (first
      | (go_at_call 179; refine TC.mono ?_; rintro e w1 ⟨rfl, x1, m1⟩
         have j1 := (IW (m1.block w.heap.size (aa HB.2.1) (Hf HB.2.2.2))).trans c1;have H1 := hd2 x1 m1;clear x1 m1)
      | (go_at_call 109; refine (kH _).mono ?_; rintro e w' ⟨rfl, rfl⟩)
      | (go_at_call 150; refine (KC.out _ H1.1).mono ?_; rintro e w2 ⟨rfl, x2, m2⟩
         have t2 := (m2.block (w.heap.size + 1) (Hg (aa HB.2.2.1) H1.2.size) (Hf HB.2.2.2)).trans ((H1.2.block (w.heap.size + 1) (aa HB.2.2.1) (Hf HB.2.2.2)).trans HB.2.2.1);have q1 := (IW (m2.block w.heap.size (Hg (aa HB.2.1) H1.2.size) (Hf HB.2.2.2))).trans j1;have k0 := ae t2 (j := 0) rfl;have k2 := ae t2 (j := 2) rfl;have z0 := aZ t2 0;have z2 := aZ t2 2;have H2 := hd4 x2 m2 t2 q1;clear x2 m2 t2 q1 j1 c1))
     obtain ⟨x2, m2, t2, q1⟩ := H2.out;obtain ⟨V1, e1, u1, n1⟩ := gm t2 2 (.bool false);obtain ⟨V2, e2, u2, n2⟩ := gm u1 0 (ag k);rw [e1, e2];have n12 := n1.trans n2 (λ _ _ h => h);have lw := aa HB.2.2.1;have q2 := (IW (n12.block w.heap.size (IX q1) GR)).trans q1;have x3 := x2.moves n12 (λ i hi => Hf HB.2.2.2);have HV := hd3 x3 u2 n12;clear x2 m2 t2 q1 e1 e2 u1 u2 n1 n2 n12 x3 k0 k2 z0 z2 lw
     go_wp2_with (go_at_call 150; refine (VC.out _ HV.1).mono ?_; rintro e w3 ⟨rfl, x4, m4⟩
                  have t4 := (m4.block (w.heap.size + 1) (aa HV.2.1) (Hf HB.2.2.2)).trans HV.2.1;have k0 := ae t4 (j := 0) rfl;have k1 := ae t4 (j := 1) rfl;have k2 := ae t4 (j := 2) rfl;have z0 := aZ t4 0;have z1 := aZ t4 1;have z2 := aZ t4 2;have H4 := hd3 x4 m4 t4;clear x4 m4 t4)
     obtain ⟨x4, m4, t4⟩ := H4.out;obtain ⟨Y1, f1, g1, p1⟩ := gm t4 1 (ag v);obtain ⟨Y2, f2, g2, p2⟩ := gm g1 0 (ag k);obtain ⟨Y3, f3, g3, p3⟩ := gm g2 1 (ag v);obtain ⟨Y4, f4, g4, p4⟩ := gm g3 2 (.bool false);rw [f1, f2, f3, f4];refine Hd g4 Ic GQ ?_;obtain ⟨B, r1, r2, lq⟩ := HB.out;obtain ⟨x2, m2, t2, q1⟩ := H2.out;have p14 := ((p1.trans p2 (λ _ _ h => h)).trans p3 (λ _ _ h => h)).trans p4 (λ _ _ h => h);exact ⟨rfl, x4.moves p14 (λ i hi => GR), ((((((Moves.of_below B).trans H1.2 (λ _ _ h => h)).trans m2 (λ _ _ h => h)).trans HV.2.2 (λ i hi h => GR)).trans m4 (λ _ _ h => h)).trans p14 (λ i hi h => GR))⟩
theorem BytesAt.apart {c : Array Value} {ty : TypeId} {fr : Nat × Nat} (h : BytesAt w.heap F v l) (r : w.heap[g]? = some (.cells c ty fr)) (hf : fr = (0, 0)) (hc : ∀ x : UInt8, c[0]? ≠ some (bL x)) (u : Value) :
 BytesAt (w.setCell g u).heap F v l := by
 subst hf;rcases h with h | ⟨b, o, cap, cs, t, fr', h1, h2, h3, h4, h5, h6⟩
 ·exact Iy h
 ·by_cases hb : b = g
  ·subst hb
   rw [r] at h5;cases h5;refine Iz ⟨b, o, cap, _, ty, (0, 0), h1, h2, h3, h4, IQ w b 0 c ty u r, λ i x hi => ?_⟩;have h7 := h6 i x hi;have hne : o + i ≠ 0 := λ e => by rw [e] at h7; exact hc x h7
   rw [Lc GR];exact h7
  ·exact Iz ⟨b, o, cap, cs, t, fr', h1, h2, h3, h4, (IU _ _ b _ hb).trans h5, h6⟩
theorem aU.apart {c : Array Value} {ty : TypeId} (h : aU w q l) (hg : q ≠ g) (r : w.heap[g]? = some (.cells c ty)) (hc : ∀ x : UInt8, c[0]? ≠ some (bL x)) (u : Value) : aU (w.setCell g u) q l := by
 obtain ⟨v, e, y⟩ := h;exact ⟨v, (IU _ _ q _ hg).trans e, y.apart r rfl hc u⟩
theorem qN {r : List UInt8} {kind : Nat} (h : BytesAt w.heap F v l) (hl : l.length <= 1000000000) (hr : Wm.bF 3 l = some (kind, r)) :
 Calls prog 147 #[v, .int .i64 kind] w λ e w' => ∃ q, e = .returned (.agg #[.pointer (some ⟨q, 0, none⟩)]) /\ aU w' q r /\ w.heap.size <= q /\ Below w w w' := by
 obtain ⟨W, hW⟩ := G5 (w.alloc (.cells #[.pointer none] cK));have B : Below w w W := by rw [<-hW]; exact bla
 have r4 : W.heap[w.heap.size]? = some (.cells #[.pointer none] cK) := by rw [<-hW]; exact IC w _
 have s : W.heap.size = w.heap.size + 1 := by rw [<-hW]; simp
 have RC := hd1 (z2k (h.below B) hl);have HB := hd3 B r4 s;have HW := hd1 hW;clear h B r4 s hW;go_in;go_upto_region 1 with fail
 rw [HW.out]
 go_wp2_with (first
  | (go_at_call 173; refine RC.mono ?_; rintro e w1 ⟨q, rfl, x1, hq, b1⟩
     have B2 : Below w1 w1 (w1.alloc (.cells #[.pointer (some ⟨q, 0, none⟩)] cK)) := bla;have NC := hd1 (oC (x1.later B2) hl hr);have H1 := hd4 x1 hq b1 B2;have k5 := ae (IC w1 (.cells #[.pointer (some ⟨q, 0, none⟩)] cK)) (j := 0) rfl;have lq := x1.lt;clear x1 b1 B2)
  | (go_at_call 148; refine NC.mono ?_; rintro e w2 ⟨rfl, x2, m2⟩
     have j5 := (IW (m2.block w1.heap.size GV GR)).trans k5;have s1 := H1.2.2.1.size;have r4 := (m2.block w.heap.size (by have := HB.2.2; simp; omega) (Hg H1.2.1 HB.2.2)).trans ((JL _ _ _ (Hf HB.2.2)).trans ((H1.2.2.1.block _ (Hf HB.2.2)).trans HB.2.1));have j4 := ae r4 (j := 0) rfl;have z4 := aZ r4 0;have H2 := hd4 x2 m2 r4 s1;clear x2 m2 r4 s1 k5 lq)
  | (go_at_call 109; refine (kH _).mono ?_; rintro e w' ⟨rfl, rfl⟩))
 obtain ⟨x2, m2, r4, s1⟩ := H2.out;obtain ⟨x1, hq, b1, B2⟩ := H1.out;obtain ⟨B, r0, sz⟩ := HB.out;have ms := eP w2 w.heap.size 0 (.pointer (some ⟨q, 0, none⟩));have r5 := IQ _ _ 0 _ cK (.pointer (some ⟨q, 0, none⟩)) r4;refine Hd r5 underlying214 GQ ?_;refine ⟨q, rfl, x2.apart GR r4 (λ x => by simp [bL]) _, GR, ?_⟩;have b3 : Below w w (w1.alloc (.cells #[.pointer (some ⟨q, 0, none⟩)] cK)) := (B.trans (b1.mono B.size)).trans (B2.mono (B.trans (b1.mono B.size)).size);exact (((Moves.of_below (O := λ _ => False) b3).trans m2 (λ i hi h => GR)).trans ms (λ i hi h => GR)).below
theorem Fv {kind : Nat} (h : BytesAt w.heap F v l) (hl : l.length <= 1000000000) (hr : ∀ r, Wm.bF 3 l ≠ some (kind, r)) :
 Calls prog 147 #[v, .int .i64 kind] w λ e w' => e = .panicked fQ /\ Below w w w' := by
 obtain ⟨W, hW⟩ := G5 (w.alloc (.cells #[.pointer none] cK));have B : Below w w W := by rw [<-hW]; exact bla
 have s : W.heap.size = w.heap.size + 1 := by rw [<-hW]; simp
 have RC := hd1 (z2k (h.below B) hl);have HB := hd2 B s;have HW := hd1 hW;clear h B s hW;have low : ∀ (w1 w2 : World) (q : Nat), Below W W w1 -> W.heap.size <= q -> Moves (λ k => k = q) (w1.alloc (.cells #[q] cK)) w2 -> Below w w w2 := by
  intro w1 w2 q b1 hq m2;have b3 : Below w w (w1.alloc (.cells #[q] cK)) := (HB.1.trans (b1.mono HB.1.size)).alloc (HB.1.trans (b1.mono HB.1.size)).size _;exact ((Moves.of_below (O := λ _ => False) b3).trans m2 (λ i hi h => Hf HB.2)).below
 have LOW := hd1 low;clear low;cases hn : Wm.bF 3 l with
 | none =>
  have HN := hd1 hn;clear hn hr;go_in;go_upto_region 1 with fail
  rw [HW.out]
  go_wp2_with (first
   | (go_at_call 173; refine RC.mono ?_; rintro e w1 ⟨q, rfl, x1, hq, b1⟩
      have B2 : Below w1 w1 (w1.alloc (.cells #[q] cK)) := bla;have NC := hd1 (CO (x1.later B2) hl HN.out);have H1 := hd2 hq b1;have k5 := ae (IC w1 (.cells #[.pointer (some ⟨q, 0, none⟩)] cK)) (j := 0) rfl;clear x1 b1 B2)
   | (go_at_call 148; refine NC.mono ?_; rintro e w2 ⟨rfl, m2⟩))
  exact ⟨rfl, rfl, LOW.out _ _ _ H1.2 H1.1 m2⟩
 | some p =>
  obtain ⟨k, r⟩ := p;have hk : k ≠ kind := λ e => by subst e; exact hr r hn
  have g1 : ((k : Int) == (kind : Int)) = false := by rw [J2]; omega
  have HN := hd1 hn;clear hn hr hk;go_in;go_upto_region 1 with fail
  rw [HW.out]
  go_wp2_with (first
   | (go_at_call 173; refine RC.mono ?_; rintro e w1 ⟨q, rfl, x1, hq, b1⟩
      have B2 : Below w1 w1 (w1.alloc (.cells #[q] cK)) := bla;have NC := hd1 (oC (x1.later B2) hl HN.out);have H1 := hd2 hq b1;have k5 := ae (IC w1 (.cells #[.pointer (some ⟨q, 0, none⟩)] cK)) (j := 0) rfl;clear x1 b1 B2)
   | (go_at_call 148; refine NC.mono ?_; rintro e w2 ⟨rfl, _, m2⟩; have H2 := hd1 m2; clear m2)
   | (go_at_call 109; refine (iL _).mono ?_; rintro e w' ⟨rfl, rfl⟩))
  exact ⟨rfl, rfl, LOW.out _ _ _ H1.2 H1.1 H2.out⟩
theorem FI {b r : List UInt8} {c : Em.ay} (h : Em.kE b = some (c, r)) : r.length <= b.length /\ c.key.length <= 64 /\ c.value.length <= 4096 := by
 unfold Em.kE at h;cases ht : Wm.iJ b with
 | none => rw [ht] at h; cases h
 | some p =>
  obtain ⟨g, ra⟩ := p;rw [ht] at h;simp only at h;have la := AA ht;cases hk : Wm.dh 64 ra with
  | none => rw [hk] at h; cases h
  | some p =>
   obtain ⟨k, rb⟩ := p;rw [hk] at h;simp only at h;obtain ⟨lb, lk⟩ := kS hk;cases g with
   | true =>
    rw [IA rfl] at h;have e := IM h;have e1 : (⟨k, [], true⟩ : Em.ay) = c := IG Prod.fst e;have e2 : rb = r := IG Prod.snd e;subst e1; subst e2;exact ⟨GR, lk, GV⟩
   | false =>
    rw [Iw GU] at h;cases hv : Wm.dh 4096 rb with
    | none => rw [hv] at h; cases h
    | some p =>
     obtain ⟨v, rc⟩ := p;rw [hv] at h;obtain ⟨lc, lv⟩ := kS hv;have e := IM h;have e1 : (⟨k, v, false⟩ : Em.ay) = c := IG Prod.fst e;have e2 : rc = r := IG Prod.snd e;subst e1; subst e2;exact ⟨GR, lk, lv⟩
theorem FH : ∀ {n : Nat} {b r : List UInt8} {l : List Em.ay}, Em.eZ n b = some (l, r) -> r.length <= b.length /\ l.length = n /\ ∀ c ∈ l, c.key.length <= 64 /\ c.value.length <= 4096
 | 0, b, r, l, h => by
  have e := IM h;have e1 : [] = l := IG Prod.fst e;have e2 : b = r := IG Prod.snd e;subst e1; subst e2;exact ⟨Nat.le_refl _, rfl, λ c hc => by cases hc⟩
 | n + 1, b, r, l, h => by
  rw [Em.eZ] at h;cases hc : Em.kE b with
  | none => rw [hc] at h; cases h
  | some p =>
   obtain ⟨c, rb⟩ := p;rw [hc] at h;simp only at h;cases hm : Em.eZ n rb with
   | none => rw [hm] at h; cases h
   | some p =>
    obtain ⟨l', r'⟩ := p;rw [hm] at h;have e := IM h;have e1 : c :: l' = l := IG Prod.fst e;have e2 : r' = r := IG Prod.snd e;subst e1; subst e2;obtain ⟨k1, k2, k3⟩ := FH hm;obtain ⟨j1, j2, j3⟩ := FI hc;refine ⟨GR, by simp [k2], λ x hx => ?_⟩;rcases J5.1 hx with rfl | hx
    ·exact ⟨j2, j3⟩
    ·exact k3 x hx
abbrev jg (at' : Int) (gen : Nat) (rows : Value) (aL fin : Nat) : Array Value := #[.int .i64 at', .int .i64 gen, rows, .int .i64 aL, .int .i64 fin]
theorem j6.moves {base : Nat} {l : List Em.ay} (h : j6 w base v l) (hm : Moves O w w') (ho : ∀ k, base <= k -> ¬ O k) : j6 w' base v l := by
 refine ⟨h.1, ?_⟩;rcases h.2 with h1 | ⟨g, cap, cur, h1, h2, h3, h4⟩
 ·exact Iy h1
 ·exact Iz ⟨g, cap, cur, h1, h2, (hm.block g (aa h3) (ho g h2)).trans h3, h4⟩
theorem Dq {B : Nat} (h : Below B w w') (hs : B <= w.heap.size) : Moves (λ k => B <= k) w w' := ⟨h.os, h.tape, h.output, h.size, λ i _ hn => h.block i GR⟩
theorem Ga {b : List UInt8} {N : Nat} : (Em.eZ N b).map (λ p => (([] : List Em.ay) ++ p.1, p.2)) = Em.eZ N b := by
 cases Em.eZ N b with
 | none => rfl
 | some p => rfl
structure D9 (W2 : World) (q N : Nat) (b0 : List UInt8) (i : Nat) (v : Value) (wr : World) (acc : List Em.ay) (r : List UInt8) : Prop where
 own : j6 wr W2.heap.size v acc
 rd : aU wr q r
 cZ : Em.eZ N b0 = (Em.eZ (N - i) r).map λ p => (acc ++ p.1, p.2)
 mv : Moves (λ k => k = q \/ W2.heap.size <= k) W2 wr
 len : acc.length = i /\ r.length <= b0.length
theorem x4c {T g1 g2 gen aL iD fin fin' : Nat} {at' : Int} {D D' : Em.Rows} (h : fV w g1 g2 l fin) (hl : l.length <= 1000000000)
 (hT : w.heap[T]? = some (.cells (jg at' gen (.map (some m)) aL iD) dK (0, 0))) (hm : RowsIn w m (Maps.size D) D) (hs : Maps.size D <= 256) (h1 : g1 < T) (h2 : T < g2) (hb : aL <= 1000000000) (hr : Em.eF l fin D = some (D', fin')) :
 Calls prog 114 #[.pointer (some T), .func (.func 107) #[] #[.pointer (some g1), .pointer (some g2)]] w λ e w' =>
  e = .returned (.tuple #[]) /\ fV w' g1 g2 l fin' /\ (∃ m', w'.heap[T]? = some (.cells (jg at' gen (.map (some m')) (aL + 1) iD) dK (0, 0)) /\ RowsIn w' m' (Maps.size D') D' /\ w.heap.size <= m') /\ Moves (λ k => k = T \/ k = g2) w w' := by
 unfold Em.eF at hr;cases hsp : Wm.split (l.drop fin) with
 | none => rw [hsp] at hr; cases hr
 | some p =>
  obtain ⟨body, n⟩ := p;rw [hsp] at hr;simp only at hr;obtain ⟨_, _, fP⟩ := jB hsp;have lb : body.length <= 1000000000 := by rw [I5] at fP; omega
  have NX := hd1 (qR h hl hsp);have eg := enters_of func107 GQ rfl;cases hbt : Em.iK body with
  | none => rw [hbt] at hr; cases hr
  | some c =>
   rw [hbt] at hr;simp only at hr;by_cases hd : Em.aW D c = 0
   ·rw [IA hd] at hr
    obtain ⟨rfl, rfl⟩ : Em.behind D c = D' /\ fin + n = fin' := by
     exact Py
    unfold Em.iK at hbt;cases hk : Wm.bF 3 body with
    | none => rw [hk] at hbt; cases hbt
    | some p =>
     obtain ⟨kd, ra⟩ := p;rw [hk] at hbt;simp only at hbt;by_cases hk3 : kd ≠ 3
     ·rw [IA hk3] at hbt; cases hbt
     ·rw [Iw hk3] at hbt
      have hk3 : kd = 3 := GR;subst hk3;cases hn : Wm.bF 64 ra with
      | none => rw [hn] at hbt; cases hbt
      | some p =>
       obtain ⟨N, rb⟩ := p;rw [hn] at hbt;simp only at hbt;cases hcs : Em.eZ N rb with
       | none => rw [hcs] at hbt; cases hbt
       | some p =>
        obtain ⟨cs, rest⟩ := p;rw [hcs] at hbt;simp only at hbt;by_cases he : rest = []
        ·rw [IA he] at hbt
         obtain rfl : cs = c := IM hbt;subst he;have la := ic hk;have gM := ic hn;have RC := hd1 (λ (X : World) (F : Nat -> Prop) (v : Value) (hv : BytesAt X.heap F v body) => qN hv lb hk);have MC := hd1 (λ (X : World) (q : Nat) (hx : aU X q ra) => oC hx GR hn);have HH := hd9 h hT hm hs hd hcs lb la gM;have N64 : N <= 64 := gM.2.1;clear h hT hm hs hd hcs hr hbt hk hn hsp lb la gM hl fP;go_in
         go_upto_region 1 with (first
          | (with_reducible refine NX.out.mono ?_; rintro e w1 ⟨v1, rfl, y1, x1, m1⟩; have H1 := hd3 y1 x1 m1; clear y1 x1 m1)
          | (go_at_call 147; refine (RC.out _ _ _ H1.1).mono ?_; rintro e w2 ⟨q, rfl, x2, hq, b2⟩; have H2 := hd3 x2 hq b2; clear x2 hq b2))
         obtain ⟨W2, hW2⟩ := G5 (w2.alloc (.cells #[.pointer (some ⟨q, 0, none⟩)] cK));have B2 : Below w2 w2 W2 := by rw [<-hW2]; exact bla
         have r4 : W2.heap[w2.heap.size]? = some (.cells #[q] cK) := by rw [<-hW2]; exact IC w2 _
         have lq := H2.1.lt;rw [hW2];obtain ⟨g4, hg4⟩ := G5 w2.heap.size;have NC := hd1 (MC.out W2 q (H2.1.later B2));rw [hg4] at r4 lq ⊢;have c4 := ae r4 (j := 0) rfl;have l4 := aa r4;have HB := hd5 B2 r4 lq hg4 l4;clear B2 r4 lq hW2 hg4 l4;go_upto_region 3 with (go_at_call 148; refine NC.mono ?_; rintro e w3 ⟨rfl, x3, m3⟩; have H3 := hd2 x3 m3; clear x3 m3 c4)
         obtain ⟨b2', r4, lq, hg4, l4⟩ := HB.out;have ST := hd1 (show D9 W2 q N rb 0 (.slice none 0 0) w3 [] rb from ⟨F_ _ _, H3.1, Ga.symm, H3.2.mono (λ _ h => Iy h), rfl, Nat.le_refl _⟩);clear b2' r4 lq hg4 l4;go_loopw [5, 13] (λ v s wr => ∃ (i : Nat) (acc : List Em.ay) (r : List UInt8), i <= N /\ s = .int .i64 (i : Int) /\ D9 W2 q N rb i v wr acc r) (λ _ s _ => N - (intOf s).toNat)
         case atStart => exact ⟨0, [], rb, IV _, rfl, ST.out⟩
         case round =>
          obtain ⟨i, acc, r, hi, rfl, hrel⟩ := hrel;have j4 : wr.cell? g4 = some (.pointer (some q)) := (IW (hrel.mv.block g4 HB.2.2.2.2 (Hg HB.2.2.1 HB.2.2.2.2))).trans (ae HB.2.1 rfl);by_cases hlt : i < N
          ·have i0 : (0 : Int) <= (i : Int) := GR
           have i1 : (i : Int) < (N : Int) := GR;obtain ⟨j, hj⟩ : ∃ j, N - i = j + 1 := ⟨N - i - 1, GR⟩;have heq := hrel.cZ;rw [hj, Em.eZ, HH.2.2.2.2.2.1] at heq;cases hc : Em.kE r with
           | none => rw [hc] at heq; cases heq
           | some p =>
            obtain ⟨c, r'⟩ := p;rw [hc] at heq;simp only at heq;obtain ⟨lr, _, _⟩ := FI hc;have vS := hrel.len.2;have vY := HH.2.2.2.2.2.2.2.2.1;have gM := HH.2.2.2.2.2.2.2.1.1;have vX := HH.2.2.2.2.2.2.1;have CC := hd1 (y1r hrel.rd GR hc);have HR := hd4 hrel heq lr hc;clear hrel heq hc lr vS vY gM vX
            go_wp2_with (first
             | (go_at_call 151; refine CC.mono ?_; rintro e w4 ⟨rfl, x4, m4⟩
                have o4 := HR.1.own.moves m4 (λ k hk => Hg HB.2.2.1 HB.2.2.2.2);have H4 := hd3 x4 m4 o4;clear x4 m4 o4)
             | (at_builtin; refine Ac rfl (.tmp 15) (.tmp 18) rfl W2.heap.size _ acc c rfl (H4.2.2.moves (Moves.of_below (O := λ _ => False) (bla)) (λ _ _ h => h)) w4.heap.size 1 rfl (IC w4 _) (Hf HR.1.len.1) MB (Below.refl _ (w4.alloc (.cells #[ag c.key, ag c.value, .bool c.gone] a_))) ?_; intro v5 w5 h5 h6))
            go_roundw
            case rel =>
             have b4 : Below w4 w4 (w4.alloc (.cells #[ag c.key, ag c.value, .bool c.gone] a_)) := bla;have bm := Dq h6.out MB;have lq := HB.2.2.1;have l4 := HB.2.2.2.2;refine ⟨i + 1, acc ++ [c], r', GR, by go_num, h5.out, (H4.1.later b4).moves bm (λ k hk => GR), ?_, ?_, by rw [IL, HR.1.len.1]; rfl, Hg HR.2.2.1 HR.1.len.2⟩
             ·rw [HR.1.cZ, hj, Em.eZ, HR.2.2.2, show N - (i + 1) = j by omega]
              exact Qq
             ·exact Pv
            case measure => simp [intOf]; omega
          ·obtain rfl : i = N := GR
           have heq := hrel.cZ;rw [J3, HH.2.2.2.2.2.1] at heq;obtain ⟨e1, e2⟩ : cs = acc /\ ([] : List UInt8) = r := by
            have := IM heq;exact ⟨(IG Prod.fst this).trans (Ju _), IG Prod.snd this⟩
           subst e1;subst e2;obtain ⟨hN, hT, hm, hs, hd, hcs, lb, la, gM⟩ := HH.out;have BW : Below w1 w1 wr := (((Moves.of_below (O := λ k => w1.heap.size <= k) (H2.2.2)).trans (Moves.of_below (O := λ k => w1.heap.size <= k) HB.1) (λ _ _ h => h)).trans (hrel.mv.mono (O' := λ k => w1.heap.size <= k) (λ k hk => by have := H2.2.1; have := HB.1.size; have := H2.2.2.size; rcases hk with h | h <;> omega)) (λ _ _ h => h)).low (O' := λ _ => False) (λ i hi h => GR) |>.below
           have sK := (H1.2.2.block T (aa hT) GR).trans hT;have rT := (BW.block T (aa sK)).trans sK;have yM : m ≠ g2 := by
            exact Qd
           have rm := dZ (jP hm H1.2.2 yM) BW (Hg hm.lt H1.2.2.size);have nx := H1.2.1.later BW;have EC := hd1 (tZ hrel.rd);have DC := hd1 (λ (X : World) (hb : Below wr wr X) => CY (dZ rm hb rm.lt) GR (hrel.own.at.later hb) (Hf hrel.len.1) (λ c hc => Hf ((FH hcs).2.2 c hc)));have HX := hd7 rT nx BW H1.2.2 hd (aa hT) h2;obtain ⟨oa, oc, rfl⟩ := hrel.own.at.slice;generalize cs.length = cl at *;clear hrel heq hN hT hm hs hd hcs lb la gM sK rT rm nx BW yM
           go_upto_region 9 with (first
            | (go_at_call 149; refine EC.mono ?_; rintro e w6 ⟨rfl, b6⟩
               have t2 := ae ((b6.block T (aa HX.1)).trans HX.1) (j := 2) rfl;have D6 := hd1 (DC.out w6 b6);have B6 := hd1 b6;clear b6)
            | (go_at_call 109; refine (kH _).mono ?_; rintro e w' ⟨rfl, rfl⟩)
            | (go_at_call 37; refine D6.mono ?_; intro e w7 h7; obtain ⟨b7, h7⟩ := h7
               obtain ⟨m', rfl, hm', r7⟩ := h7.elim (λ h => absurd HX.2.2.2.2.1 h.1) (λ h => h.2);have H7 := hd3 b7 hm' r7;clear b7 h7 hm' r7 t2))
           have bb : Below wr wr w7 := B6.trans (H7.1.mono B6.size);have qO := (bb.block T (aa HX.1)).trans HX.1;have u3 := ae qO (j := 3) rfl;have u2 := ae qO (j := 2) rfl;have z2 := aZ qO 2;have z3 := aZ qO 3;have hw1 : IntKind.i64.wrap ((aL : Int) + 1) = ((aL + 1 : Nat) : Int) := Ja _ GR;have HE := hd2 bb qO;clear bb qO;go_wp2;go_end0
           obtain ⟨bb, qO⟩ := HE.out;obtain ⟨V1, e1, y1, n1⟩ := gm qO 2 (.map (some m'));obtain ⟨V2, e2, y2, n2⟩ := gm y1 3 (.int .i64 ((aL : Int) + 1));rw [e1, e2];have n12 := n1.trans n2 (λ _ _ h => h);obtain ⟨b7, hm7, r7⟩ := H7.out;have lm := r7.lt;have sr := HX.2.2.1.size;have s1 := HX.2.2.2.1.size;have s6 := B6.size;have lT := HX.2.2.2.2.2.1;have h2' := HX.2.2.2.2.2.2;have lg := aa HX.2.1.far;refine ⟨rfl, (HX.2.1.later bb).moves n12 (λ k hk => GR), ⟨m', y2, jP r7 n12 GR, GR⟩, ?_⟩;exact ((((HX.2.2.2.1.mono (O' := λ k => k = T \/ k = g2) (λ _ h => Iz h)).trans (Moves.of_below (O := λ k => k = T \/ k = g2) HX.2.2.1) (λ _ _ h => h)).trans (Moves.of_below (O := λ k => k = T \/ k = g2) bb) (λ _ _ h => h)).trans (n12.mono (O' := λ k => k = T \/ k = g2) (λ _ h => Iy h)) (λ _ _ h => h))
        ·rw [Iw he] at hbt; cases hbt
   ·rw [Iw hd] at hr; cases hr
abbrev fC : Nat := 51
abbrev xP : Nat := 44
theorem infoRow3 : (prog.info? fC).map (λ i => (i.zero, i.size, i.bytes)) = some (some (.agg #[.string ⟨#[]⟩, .string ⟨#[]⟩]), 2, 32) := GQ
def dx (w : World) (F : Nat -> Prop) (v : Value) (l : Em.bB) : Prop :=
 (v = .slice none 0 0 /\ l = []) \/ ∃ (b o cap : Nat) (cs : Array Value) (t : TypeId) (fr : Nat × Nat), v = .slice (some ⟨b, o, none⟩) l.length cap /\ l.length <= cap /\ cap <= 9223372036854775807 /\ F b /\ w.heap[b]? = some (.cells cs t fr) ∧
  ∀ (i : Nat) (r : Em.Bytes × Em.Bytes), l[i]? = some r -> cs[o + i * 2]? = some (ag r.1) /\ cs[o + i * 2 + 1]? = some (ag r.2)
theorem dx.slice {l : Em.bB} (h : dx w F v l) : ∃ a c, v = .slice a l.length c := by
 rcases h with ⟨rfl, rfl⟩ | ⟨b, o, cap, cs, t, fr, rfl, _⟩
 ·exact ⟨_, _, rfl⟩
 ·exact ⟨_, _, rfl⟩
theorem dx.later {l : Em.bB} (h : dx w F v l) (hb : Below w w w') : dx w' F v l := by
 exact Qc
theorem dx.at {a : Option Addr} {cap : Nat} {l : Em.bB} (h : dx w F (.slice a n cap) l) {i : Nat} {r : Em.Bytes × Em.Bytes} (hi : l[i]? = some r) :
 ∃ b o, a = some ⟨b, o, none⟩ /\ F b /\ b < w.heap.size /\ w.rangeAt b (o + i * 2) [ag r.1, ag r.2] := by
 rcases h with ⟨_, rfl⟩ | ⟨b, o, cap', cs, t, fr, h1, h2, h3, h4, h5, h6⟩
 ·simp at hi
 ·cases h1
  obtain ⟨g1, g2⟩ := h6 i r hi;refine ⟨b, o, rfl, h4, aa h5, λ j v hj => ?_⟩;match j, hj with
  | 0, hj => cases hj; exact (IJ _ _ _ _ _ _ h5).trans g1
  | 1, hj => cases hj; exact (IJ _ _ _ _ _ _ h5).trans g2
  | j + 2, hj => simp at hj
abbrev wK (l : Em.bB) : List Value := l.flatMap λ r => [ag r.1, ag r.2]
theorem x8h : ∀ (l : Em.bB) (i : Nat) (r : Em.Bytes × Em.Bytes), l[i]? = some r -> ∀ j v, [ag r.1, ag r.2][j]? = some v -> (wK l)[i * 2 + j]? = some v := by
 intro l;induction l with
 | nil => intro i c hi; simp at hi
 | cons x l ih =>
  intro i c hi j v hj;rw [wK, J9];cases i with
  | zero =>
   simp only [List.getElem?_cons_zero, Jv] at hi;subst hi;have hlt : j < 2 := by
    have := (IY.1 hj).1;simpa using this
   rw [KA N_];simpa using hj
  | succ i =>
   rw [Kl N_];have := ih i c NI j v hj;rw [show (i + 1) * 2 + j - [ag x.1, ag x.2].length = i * 2 + j by simp; omega];exact this
def jr (w : World) (base : Nat) (v : Value) (l : Em.bB) : Prop := w.ownsRow base fC 2 v l.length (wK l)
theorem z7g (w : World) (base : Nat) : jr w base (.slice none 0 0) [] := ⟨rfl, Iy ⟨rfl, rfl⟩⟩
theorem jr.at {base : Nat} {l : Em.bB} (h : jr w base v l) : dx w (λ k => base <= k) v l := by
 rcases h.2 with ⟨h1, h2⟩ | ⟨g, cap, cur, h1, h2, h3, h4, h5, h6, h7⟩
 ·exact Iy ⟨h1, JU h2⟩
 ·refine Iz ⟨g, 0, cap, cur, fC, (0, 0), h1, h4, by unfold maxLen at h5; omega, h2, h3, ?_⟩
  intro i c hi;have hlt := (IY.1 hi).1;have key : ∀ j v, j < 2 -> [ag c.1, ag c.2][j]? = some v -> cur[0 + i * 2 + j]? = some v := by
   intro j v hj hv;have := x8h l i c hi j v hv;exact RO
  exact ⟨key 0 _ GR rfl, key 1 _ GR rfl⟩
theorem jr.later {base : Nat} {l : Em.bB} (h : jr w base v l) (hb : Below w w w') : jr w' base v l := by
 refine ⟨h.1, ?_⟩;rcases h.2 with h1 | ⟨g, cap, cur, h1, h2, h3, h4, h5, h6, h7⟩
 ·exact Iy h1
 ·exact Iz ⟨g, cap, cur, h1, h2, (hb.block g (aa h3)).trans h3, h4, h5, h6, h7⟩
theorem qC {ops : Array Oper} {rest : List Oper} {o : Oper} {a : Act} {Q : Exit -> Act -> World -> Prop} (hgd : o.guard = none) (s x : Operand) (ho : o.op = .call { callee := .builtin .append, args := #[s, x], argTypes := #[xP, xP] })
 (base : Nat) (v : Value) (l : Em.bB) (r : Em.Bytes × Em.Bytes) (hs : a.eval s = v) (hown : jr w base v l) (g cap : Nat) (hx : a.eval x = .slice (some ⟨g, 0, none⟩) 1 cap)
 (hrow : w.heap[g]? = some (.cells #[ag r.1, ag r.2] fC)) (hl : l.length <= 1000000000) (hbase : base <= w.heap.size) (hB : Below base w0 w)
 (h : ∀ v' w', Hid (jr w' base v' (l ++ [r])) -> Hid (Below base w0 w') -> wpList prog ops Q rest (a.put o.dst v') w') : wpList prog ops Q (o :: rest) a w := by
 refine Ej hgd s x xP ho base fC (.agg #[.string ⟨#[]⟩, .string ⟨#[]⟩]) 2 32 underlying44 infoRow3 rfl GU v l.length (wK l) hs hown ⟨g, 0, none⟩ 1 cap [ag r.1, ag r.2] hx rfl ?_ ?_ Nr GR hbase ?_
 ·exact Rx
 ·intro u hu
  simp only [J5, KD, or_false] at hu;rcases hu with rfl | rfl <;> rfl
 ·intro v' w' h1 h2 h3
  refine h v' w' (hd1 ?_) (hd1 ?_)
  ·have := h1.out
   show w'.ownsRow base fC 2 v' (l ++ [r]).length (wK (l ++ [r]));rw [IL, wK, LW];simpa using this
  ·refine hB.grown h2.out hbase (λ k e => ?_)
   exact Pg
theorem y9v {c : Em.ay} {R : Em.bB} {i : Nat} {r : Em.Bytes × Em.Bytes} {pb : Bool} (h : R[i]? = some r) :
 Em.iB c pb (R.drop i) = (if pb = false /\ c.key <= r.1 then [(c.key, c.value)] else []) ++ ((if r.1 ≠ c.key then [r] else []) ++ Em.iB c (pb || decide (c.key <= r.1)) (R.drop (i + 1))) := by
 obtain ⟨hl, rfl⟩ := IY.1 h;rw [La hl];rfl
structure w1u (w0 : World) (c : Em.ay) (R : Em.bB) (i : Nat) (v : Value) (pb : Bool) (wr : World) (pre : Em.bB) : Prop where
 own : jr wr w0.heap.size v pre
 len : pre.length <= 2 * i
 cZ : Em.iB c c.gone R = pre ++ Em.iB c pb (R.drop i)
 below : Below w0.heap.size w0 wr
theorem jr.low {base base' : Nat} {l : Em.bB} (h : jr w base v l) (hb : base' <= base) : jr w base' v l := by
 refine ⟨h.1, ?_⟩;rcases h.2 with h1 | ⟨g, cap, cur, h1, h2, h3⟩
 ·exact Iy h1
 ·exact Iz ⟨g, cap, cur, h1, IP hb h2, h3⟩
theorem y9l {R : Em.bB} {c : Em.ay} (h : dx w F v R) (hR : R.length <= 1000000) :
 Calls prog 41 #[v, .agg #[ag c.key, ag c.value, .bool c.gone]] w λ e w' => ∃ v', e = .returned v' /\ jr w' w.heap.size v' (Em.gX R c) /\ Below w w w' := by
 obtain ⟨a, cap, rfl⟩ := h.slice;obtain ⟨k, vv, gn⟩ := c;obtain ⟨w0, hw0⟩ := G5 (w.alloc (.cells #[ag k, ag vv, .bool gn] a_));have B0 : Below w w w0 := by rw [<-hw0]; exact bla
 have s0 : w0.heap.size = w.heap.size + 1 := by rw [<-hw0]; simp
 have Z : w0.heap[w.heap.size]? = some (.cells #[ag k, ag vv, .bool gn] a_) := by rw [<-hw0]; exact IC w _
 have H := hd4 (h.later B0) B0 s0 Z;clear h B0 s0;generalize hN : R.length = N at *;have HN := hd1 hN;clear hN;have z2 : w0.cell? (w.heap.size, 2) = some (.bool gn) := ae Z rfl;clear Z;go_in;go_wp2;go_loopw [5, 6, 7] (λ x p s wr => ∃ (i : Nat) (pb : Bool) (pre : Em.bB), i <= N /\ s = .int .i64 (i : Int) /\ p = .bool pb /\ w1u w0 ⟨k, vv, gn⟩ R i x pb wr pre) (λ _ _ s _ => N - (intOf s).toNat)
 case atStart => exact ⟨0, gn, [], GR, rfl, rfl, z7g _ _, Nat.le_refl _, rfl, Below.refl _ _⟩
 case round =>
  obtain ⟨i, pb, pre, hi, rfl, rfl, hrel⟩ := hrel;by_cases hlt : i < N
  ·have i0 : (0 : Int) <= (i : Int) := GR
   have i1 : (i : Int) < (N : Int) := GR;obtain ⟨r, hr⟩ : ∃ r, R[i]? = some r := ⟨_, IR Nk⟩;obtain ⟨b, o, rfl, fb, lb, rg⟩ := H.1.at hr;have z0 : wr.cell? w.heap.size = some (ag k) := aN hrel.below (ae H.2.2.2 rfl);have z1 : wr.cell? (w.heap.size, 1) = some (ag vv) := aN hrel.below (ae H.2.2.2 rfl);have y1 : wr.cell? (b, o + i * 2 + 1) = some (ag r.2) := aN hrel.below (rg 1 _ rfl);have y0 : wr.cell? (b, o + i * 2) = some (ag r.1) := aN hrel.below (rg 0 _ rfl);have HR := hd3 hrel hr rg;clear hrel hr rg z2;have ba : ∀ (n : Nat) (c : Obj), Below wr wr ((wr.drewN n).alloc c) := λ n c => (below_drewN GY n).alloc GZ c;have E := hd1 (HR.1.cZ.trans (IG (pre ++ ·) (y9v (c := ⟨k, vv, gn⟩) (pb := pb) HR.2.1)));have LN := HR.1.len;cases pb
   ·by_cases hk : k <= r.1
    ·have q : (!Op.bytesLess r.1 k) = true := by rw [z4u]; simpa using hk
     by_cases hne : r.1 = k
     ·skip
      have HK := hd2 hk hne;have q2 : (!r.1 == k) = false := by simp [hne]
      clear hk hne;go_wp2;go_quiet (fail)
      go_wp2_with (at_builtin; refine qC rfl (.tmp 28) (.tmp 34) rfl w0.heap.size _ pre (k, vv) rfl (HR.1.own.later (ba nq _)) wr.heap.size 1 rfl (IC (wr.drewN nq) _) (Hf HR.1.len) MZ (HR.1.below.trans ((ba nq _).mono HR.1.below.size)) ?_; intro v1 w1 h1 h2
                   have z0' : w1.cell? w.heap.size = some (ag k) := aN h2.out (ae H.2.2.2 rfl);have y0' : w1.cell? (b, o + i * 2) = some (ag r.1) := aN h2.out (HR.2.2 0 _ rfl);have y1' : w1.cell? (b, o + i * 2 + 1) = some (ag r.2) := aN h2.out (HR.2.2 1 _ rfl);have bb : ∀ (n : Nat) (c : Obj), Below w1 w1 ((w1.drewN n).alloc c) := λ n c => (below_drewN GY n).alloc GZ c)
      go_quiet (fail)
      go_wp2;go_roundw;case rel => exact ⟨i + 1, true, (pre ++ [(k, vv)]), GR, by go_num, rfl, h1.later (below_drewN GY nq), by (try simp); omega, by rw [E.out]; simp [HK.out], below_drewN h2.out nq⟩
      case measure => simp [intOf]; omega
     ·skip
      have HK := hd2 hk hne;have q2 : (!r.1 == k) = true := by simp [hne]
      clear hk hne;go_wp2;go_quiet (fail)
      go_wp2_with (at_builtin; refine qC rfl (.tmp 28) (.tmp 34) rfl w0.heap.size _ pre (k, vv) rfl (HR.1.own.later (ba nq _)) wr.heap.size 1 rfl (IC (wr.drewN nq) _) (Hf HR.1.len) MZ (HR.1.below.trans ((ba nq _).mono HR.1.below.size)) ?_; intro v1 w1 h1 h2
                   have z0' : w1.cell? w.heap.size = some (ag k) := aN h2.out (ae H.2.2.2 rfl);have y0' : w1.cell? (b, o + i * 2) = some (ag r.1) := aN h2.out (HR.2.2 0 _ rfl);have y1' : w1.cell? (b, o + i * 2 + 1) = some (ag r.2) := aN h2.out (HR.2.2 1 _ rfl);have bb : ∀ (n : Nat) (c : Obj), Below w1 w1 ((w1.drewN n).alloc c) := λ n c => (below_drewN GY n).alloc GZ c)
      go_quiet (fail)
      go_wp2_with (at_builtin; refine qC rfl (.tmp 44) (.tmp 49) rfl w0.heap.size _ (pre ++ [(k, vv)]) r rfl (h1.later (bb nq _)) w1.heap.size 1 rfl (IC (w1.drewN nq) _) M9 (by have := h2.size; simp; omega) (h2.trans ((bb nq _).mono h2.size)) ?_; intro v2 w2 h3 h4)
      go_roundw;case rel => exact ⟨i + 1, true, (pre ++ [(k, vv)]) ++ [r], GR, by go_num, rfl, h3.out, by (try simp); omega, by rw [E.out]; simp [HK.out], h4.out⟩
      case measure => simp [intOf]; omega
    ·have q : (!Op.bytesLess r.1 k) = false := by rw [z4u]; simpa using hk
     have hne : ¬ r.1 = k := λ e => hk (by rw [e]; exact KV _);have HK := hd2 hk hne;have q2 : (!r.1 == k) = true := by simp [hne]
     clear hk hne;go_wp2;go_quiet (fail)
     revert nq
     intro n1;go_wp2;go_quiet (fail)
     go_wp2_with (at_builtin; refine qC rfl (.tmp 44) (.tmp 49) rfl w0.heap.size _ pre r rfl (HR.1.own.later (ba (n1 + nq) _)) wr.heap.size 1 rfl (IC (wr.drewN (n1 + nq)) _) M9 MZ (HR.1.below.trans ((ba (n1 + nq) _).mono HR.1.below.size)) ?_; intro v2 w2 h3 h4)
     go_roundw;case rel => exact ⟨i + 1, false, pre ++ [r], GR, by go_num, rfl, h3.out, by (try simp); omega, by rw [E.out]; simp [HK.out], h4.out⟩
     case measure => simp [intOf]; omega
   ·by_cases hne : r.1 = k
    ·have hk : True := trivial
     have HK := hd2 hk hne;have q2 : (!r.1 == k) = false := by simp [hne]
     clear hk hne;go_wp2;go_quiet (fail)
     revert nq
     intro n1;go_wp2;go_quiet (fail)
     go_wp2;go_roundw;case rel => exact ⟨i + 1, true, pre, GR, by go_num, rfl, HR.1.own.later (below_drewN GY (n1 + nq)), by (try simp); omega, by rw [E.out]; simp [HK.out], below_drewN HR.1.below (n1 + nq)⟩
     case measure => simp [intOf]; omega
    ·have hk : True := trivial
     have HK := hd2 hk hne;have q2 : (!r.1 == k) = true := by simp [hne]
     clear hk hne;go_wp2;go_quiet (fail)
     revert nq
     intro n1;go_wp2;go_quiet (fail)
     go_wp2_with (at_builtin; refine qC rfl (.tmp 44) (.tmp 49) rfl w0.heap.size _ pre r rfl (HR.1.own.later (ba (n1 + nq) _)) wr.heap.size 1 rfl (IC (wr.drewN (n1 + nq)) _) M9 MZ (HR.1.below.trans ((ba (n1 + nq) _).mono HR.1.below.size)) ?_; intro v2 w2 h3 h4)
     go_roundw;case rel => exact ⟨i + 1, true, pre ++ [r], GR, by go_num, rfl, h3.out, by (try simp); omega, by rw [E.out]; simp [HK.out], h4.out⟩
     case measure => simp [intOf]; omega
  ·obtain rfl : i = N := GR
   have z0 : wr.cell? w.heap.size = some (ag k) := aN hrel.below (ae H.2.2.2 rfl);have z1 : wr.cell? (w.heap.size, 1) = some (ag vv) := aN hrel.below (ae H.2.2.2 rfl);have e0 : R.drop i = [] := Lb M0;have EQ := hd1 hrel.cZ;have HR := hd1 hrel;have LN := HR.len;have ba : ∀ (c : Obj), Below wr wr (wr.alloc c) := λ c => GY.alloc GZ c;rw [e0] at EQ;clear hrel z2 e0;cases pb
   ·go_wp2_with (at_builtin; refine qC rfl (.tmp 53) (.tmp 59) rfl w0.heap.size _ pre (k, vv) rfl (HR.own.later (ba _)) wr.heap.size 1 rfl (IC wr _) (Hg HR.len H.1) (by have := HR.below.size; simp; omega) (HR.below.trans ((ba _).mono HR.below.size)) ?_; intro v1 w1 h1 h2)
    go_ret;refine ⟨v1, rfl, ?_, (H.2.1.trans (h2.mono H.2.1.size))⟩;have e : Em.gX R ⟨k, vv, gn⟩ = pre ++ [(k, vv)] := EQ.out;rw [e];exact h1.low H.2.1.size
   ·go_wp2
    go_ret;refine ⟨_, rfl, ?_, (H.2.1.trans (HR.below.mono H.2.1.size))⟩;have e : Em.gX R ⟨k, vv, gn⟩ = pre := EQ.trans (Ju _);rw [e];exact HR.own.low H.2.1.size
end Go.Proofs.YtgffifleflkjoaaGreat
