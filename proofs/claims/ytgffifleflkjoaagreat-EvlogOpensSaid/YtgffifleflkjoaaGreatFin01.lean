/-
  Parts of a proof.
-/
import Derived.Test.YtgffifleflkjoaaGreatRows
import Derived.WalkKit
import Derived.WalkSpells
import Derived.WalkLawsBesides
import Derived.Handy
import Derived.Lib.Hide
import Derived.BigQuiet
import Derived.Deep.QuietTactic
import Derived.Deep.WholeRow
import Derived.Deep.RegionWith
import Derived.Deep.RegionHeld3
import Derived.StillTailTactics
import Derived.Deep.DeepCutAuto
import Derived.RangeFuncNested
import Derived.RangeFuncBound
import Derived.RangeFuncCalls
import Derived.RangeFuncLeaves
import Derived.Shelf.Abstract
import Derived.Shelf.RegionOpen
import Derived.OwnWalkIn
import Derived.TacticsInMore
import Derived.LoopNIn
import Derived.LoopIn
import Derived.Deep.RegionLaw
import Derived.Deep.RegionLawGrows
import Derived.Laws.CopyOwn
set_option linter.unusedSimpArgs false
set_option linter.unusedVariables false
namespace Go.Proofs.YtgffifleflkjoaaGreat
open Go.RowKit
theorem heap_old_own (w : World) (o : Obj) (i : Nat) (h : i < w.heap.size) : (w.alloc o).heap[i]? = w.heap[i]? := by
  show (w.heap.push o)[i]? = w.heap[i]?
  rw [Array.getElem?_push_lt h, Array.getElem?_eq_getElem h]
theorem fmc {α β : Type} {f : α → Option β} {a : α} {l : List α} : List.filterMap f (a :: l) = match f a with | none => List.filterMap f l | some b => b :: List.filterMap f l := List.filterMap_cons
theorem fmn {α β : Type} {f : α → Option β} : List.filterMap f [] = [] := List.filterMap_nil
theorem gta {α : Type} {l : List α} {i : Nat} : l.toArray[i]? = l[i]? := List.getElem?_toArray
theorem gcs {α : Type} {a : α} {l : List α} {i : Nat} : (a :: l)[i + 1]? = l[i]? := List.getElem?_cons_succ
theorem gcz {α : Type} {a : α} {l : List α} : (a :: l)[0]? = some a := List.getElem?_cons_zero
theorem hd1 {p : Prop} (h : p) : Hid p := Lib.hid h
open _root_.Go.Proofs.Tryz
theorem GQ {P : Prop} (h : P := by kernel_rfl) : P := h
theorem GR {P : Prop} (h : P := by omega) : P := h
theorem GU {P : Prop} (h : P := by decide) : P := h
theorem GV {P : Prop} (h : P := by simp) : P := h
theorem GX {α : Sort _} {β : α → Sort _} {P : ∀ a, β a → Prop} (a) (b : β a) (h : P a b) : P a b := h
theorem GY {n : Nat} {w : World} : Below n w w := Below.refl _ _
theorem GZ {n : Nat} : n ≤ n := Nat.le_refl _
theorem G5 {α : Type _} (a : α) : ∃ b, a = b := ⟨_, rfl⟩
theorem G7 (fn : Fn) (first cap : Array Value) (w : World) : (Instr.makeFunc fn first cap).run prog w = .ok (.func fn first cap) w := rfl
theorem G8 {P Q : Prop} (h : P) (k : P → Q := by intro zz; refine ak (fun K hK => ?_); simp only [au, ah]; go_simp; refine hK _ ?_; clear hK K; exact zz) : Q := k h
theorem Hm {P Q : Prop} (h : P) (k : P → Q := by intro zz; with_reducible refine ak (fun K hK => ?_); simp only [au, ah]; go_simp; refine hK _ ?_; clear hK K; exact zz) : Q := k h
theorem Ho {P Q : Prop} (h : P) (k : P → Q := by intro zz; with_reducible refine ak (fun K hK => ?_); simp only [au, ah]; go_simp; (first | refine hK _ ?_ | ((with_reducible apply tq); (case h => with_unfolding_all (intro h; cases h)); refine hK _ ?_)); clear hK K; exact zz) : Q := k h
theorem Hq {P : Prop} (h : P := by exact ⟨⟨_, (Below.refl _ _).drew⟩, rfl⟩) : P := h
theorem Hr {P : Prop} (h : P := by exact fun h => absurd h (by decide)) : P := h
theorem G9 {P Q : Prop} (h : P) (k : P → Q := by intro zz; simp only [fmc, fmn, gta, gcs, gcz]; (repeat refine G8 ?_); refine aA ?_; exact zz) : Q := k h
instance : Coe World Nat := ⟨fun w => w.heap.size⟩
instance : Coe Nat Addr := ⟨fun b => ⟨b, 0, none⟩⟩
instance : Coe Nat Value := ⟨fun b => .pointer (some ⟨b, 0, none⟩)⟩
instance {b o : Nat} : CoeDep (Nat × Nat) (b, o) Addr := ⟨⟨b, o, none⟩⟩
instance {b o : Nat} : CoeDep (Nat × Nat) (b, o) Value := ⟨.pointer (some ⟨b, o, none⟩)⟩
instance : Coe Bool Value := ⟨.bool⟩
instance : Coe Int Value := ⟨.int .i64⟩
instance : Coe Unit Value := ⟨fun _ => .slice none 0 0⟩
namespace Dm
end Dm
namespace Em
end Em
namespace Cm
end Cm
namespace Wm
end Wm
abbrev Hu := @underlying63
abbrev Hw := @underlying78
abbrev Hy := @underlying233
abbrev Hz := @underlying60
abbrev H_ := @underlying119
abbrev Ia := @underlying31
abbrev Ib := @underlying9
abbrev Ic := @underlying33
abbrev Ie := @underlying66
abbrev Ig := @underlying5
abbrev Ih := @underlying3
abbrev Ii := @underlying158
abbrev Ij := @underlying51
abbrev Ik := @underlying57
abbrev Il := @underlying61
abbrev Im := @underlying4
abbrev Io := @underlying243
abbrev Ip := @underlying93
abbrev Iq := @underlying68
abbrev Ir := @underlying34
abbrev Iu := @And.intro
abbrev Iw := @if_neg
abbrev Iy := @Or.inl
abbrev Iz := @Or.inr
abbrev IA := @if_pos
abbrev IB := @wpList_nil
abbrev IC := @heap_alloc_last
abbrev IE := @wpList_plain
abbrev IG := @congrArg
abbrev II := @wpList_load_row
abbrev IJ := @cell_of_row
abbrev IK := @bodyPost_ret
abbrev IL := @List.length_append
abbrev IM := @Option.some.inj
abbrev IP := @Nat.le_trans
abbrev IQ := @heap_setCell_same
abbrev IR := @List.getElem?_eq_getElem
abbrev IU := @heap_setCell_other
abbrev IV := @Nat.zero_le
abbrev IW := @World.cell?_of_block
abbrev IX := @block_lt_of_cell
abbrev IY := @List.getElem?_eq_some_iff
abbrev IZ := @List.append_assoc
abbrev I1 := @if_true
abbrev I4 := @List.length_take
abbrev I5 := @List.length_drop
abbrev I6 := @List.length_cons
abbrev I7 := @results_cell_row
abbrev I8 := @Nat.zero_add
abbrev I9 := @Int.not_lt
abbrev I_ := @Int.not_le
abbrev Ja := @IntWalk.i64_in
abbrev Jb := @List.mem_of_getElem?
abbrev Jc := @Nat.lt_of_lt_of_le
abbrev Jd := @World.putObj_heap_other
abbrev Je := @List.take_of_length_le
abbrev Jf := @Array.getElem?_eq_some_iff
abbrev Jg := @callsIn_wide
abbrev Jh := @Bool.and_eq_true
abbrev Ji := @List.nil_append
abbrev Jj := @List.map_cons
abbrev Jk := @World.size_alloc
abbrev Jl := @List.mem_map
abbrev Jm := @List.map_nil
abbrev Jn := @Nat.le_of_lt
abbrev Jo := @List.map_toArray
abbrev Jp := @List.mem_cons_self
abbrev Jq := @mem_ready
abbrev Jr := @Int.tmod_eq_emod_of_nonneg
abbrev Js := @wpList_step
abbrev Jt := @List.take_succ_cons
abbrev Ju := @List.append_nil
abbrev Jv := @Option.some.injEq
abbrev Jw := @Value.slice.inj
abbrev Jy := @List.length_nil
abbrev Jz := @Nat.add_assoc
abbrev JA := @wpList_load_mid
abbrev JB := @List.mem_cons_of_mem
abbrev JC := @List.take_add_one
abbrev JD := @Array.all_eq_true_iff_forall_mem
abbrev JE := @Sem.run_bind
abbrev JF := @Result.andThen_ok
abbrev JG := @info_parts
abbrev JH := @Array.empty_append
abbrev JI := @List.getElem?_take
abbrev JJ := @List.all_eq_true
abbrev JK := @List.cons_append
abbrev JL := @Below.heap_alloc
abbrev JM := @if_false
abbrev JN := @List.take_zero
abbrev JO := @List.drop_succ_cons
abbrev JP := @List.drop_zero
abbrev JQ := @Act.put_comm
abbrev JR := @ready_mono
abbrev JS := @Sem.run_pure
abbrev JU := @List.eq_nil_of_length_eq_zero
abbrev JV := @decide_eq_false
abbrev JX := @decide_eq_true_eq
abbrev JY := @List.mem_append
abbrev JZ := @step_scope
abbrev J2 := @beq_eq_false_iff_ne
abbrev J3 := @Nat.sub_self
abbrev J4 := @run_underlying
abbrev J5 := @List.mem_cons
abbrev J6 := @List.map_append
abbrev J7 := @UInt8.toNat_inj
abbrev J8 := @List.mem_singleton
abbrev J9 := @List.flatMap_cons
abbrev J_ := @Array.replicate_succ
abbrev Ka := @Array.replicate_zero
abbrev Kb := @List.push_toArray
abbrev Kc := @List.append_toArray
abbrev Ke := @wpS_region
abbrev Kg := @wpStill_nil
abbrev Kh := @getD_both
abbrev Ki := @Ne.symm
abbrev Kj := @Nat.mul_le_mul_right
abbrev Kk := @run_loadAt_mid
abbrev Kl := @List.getElem?_append_right
abbrev Km := @decide_eq_true
abbrev Kn := @Calls.quiet_of_same
abbrev Ko := @run_makeMap
abbrev Kq := @List.getElem?_map
abbrev Kr := @List.foldl_append
abbrev Kt := @Nat.mod_lt
abbrev Ku := @Option.map_some
abbrev Kv := @Int.toNat_natCast
abbrev Kw := @List.take_append_of_le_length
abbrev Ky := @wpList_append_own
abbrev Kz := @Nat.add_zero
abbrev KA := @List.getElem?_append_left
abbrev KD := @List.not_mem_nil
abbrev KE := @List.size_toArray
abbrev KG := @Exit.noGoto_normal
abbrev KH := @bodyPost_end
abbrev KI := @results_none
abbrev KJ := @Bool.false_eq_true
abbrev KL := @List.any_eq_true
abbrev KM := @Nat.mod_eq_of_lt
abbrev KN := @Nat.mod_two_eq_zero_or_one
abbrev KO := @Nat.pow_succ
abbrev KP := @execOp_put
abbrev KQ := @getD_set_ne
abbrev KR := @wpIn_mono
abbrev KS := @List.mem_iff_getElem?
abbrev KT := @Nat.le_succ_of_le
abbrev KU := @List.le_antisymm
abbrev KV := @List.le_refl
abbrev KW := @List.mem_append_left
abbrev KX := @run_loadVar_row
abbrev KY := @Exit.noGoto_ret
abbrev KZ := @bne_iff_ne
abbrev K4 := @u32_xor_nat
abbrev K5 := @Array.getElem?_setIfInBounds
abbrev K6 := @Array.setIfInBounds_comm
abbrev K7 := @List.mem_range
abbrev K8 := @fenced_calm
abbrev K9 := @List.length_singleton
abbrev K_ := @Lib.run_eql_slice_nil
abbrev La := @List.drop_eq_getElem_cons
abbrev Lb := @List.drop_of_length_le
abbrev Lc := @Array.getElem?_setIfInBounds_ne
abbrev Ld := @List.getD_eq_getElem?_getD
abbrev Le := @List.length_map
abbrev Lf := @wpList_len_own
abbrev Lg := @callsD_of_wpS
abbrev Lh := @Bool.false_or
abbrev Li := @Nat.shiftRight_eq_div_pow
abbrev Lj := @Nat.pow_le_pow_right
abbrev Ll := @UInt8.toNat_ofNat'
abbrev Lm := @List.getElem?_range
abbrev Lp := @Array.size_setIfInBounds
abbrev Lr := @Bool.or_eq_true
abbrev Ls := @Region.noSelect_spec
abbrev Lt := @Region.free_spec
abbrev Lu := @wp_region_any
abbrev Lv := @World.alloc_heap_new
abbrev Lx := @World.putObj_heap_same
abbrev LA := @Int.emod_nonneg
abbrev LB := @not_false_eq_true
abbrev LF := @List.mergeSort_perm
abbrev LH := @List.le_total
abbrev LJ := @List.le_trans
abbrev LK := @decide_eq_false_iff_not
abbrev LM := @List.setIfInBounds_toArray
abbrev LP := @List.set_cons_succ
abbrev LQ := @List.set_cons_zero
abbrev LU := @List.foldl_cons
abbrev LV := @List.pairwise_cons
abbrev LW := @List.flatMap_append
abbrev LX := @World.cells?_some
abbrev LY := @DataW.trod_int
abbrev LZ := @List.length_eq_zero_iff
abbrev L6 := @Array.getElem?_append_left
abbrev L8 := @Int.tdiv_eq_ediv_of_nonneg
abbrev L9 := @World.ownsMap_made
abbrev L_ := @wpList_mapUpdate_in
abbrev Ma := @List.mem_of_mem_take
abbrev Mc := @Nat.eq_zero_or_pos
abbrev Md := @Array.ext_getElem?
abbrev Me := @Array.any_eq_true'
abbrev Mf := @callsIn_of_wp_marks
abbrev Mg := @World.cell?_alloc_past
abbrev Mh := @List.drop_eq_nil_iff
abbrev Mi := @UInt8.le_iff_toNat_le
abbrev Mj := @Array.getD_eq_getD_getElem?
abbrev Mk := @Option.isNone_none
abbrev Ml := @List.getElem_toArray
abbrev Mm := @List.getElem_cons_zero
abbrev Mo := @List.getElem_cons_succ
theorem G_ {ops : Array Oper} {rest : List Oper} {o : Oper} {a : Act} {w : World} {Q : Exit → Act → World → Prop} {ty : TypeId} {g : Nat} {cs : Array Value} {d : TypeDesc} (hg : w.heap[g]? = some (.cells cs ty (0, 0)))
  (hu : prog.underlying ty = some d) (hi : (prog.info? ty).map (·.size) = some cs.size)
  (h : wpList prog ops Q rest (a.put o.dst (.agg cs)) w) (e : o.guard = none ∧ (∃ x, o.op = .load ty x ∧ a.eval x = .pointer (some ⟨g, 0, none⟩)) ∧ (match d with | .struct _ | .array _ _ => true | _ => false) = true := by exact ⟨rfl, ⟨_, rfl, rfl⟩, rfl⟩) : wpList prog ops Q (o :: rest) a w := by
  obtain ⟨h1, ⟨x, h2, h3⟩, h4⟩ := e
  exact wpList_load_row h1 ty x h2 g h3 ty cs (0, 0) d hg hu (by revert h4; cases d <;> exact id) hi h
theorem Ha {fn : Func} {R : Ending → World → Prop} {a : Act} {w : World} {p q : Tmp} {ty t : TypeId} {g : Nat} {cs : Array Value} {fr : Nat × Nat} {d : TypeDesc} (hg : w.heap[g]? = some (.cells cs t fr))
  (hu : prog.underlying ty = some d) (hi : (prog.info? ty).map (·.size) = some cs.size) (hR : R (.returned (.tuple #[.agg cs, a.tmps.getD q undef])) w)
  (e : fn.results = #[.cell p ty, .tmp q] ∧ a.tmps.getD p undef = .pointer (some ⟨g, 0, none⟩) ∧ a.defers = [] ∧ (match d with | .struct _ | .array _ _ => true | _ => false) = true := by exact ⟨rfl, rfl, rfl, rfl⟩) : bodyPost prog fn R .ret a w := by
  obtain ⟨h, hp, hde, hd⟩ := e
  have hp' : a.tmps[p]?.getD undef = .pointer (some ⟨g, 0, none⟩) := by simpa using hp
  exact bodyPost_ret (by simp [results, h, hp', asAddr, run_loadVar_row w g t ty cs fr d hg hu (by revert hd; cases d <;> exact id) hi]) hde hR
theorem Hd {fn : Func} {R : Ending → World → Prop} {a : Act} {w : World} {p : Tmp} {ty t : TypeId} {g : Nat} {cs : Array Value} {fr : Nat × Nat} {d : TypeDesc} (hg : w.heap[g]? = some (.cells cs t fr))
  (hu : prog.underlying ty = some d) (hi : (prog.info? ty).map (·.size) = some cs.size) (hR : R (.returned (.agg cs)) w)
  (e : fn.results = #[.cell p ty] ∧ a.tmps.getD p undef = .pointer (some ⟨g, 0, none⟩) ∧ a.defers = [] ∧ (match d with | .struct _ | .array _ _ => true | _ => false) = true := by exact ⟨rfl, rfl, rfl, rfl⟩) : bodyPost prog fn R .ret a w := by
  obtain ⟨h, hp, hde, hd⟩ := e
  exact bodyPost_ret (results_cell_row h _ _ g t cs fr d hp hg hu (by revert hd; cases d <;> exact id) hi) hde hR
theorem He {fn : Func} {R : Ending → World → Prop} {a : Act} {w : World} {p q r : Tmp} {ty t : TypeId} {g : Nat} {cs : Array Value} {fr : Nat × Nat} {d : TypeDesc} (hg : w.heap[g]? = some (.cells cs t fr))
  (hu : prog.underlying ty = some d) (hi : (prog.info? ty).map (·.size) = some cs.size) (hR : R (.returned (.tuple #[.agg cs, a.tmps.getD q undef, a.tmps.getD r undef])) w)
  (e : fn.results = #[.cell p ty, .tmp q, .tmp r] ∧ a.tmps.getD p undef = .pointer (some ⟨g, 0, none⟩) ∧ a.defers = [] ∧ (match d with | .struct _ | .array _ _ => true | _ => false) = true := by exact ⟨rfl, rfl, rfl, rfl⟩) : bodyPost prog fn R .ret a w := by
  obtain ⟨h, hp, hde, hd⟩ := e
  have hp' : a.tmps[p]?.getD undef = .pointer (some ⟨g, 0, none⟩) := by simpa using hp
  exact bodyPost_ret (by simp [results, h, hp', asAddr, run_loadVar_row w g t ty cs fr d hg hu (by revert hd; cases d <;> exact id) hi]) hde hR
theorem Hf {P Q : Prop} (a : P) (h : P → Q := by intro _; omega) : Q := h a
theorem Hg {P P' Q : Prop} (a : P) (b : P') (h : P → P' → Q := by intro _ _; omega) : Q := h a b
theorem Hl {P P' R Q : Prop} (a : P) (b : P') (c : R) (h : P → P' → R → Q := by intro _ _ _; omega) : Q := h a b c
theorem bla {w : World} {o : Obj} : Below w.heap.size w (w.alloc o) := (Below.refl _ _).alloc (Nat.le_refl _) _
theorem hd2 {P0 P1 : Prop} (p0 : P0) (p1 : P1) : Hid (P0 ∧ P1) := Lib.hid ⟨p0, p1⟩
theorem hd3 {P0 P1 P2 : Prop} (p0 : P0) (p1 : P1) (p2 : P2) : Hid (P0 ∧ P1 ∧ P2) := Lib.hid ⟨p0, p1, p2⟩
theorem hd4 {P0 P1 P2 P3 : Prop} (p0 : P0) (p1 : P1) (p2 : P2) (p3 : P3) : Hid (P0 ∧ P1 ∧ P2 ∧ P3) := Lib.hid ⟨p0, p1, p2, p3⟩
theorem hd5 {P0 P1 P2 P3 P4 : Prop} (p0 : P0) (p1 : P1) (p2 : P2) (p3 : P3) (p4 : P4) : Hid (P0 ∧ P1 ∧ P2 ∧ P3 ∧ P4) := Lib.hid ⟨p0, p1, p2, p3, p4⟩
theorem hd6 {P0 P1 P2 P3 P4 P5 : Prop} (p0 : P0) (p1 : P1) (p2 : P2) (p3 : P3) (p4 : P4) (p5 : P5) : Hid (P0 ∧ P1 ∧ P2 ∧ P3 ∧ P4 ∧ P5) := Lib.hid ⟨p0, p1, p2, p3, p4, p5⟩
theorem hd7 {P0 P1 P2 P3 P4 P5 P6 : Prop} (p0 : P0) (p1 : P1) (p2 : P2) (p3 : P3) (p4 : P4) (p5 : P5) (p6 : P6) : Hid (P0 ∧ P1 ∧ P2 ∧ P3 ∧ P4 ∧ P5 ∧ P6) := Lib.hid ⟨p0, p1, p2, p3, p4, p5, p6⟩
theorem hd8 {P0 P1 P2 P3 P4 P5 P6 P7 : Prop} (p0 : P0) (p1 : P1) (p2 : P2) (p3 : P3) (p4 : P4) (p5 : P5) (p6 : P6) (p7 : P7) : Hid (P0 ∧ P1 ∧ P2 ∧ P3 ∧ P4 ∧ P5 ∧ P6 ∧ P7) := Lib.hid ⟨p0, p1, p2, p3, p4, p5, p6, p7⟩
theorem hd9 {P0 P1 P2 P3 P4 P5 P6 P7 P8 : Prop} (p0 : P0) (p1 : P1) (p2 : P2) (p3 : P3) (p4 : P4) (p5 : P5) (p6 : P6) (p7 : P7) (p8 : P8) : Hid (P0 ∧ P1 ∧ P2 ∧ P3 ∧ P4 ∧ P5 ∧ P6 ∧ P7 ∧ P8) := Lib.hid ⟨p0, p1, p2, p3, p4, p5, p6, p7, p8⟩
theorem hd10 {P0 P1 P2 P3 P4 P5 P6 P7 P8 P9 : Prop} (p0 : P0) (p1 : P1) (p2 : P2) (p3 : P3) (p4 : P4) (p5 : P5) (p6 : P6) (p7 : P7) (p8 : P8) (p9 : P9) : Hid (P0 ∧ P1 ∧ P2 ∧ P3 ∧ P4 ∧ P5 ∧ P6 ∧ P7 ∧ P8 ∧ P9) := Lib.hid ⟨p0, p1, p2, p3, p4, p5, p6, p7, p8, p9⟩
theorem hd11 {P0 P1 P2 P3 P4 P5 P6 P7 P8 P9 P10 : Prop} (p0 : P0) (p1 : P1) (p2 : P2) (p3 : P3) (p4 : P4) (p5 : P5) (p6 : P6) (p7 : P7) (p8 : P8) (p9 : P9) (p10 : P10) : Hid (P0 ∧ P1 ∧ P2 ∧ P3 ∧ P4 ∧ P5 ∧ P6 ∧ P7 ∧ P8 ∧ P9 ∧ P10) := Lib.hid ⟨p0, p1, p2, p3, p4, p5, p6, p7, p8, p9, p10⟩
theorem hd12 {P0 P1 P2 P3 P4 P5 P6 P7 P8 P9 P10 P11 : Prop} (p0 : P0) (p1 : P1) (p2 : P2) (p3 : P3) (p4 : P4) (p5 : P5) (p6 : P6) (p7 : P7) (p8 : P8) (p9 : P9) (p10 : P10) (p11 : P11) : Hid (P0 ∧ P1 ∧ P2 ∧ P3 ∧ P4 ∧ P5 ∧ P6 ∧ P7 ∧ P8 ∧ P9 ∧ P10 ∧ P11) := Lib.hid ⟨p0, p1, p2, p3, p4, p5, p6, p7, p8, p9, p10, p11⟩
theorem hd13 {P0 P1 P2 P3 P4 P5 P6 P7 P8 P9 P10 P11 P12 : Prop} (p0 : P0) (p1 : P1) (p2 : P2) (p3 : P3) (p4 : P4) (p5 : P5) (p6 : P6) (p7 : P7) (p8 : P8) (p9 : P9) (p10 : P10) (p11 : P11) (p12 : P12) : Hid (P0 ∧ P1 ∧ P2 ∧ P3 ∧ P4 ∧ P5 ∧ P6 ∧ P7 ∧ P8 ∧ P9 ∧ P10 ∧ P11 ∧ P12) := Lib.hid ⟨p0, p1, p2, p3, p4, p5, p6, p7, p8, p9, p10, p11, p12⟩
theorem hd14 {P0 P1 P2 P3 P4 P5 P6 P7 P8 P9 P10 P11 P12 P13 : Prop} (p0 : P0) (p1 : P1) (p2 : P2) (p3 : P3) (p4 : P4) (p5 : P5) (p6 : P6) (p7 : P7) (p8 : P8) (p9 : P9) (p10 : P10) (p11 : P11) (p12 : P12) (p13 : P13) : Hid (P0 ∧ P1 ∧ P2 ∧ P3 ∧ P4 ∧ P5 ∧ P6 ∧ P7 ∧ P8 ∧ P9 ∧ P10 ∧ P11 ∧ P12 ∧ P13) := Lib.hid ⟨p0, p1, p2, p3, p4, p5, p6, p7, p8, p9, p10, p11, p12, p13⟩
theorem hd15 {P0 P1 P2 P3 P4 P5 P6 P7 P8 P9 P10 P11 P12 P13 P14 : Prop} (p0 : P0) (p1 : P1) (p2 : P2) (p3 : P3) (p4 : P4) (p5 : P5) (p6 : P6) (p7 : P7) (p8 : P8) (p9 : P9) (p10 : P10) (p11 : P11) (p12 : P12) (p13 : P13) (p14 : P14) : Hid (P0 ∧ P1 ∧ P2 ∧ P3 ∧ P4 ∧ P5 ∧ P6 ∧ P7 ∧ P8 ∧ P9 ∧ P10 ∧ P11 ∧ P12 ∧ P13 ∧ P14) := Lib.hid ⟨p0, p1, p2, p3, p4, p5, p6, p7, p8, p9, p10, p11, p12, p13, p14⟩
theorem hd16 {P0 P1 P2 P3 P4 P5 P6 P7 P8 P9 P10 P11 P12 P13 P14 P15 : Prop} (p0 : P0) (p1 : P1) (p2 : P2) (p3 : P3) (p4 : P4) (p5 : P5) (p6 : P6) (p7 : P7) (p8 : P8) (p9 : P9) (p10 : P10) (p11 : P11) (p12 : P12) (p13 : P13) (p14 : P14) (p15 : P15) : Hid (P0 ∧ P1 ∧ P2 ∧ P3 ∧ P4 ∧ P5 ∧ P6 ∧ P7 ∧ P8 ∧ P9 ∧ P10 ∧ P11 ∧ P12 ∧ P13 ∧ P14 ∧ P15) := Lib.hid ⟨p0, p1, p2, p3, p4, p5, p6, p7, p8, p9, p10, p11, p12, p13, p14, p15⟩
end Go.Proofs.YtgffifleflkjoaaGreat
namespace Go.Proofs.YtgffifleflkjoaaGreat
open Go.RowKit
variable {P : Prop}
theorem Mq (h : P := by have a := H2.2.2; have b := HB.1; simp only [World.alloc, Array.size_push] at a; omega) : P := h
theorem Mr (h : P := by have h2 := SP.2.2; have := H.2; have := HN.out; rw [I5] at h2; omega) : P := h
theorem Ms (h : P := by have := ROW.2.2.2.2; show w.heap.size + 1 + 1 ≠ W1.heap.size; omega) : P := h
theorem Mt (h : P := by have := H.2.2.2.2.2.1; rw [H.2.2.2.2.2.2.1.1] at this; exact this) : P := h
theorem Mv (h : P := by obtain ⟨_, e, h1, _⟩ := f7.cells; cases e; rw [h1, S6.size]) : P := h
theorem Mw (h : P := by obtain ⟨_, e, h1, _⟩ := f5.cells; cases e; rw [h1, S4.size]) : P := h
theorem Mx (h : P := by obtain ⟨_, e, h1, _⟩ := f7.cells; cases e; rw [h1, S5.size]) : P := h
theorem MB (h : P := by have := H4.2.1.size; have := HR.1.mv.size; simp; omega) : P := h
theorem ME (h : P := by obtain ⟨_, e, h1, _⟩ := f7.cells; cases e; rw [aH, h1]) : P := h
theorem MF (h : P := by obtain ⟨_, e, h1, _⟩ := f5.cells; cases e; rw [aH, h1]) : P := h
theorem MG (h : P := by have := SR.2.1; rw [D0.1] at this; simp at this; omega) : P := h
theorem MH (h : P := by have := H.2.2.2.1; rw [HEQ.out] at this; exact this) : P := h
theorem MI (h : P := by have := H.2.2.2.2.2.2.2; unfold maxLen; skip; omega) : P := h
theorem MJ (h : P := by rintro e w' ⟨rfl, rfl⟩; exact ⟨rfl, Below.refl _ _⟩) : P := h
theorem MK (h : P := by obtain ⟨_, e, _, h2⟩ := f7.cells; cases e; exact h2) : P := h
theorem ML (h : P := by obtain ⟨_, e, _, h2⟩ := f5.cells; cases e; exact h2) : P := h
theorem MM (h : P := by simp only [Jo, Jj, Jm, Act.eval]; exact jI SE.ref) : P := h
theorem MN (h : P := by have := HR.2.2.2; rw [IL]; simp [Wm.je]; omega) : P := h
theorem MO (h : P := by show (-1 : Int) <= 9223372036854775807; omega) : P := h
theorem MP (h : P := by show w.heap.size + 1 + 1 ≠ w.heap.size; omega) : P := h
theorem MQ (h : P := by have := aa S3.cell; have := HQ.1; simp; omega) : P := h
theorem MR (h : P := by have := HB.1; have := HO.2.2; simp; omega) : P := h
theorem MS (h : P := by rw [IL, fA]; have := HB.2; simp; omega) : P := h
theorem MU (h : P := by have := H2.2.size; simp at this; omega) : P := h
theorem MV (h : P := by have := HB2.size; simp; exact KT this) : P := h
theorem MW (h : P := by have := H.2.2.2.2.2.2.2; skip; omega) : P := h
theorem MX (h : P := by have := HN.out; unfold maxLen; omega) : P := h
theorem MZ (h : P := by have := HR.1.below.size; simp; omega) : P := h
theorem M0 (h : P := by rw [HN.out]; exact Nat.le_refl _) : P := h
theorem M5 (h : P := by rw [HG.out]; exact Nat.le_refl _) : P := h
theorem M7 (h : P := by have := HO.2.size; simp; omega) : P := h
theorem M8 (h : P := by intro x hx; simp at hx; omega) : P := h
theorem M9 (h : P := by have := HR.1.len; simp; omega) : P := h
theorem M_ (h : P := by simp; have := hb.size; omega) : P := h
theorem Na (h : P := by have := HB2.size; exact this) : P := h
theorem Nb (h : P := by rintro (h | h | h) <;> omega) : P := h
theorem Nc (h : P := by rw [aX, H5.2.2.2.2.2.2.2.1]) : P := h
theorem Nf (h : P := by have := HB.2; simp; omega) : P := h
theorem Ng (h : P := by have := HB.1; simp; omega) : P := h
theorem Nh (h : P := by rw [hr] at h0; cases h0) : P := h
theorem Ni (h : P := by rw [aX, H4.2.2.2.2.2.1]) : P := h
theorem Nj (h : P := by rw [h] at hr; cases hr) : P := h
theorem Nk (h : P := by rw [HN.out]; exact hlt) : P := h
theorem Nl (h : P := by simp only [Jk]; omega) : P := h
theorem Nn (h : P := by simp [eD, HT.1, HT.2]) : P := h
theorem Np (h : P := by simp [Value.oneCell']) : P := h
theorem Nq (h : P := by rw [rR.out]; exact h2) : P := h
theorem Nr (h : P := by unfold maxLen; omega) : P := h
theorem Ns (h : P := by rw [aV SE.size]; rfl) : P := h
theorem Nt (h : P := by rw [aX, aV SE.size]) : P := h
theorem Nu (h : P := by rw [hx]; exact hk) : P := h
theorem Nv (h : P := by simp [eD, HT.out]) : P := h
theorem Nw (h : P := by rw [Cm.ol]; simp) : P := h
theorem Ny (h : P := by simp only; omega) : P := h
theorem Nz (h : P := by exact d9 _ _ _ _) : P := h
theorem NA (h : P := by rw [aH, SE.size]) : P := h
theorem ND (h : P := by rw [hrec]; simp) : P := h
theorem NF (h : P := by rw [aD.bN]; rfl) : P := h
theorem NG (h : P := by simpa using hsp) : P := h
theorem NH (h : P := by rw [aV iN]; rfl) : P := h
theorem NI (h : P := by simpa using hi) : P := h
theorem NJ (h : P := by simpa using hk) : P := h
theorem NK (h : P := by rw [I4]; omega) : P := h
theorem NM (h : P := by simp <;> omega) : P := h
theorem NP (h : P := by rw [SC.1]; rfl) : P := h
theorem NQ (h : P := by rw [aH, aD.bN]) : P := h
theorem NR (h : P := by simpa using hj) : P := h
theorem NS (h : P := by rw [hm]; omega) : P := h
theorem NT (h : P := by rw [aX, aV iN]) : P := h
theorem NU (h : P := by simpa using h) : P := h
theorem NV (h : P := by simp [go_sem]) : P := h
theorem NY (h : P := by rw [bX, SC.1]) : P := h
theorem NZ (h : P := by rw [fA]; simp) : P := h
theorem N7 (h : P := by rw [aX, HE.1]) : P := h
theorem N8 (h : P := by exact yf _ _) : P := h
theorem N_ (h : P := by simp; omega) : P := h
theorem Oa (h : P := by simp [ib]) : P := h
theorem Ob (h : P := by exact bG) : P := h
theorem Oc (h : P := by exact di) : P := h
theorem Od (h : P := by cases h) : P := h
theorem Oe (h : P := by
 repeat (first
  | (go_big_may; (first
   | (refine G_ SE.r1 Hu NA ?_)
   | (refine iT rfl aj _ rfl _ MM ?_)
   | (refine aC rfl aj _ _ rfl (w.heap.size + 1) _ rfl rfl aj bP SE.r2 Nt Ns (d_ SE.ones _ _ _ _ _) ?_; intro W9 bM aR eX)))
  | go_values | go_skip | go_guarded | go_step | go_upon | (simp only [I9, I_] at *; go_simp) | (go_values <;> (try go_simp)) | (go_ite <;> go_prune <;> (try go_simp)) | (split <;> (first | (rename_i hx; exact (hx _ rfl).elim) | go_prune)))
 refine Ha bM.out Hw Nt ?_
 exact SE.give aR HRW.1 HRW.2.1 HRW.2.2) : P := h
theorem Og (h : P := by
 go_upto_region 7 with (first
  | (with_reducible refine NX.out.mono ?_; rintro e w1 ⟨v1, rfl, y1, x1, m1⟩; have H1 := hd3 y1 x1 m1; clear y1 x1 m1)
  | (go_at_call 147; refine (RC.out _ _ _ H1.1).mono ?_; rintro e w2 ⟨q, rfl, x2, hq, b2⟩; have H2 := hd3 x2 hq b2; clear x2 hq b2))
 obtain ⟨W2, hW2⟩ := G5 (w2.alloc (.cells #[.pointer (some ⟨q, 0, none⟩)] cK))
 have B2 : Below w2 w2 W2 := by rw [<-hW2]; exact bla
 have r4 : W2.heap[w2.heap.size]? = some (.cells #[q] cK) := by rw [<-hW2]; exact IC w2 _
 have lq := H2.1.lt
 rw [hW2]
 obtain ⟨g4, hg4⟩ := G5 w2.heap.size
 have X2 := hd1 (H2.1.later B2)
 rw [hg4] at r4 lq ⊢
 have f4 : ∀ x : Wd (Moves (λ k => k = q) W2), x.world.cell? g4 = some (.pointer (some q)) := λ x => (IW (x.ok.block g4 (aa r4) GR)).trans (ae r4 rfl)
 have ne : Nonempty (Wd (Moves (λ k => k = q) W2)) := ⟨⟨_, Moves.refl _ _⟩⟩
 have HB := hd4 B2 r4 lq hg4
 clear B2 r4 lq hW2 hg4
 refine bC (λ w' => ∃ x : Wd (Moves (λ k => k = q) W2), w' = x.world) [3, 4, 5] GQ ?_
 refine aI [0, 2] 4 _ ⟨⟨_, Moves.of_below GY.drew⟩, rfl⟩ GQ ?_
 simp only [fmc, fmn, gta, gcs, gcz]
 iterate 2 (with_reducible refine ak (λ K hK => ?_); simp only [au, ah]; go_simp; refine hK _ ?_; clear hK K)
 with_reducible refine aA ?_
 refine az 1 3 _ _ rfl GQ ?_
 refine IE rfl λ K hK => ?_
 go_simp
 go_at_call 150
 refine (KC.out W2.drew q (X2.later GY.drew)).mono ?_
 rintro e w3 ⟨rfl, x3, m3⟩
 have M3 : Moves (λ k => k = q) W2 w3 := (Moves.of_below (Below.refl W2 W2).drew).trans m3 (λ _ _ h => h)
 have H3 := hd2 x3 M3
 clear x3 m3
 refine hK _ _ (IB ⟨rfl, λ _ => ⟨⟨_, M3⟩, rfl⟩, ?_⟩)
 clear hK K
 clear M3
 refine az 3 2 _ _ rfl GQ ?_
 refine IE rfl λ K hK => ?_
 go_simp
 go_at_call 150
 refine (VC.out w3 q H3.1).mono ?_
 rintro e w4 ⟨rfl, x4, m4⟩
 have H4 := hd2 x4 (H3.2.trans m4 (λ _ _ h => h))
 clear x4 m4 f4 ne
 refine hK _ _ (IB ⟨rfl, λ h => absurd GU h, ?_⟩)
 clear hK K
 refine eY [4, 5] 0 _ GQ ?_
 refine G9 ?_
 refine ⟨GQ, ?_⟩
 have c4 : w4.cell? g4 = some (.pointer (some q)) := (IW (H4.2.block g4 (aa HB.2.1) (Hf HB.2.2.1))).trans (ae HB.2.1 rfl)
 have EC := hd1 (tZ H4.1)
 go_upto_region 9 with (first
  | (go_at_call 149; refine EC.mono ?_; rintro e w5 ⟨rfl, b5⟩; have H5 := hd1 b5; clear b5 c4)
  | (go_at_call 109; refine (kH _).mono ?_; rintro e w' ⟨rfl, rfl⟩))
 have BW : Below w1 w1 w5 := (((Moves.of_below (O := λ k => w1.heap.size <= k) (H2.2.2)).trans (Moves.of_below (O := λ k => w1.heap.size <= k) HB.1) (λ _ _ h => h)).trans ((H4.2.mono (O' := λ k => w1.heap.size <= k) (λ k hk => Hf H2.2.1)).trans (Moves.of_below (O := λ k => w1.heap.size <= k) H5.out) (λ _ _ h => h)) (λ _ _ h => h)).low (O' := λ _ => False) (λ i hi h => GR) |>.below
 have sZ := aa HH.1.far
 have lM := HR.1.rows.lt
 have s1 := H1.2.2.size
 have rM := dZ (jP HR.1.rows H1.2.2 (Hf HM.out)) BW GR
 have RM := hd4 BW rM sZ lM
 clear BW rM sZ lM s1
 go_wp2_with (at_mapUpdate; refine L_ _ rfl (.tmp 49) (.tmp 50) (.tmp 51) jM rfl dB dB vE Ie (plainElem prog dB) M i Di rfl RM.2.1 Nr (ag k) (ag vv) _ rfl rfl (yI k (Hf HR.2.2.1)) _ [] (zg vv (Hf HR.2.2.2)) ?_
              intro w6 yw xJ;have H6 := hd2 yw (Dn xJ (Nat.le_refl M) (Hf RM.2.1.lt));clear yw xJ)
 go_roundw
 case rel =>
  obtain ⟨BW, rM, sZ, lM⟩ := RM.out;have bm := Dq H6.2 (Hf rM.lt);have hm0 := HM.out;refine ⟨i + 1, k, _, fi + m', GR, by go_num, rfl, (H1.2.1.later BW).moves bm (λ x hx => Hf H1.2.1.lt), H6.1, ?_, ?_⟩
  ·rw [HR.1.cZ, hj, Em.dP, HRR.1]
   simp only;rw [HRR.2, show N - (i + 1) = j by omega]
  ·exact ((HR.1.mv.trans (H1.2.2.mono (O' := λ k => k = g2 \/ w.heap.size <= k) (λ _ h => Iy h)) (λ _ _ h => h)).trans (Moves.of_below (O := λ k => k = g2 \/ w.heap.size <= k) BW) (λ _ _ h => h)).trans (bm.mono (λ x hx => Iz GR)) (λ _ _ h => h)
 case measure => simp [intOf]; omega) : P := h
theorem Oh (h : P := by
 refine bC (λ w' => ∃ x : Wd (Below W4 W4), w' = x.world) [] GQ ?_
 refine aI [0, 1, 2, 3, 4, 5, 6, 7, 8, 9, 10, 11, 12, 13, 14, 15, 16, 17, 18, 19, 20, 21, 22, 23, 24, 25] 0 _ Hq GQ ?_
 simp only [fmc, fmn, gta, gcs, gcz]
 iterate 26 (with_reducible refine ak (λ K hK => ?_); simp only [au, ah]; go_simp; (first | refine hK _ ?_ | ((with_reducible apply tq); (case h => with_unfolding_all (intro h; cases h)); refine hK _ ?_)); clear hK K)
 with_reducible refine aA ?_
 refine ⟨GQ, ?_⟩
 repeat (first
  | (go_big_may; (refine aC rfl aS _ _ rfl w.heap.size dL rfl rfl aS _ (show W4.drew.heap[w.heap.size]? = some (.cells dL aS) from RZ.out) Oc rfl GQ ?_; intro W5 aF aB bf))
  | go_values | go_skip | go_guarded | go_step | go_upon | (simp only [I9, I_] at *; go_simp) | (go_values <;> (try go_simp)) | (go_ite <;> go_prune <;> (try go_simp)) | (split <;> (first | (rename_i hx; exact (hx _ rfl).elim) | go_prune)))
 refine Hd aF.out H_ di ?_
 exact FAIL.out _ (Moves.new BW.drew aB GZ) NO.out) : P := h
theorem Oi (h : P := by
 intro v' W6 rH hb6 _
 obtain ⟨g6, c6, rfl⟩ := kT rH.out GR
 refine IB ⟨rfl, λ _ => ⟨⟨_, hb6⟩, rfl⟩, ?_⟩
 refine aI [7] 1 _ ⟨⟨_, hb6⟩, rfl⟩ GQ ?_
 refine G9 ?_
 refine az 8 0 _ _ rfl GQ ?_
 have q0 := (hb6.block _ (aa ROW.2.2.2.1)).trans ROW.2.2.2.1
 have k7 : W6.cell? (W1.heap.size, 7) = some wv1 := ae q0 rfl
 have f7 : W6.frozen? ⟨W1.heap.size, 7, none⟩ = false := aZ q0 _
 have s0 := IQ W6 W1.heap.size 7 _ af (.slice (some ⟨g6, 0, none⟩) (us.length + 1) c6) q0
 have s2 := (IU W6 ⟨W1.heap.size, 7, none⟩ (w.heap.size + 1 + 1) (.slice (some ⟨g6, 0, none⟩) (us.length + 1) c6) Ms).trans ((hb6.block _ (aa ROW.2.2.1)).trans ROW.2.2.1)
 have S0 : Hid ((W6.setCell (W1.heap.size, 7) (.slice (some g6) (us.length + 1) c6)).heap[W1.heap.size]? = some (.cells (dC d.goes.1.many d.goes.1.room gW u0 u1 u2 u3 (.slice (some g6) (us.length + 1) c6) d.goes.1.dead d.goes.1.stops) af (0, 0))) := s0
 have S2 := hd1 s2
 refine IE rfl λ K hK => ?_
 go_simp
 refine hK _ _ (IB ⟨rfl, λ h => absurd GU h, GQ, ?_⟩)
 clear hK K
 clear s0 s2 q0 k7 f7
 have kg := hd1 hb6
 clear hb6
 generalize gI : (W6.setCell (W1.heap.size, 7) (.slice (some ⟨g6, 0, none⟩) (us.length + 1) c6)) = W7 at *
 have eU := hd1 gI
 clear gI
 go_wp2_with (first
  | (refine G_ S0.out Hu aH ?_)
  | (refine aC rfl af _ _ rfl (w.heap.size + 1 + 1) _ rfl rfl af bV S2.out aH rfl (yj ROW.1.2 rfl _ _ _ _) ?_
     intro W8 fB dA jw))
 refine Ha fB.out Hu aH ?_
 rw [<-eU.out] at dA
 exact step_end H0.out ROW.1.1 (Hf ROW.2.2.2.2) ROW.1.2 GG.out (aa ROW.2.2.2.1) qo.1 qo.2.1 HD.2.2.1 kg.out rH.out dA) : P := h
theorem Oj (h : P := by
 refine bC (λ w' => ∃ x : Wd (Below W4 W4), w' = x.world) [] GQ ?_
 refine aI [0, 1, 2, 3, 4, 5, 6, 7, 8, 9, 10, 11, 12, 13, 14, 15, 16, 17, 18, 19, 20, 21, 22, 23, 24, 25] 0 _ Hq GQ ?_
 simp only [fmc, fmn, gta, gcs, gcz]
 iterate 26 (with_reducible refine ak (λ K hK => ?_); simp only [au, ah]; go_simp; (first | refine hK _ ?_ | ((with_reducible apply tq); (case h => with_unfolding_all (intro h; cases h)); refine hK _ ?_)); clear hK K)
 with_reducible refine aA ?_
 refine ⟨GQ, ?_⟩
 go_upto_region 13 with fail
 go_upto_region 14 with (first
  | (refine II rfl 51 (.tmp 14) rfl g3 rfl fC _ (0, 0) _ (show W4.drew.heap[g3]? = _ from zK.out) Ij rfl l_ ?_)
  | (at_builtin; refine qC rfl (.tmp 94) (.tmp 96) rfl (q + 1) _ R (key, value) rfl (z2s.later (GY.drew.alloc GZ _)) W4.heap.size 1 rfl (IC W4.drew _) (Hg HR.st.len HG.2.2) (by have := aa RQ.out; simp; omega) GY ?_; intro v5 w5 h5 h6
     obtain ⟨x5, c5, e5⟩ := h5.at.slice;rw [IL, HR.st.len, K9] at e5;subst e5;have pu := (h6.block q (Nat.lt_succ_self q)).trans (aM (w := W4.drew) (aa RQ.out) RQ.out);have z5 := aZ pu 1;have k5 := ae pu (j := 1) rfl))
 obtain ⟨V, eV, rV, mV⟩ := gm pu 1 (.slice x5 (i + 1) c5)
 rw [eV]
 have B5 := hd1 ((BW.drew.alloc BW.size (.cells #[ag key, ag value] fC)).trans (h6.mono (Hf HQ.out)))
 have sw := (h6.block w.heap.size (Hf HQ.out)).trans (aM (w := W4.drew) (aa RZ.out) RZ.out)
 have STN := hd1 (show DD w V q g l M QQ (i + 1) (fin + k) (R ++ [(key, value)]) (D.put (.string key) (.lit (.string value))) key (.slice x5 (i + 1) c5) from
  ⟨Moves.new B5.out mV (Jn HQ.out), (mV.block _ (aa sw) (Hf HQ.out)).trans sw, rV, h5.z8v mV (λ b hb e => GR), NX.out⟩)
 clear pu z5 k5 eV rV mV sw h5 h6
 have e9 : IntKind.i64.wrap ((i : Int) + 1) = ((i + 1 : Nat) : Int) := Ja _ (Hg HG.2.2 rQ.out)
 have i9 : i <= 256 := Hg HG.2.2 rQ.out
 go_wp2
 go_roundw
 case rel => exact ⟨i + 1, fin + k, _, _, _, _, Hf rQ.out, by go_num, by go_num, STN.out⟩
 case measure => have := rQ.out; simp [intOf]; omega) : P := h
theorem Ol (h : P := by
 have fin : ∀ (jump : Option Code) (W3 : World), dm (λ i => O i \/ R i \/ i = w.heap.size + 1 \/ i = w.heap.size) Wb W3 ->
  (Instr.endRound (w.heap.size + 1) jump).run P W3 = .ok (.bool jump.isNone) (W3.putObj (w.heap.size + 1) (.loop (rec (if jump.isNone then .ready else .done) jump))) ∧
  W3.heap[w.heap.size + 1]? = some (.loop { rec .ready none with state := .busy }) ∧
  (W3.putObj (w.heap.size + 1) (.loop (rec (if jump.isNone then .ready else .done) jump))).heap[w.heap.size + 1]? = some (.loop (rec (if jump.isNone then .ready else .done) jump)) ∧
  (W3.putObj (w.heap.size + 1) (.loop (rec (if jump.isNone then .ready else .done) jump))).heap[w.heap.size]? = some (.deferred (some [])) ∧
  dm (λ i => O i \/ R i) W (W3.putObj (w.heap.size + 1) (.loop (rec (if jump.isNone then .ready else .done) jump))) := by
  intro jump W3 hk3;have hl3 := (hk3.block _ (Iz (Iz (Iy rfl))) (Jf.1 hl2).1).trans hl2;have hd3 := (hk3.block _ (Iz (Iz (Iz rfl))) (Jf.1 hk2).1).trans hk2;have := run_endRound (P := P) jump hl3;refine ⟨by rw [hrec] at this ⊢; exact this, hl3, Lx (Jf.1 hl3).1, (Jd GR).trans hd3, ?_⟩;exact (hkb.trans (hk3.mono (λ i hi => by rcases hi with h | h; exact Iy h; exact Iz (Iy h)))).trans (BP _ (λ h => by rcases h with h | h; exact hol h; exact hnR h))
 rintro e a3 W3 hp
 cases e with
 | normal =>
  obtain ⟨hk3, hi3⟩ := hp;obtain ⟨hr, hl3, hl4, hk4, hkk⟩ := fin none W3 hk3;exact ⟨_, _, hr, .inl ⟨rfl, ⟨kY _ _ _ _ _ hl3 hi3, ⟨hl4, hol⟩, ⟨hk4, hok⟩⟩, hkk⟩⟩
 | ret =>
  obtain ⟨hk3, hi3⟩ := hp;obtain ⟨hr, hl3, hl4, hk4, hkk⟩ := fin (some .ret) W3 hk3;exact ⟨_, _, hr, .inr ⟨rfl, ⟨.ret, nD _ _ _ _ _ _ hl3 hi3, ⟨hl4, hol⟩, ⟨hk4, hok⟩⟩, hkk⟩⟩
 | exit id =>
  obtain ⟨hk3, hi3⟩ := hp;obtain ⟨hr, hl3, hl4, hk4, hkk⟩ := fin (some (.exit id)) W3 hk3;exact ⟨_, _, hr, .inr ⟨rfl, ⟨.exit id, nD _ _ _ _ _ _ hl3 hi3, ⟨hl4, hol⟩, ⟨hk4, hok⟩⟩, hkk⟩⟩
 | goto t =>
  obtain ⟨hk3, hi3⟩ := hp;obtain ⟨hr, hl3, hl4, hk4, hkk⟩ := fin (some (.goto t)) W3 hk3;exact ⟨_, _, hr, .inr ⟨rfl, ⟨.goto t, nD _ _ _ _ _ _ hl3 hi3, ⟨hl4, hol⟩, ⟨hk4, hok⟩⟩, hkk⟩⟩
 | panic ch => exact hp.elim
 | outgrown => exact hp.elim) : P := h
theorem Om (h : P := by
 by_cases dN : 0 < c.keep.length
 ·obtain ⟨kb, ko, rfl, hkc⟩ : ∃ kb ko, ka = some ⟨kb, ko, none⟩ /\ ∀ (i : Nat) (x : Bool), c.keep[i]? = some x -> W5.cell? ⟨kb, ko + i, none⟩ = some (.bool x) := by
   rcases HD.2.2.2.2.2 with ⟨h1, h2⟩ | ⟨kb, ko, cap, cc, Ex, mi, h1, h2, h3⟩
   ·rw [h2] at dN; cases dN
   ·refine ⟨kb, ko, (Jw h1).1, λ i x hi => ?_⟩
    rw [C5.1.below.cell (p := ⟨kb, ko + i, none⟩) (aa h2), IJ _ _ _ _ _ _ h2];exact h3 i x hi
  have hj : k % c.keep.length < c.keep.length := Kt _ dN;have GL := hkc (k % c.keep.length) c.keep[k % c.keep.length] (IR hj);have ev : c.kept k = c.keep[k % c.keep.length] := by
   have e0 : max 1 c.keep.length = c.keep.length := GR;simp [bH.kept, dN, e0, Ld, IR hj]
  have EV := hd1 ev;have e2 : decide (0 < (c.keep.length : Int)) = true := by simp; omega
  have hif : (if 1 < (c.keep.length : Int) then (c.keep.length : Int) else 1) = (c.keep.length : Int) := by
   by_cases h : 1 < (c.keep.length : Int)
   ·rw [IA h]
   ·rw [Iw h]; omega
  have hne : ¬ ((c.keep.length : Int) = 0) := GR;have htm : (k : Int).tmod (c.keep.length : Int) = ((k % c.keep.length : Nat) : Int) := by rw [Jr GR]; rfl
  clear ev hkc;generalize c.keep[k % c.keep.length] = GI at *;generalize k % c.keep.length = j at *;have hj0 : (0 : Int) <= (j : Int) := GR;have hj1 : (j : Int) < (c.keep.length : Int) := GR;have hmx : max 1 (c.keep.length : Int) = (c.keep.length : Int) := GR;go_quiet (fail)
  go_wp2_with fail
  go_meet
  exact ⟨by rw [EV.out], _, rfl⟩
 ·have e0 : c.keep = [] := LZ.1 GR
  have e1 : c.kept k = false := by simp [bH.kept, e0]
  have E1 := hd1 e1;have e2 : decide (0 < (c.keep.length : Int)) = false := by simp; omega
  clear e1 e0;go_quiet (fail)
  go_wp2_with fail
  go_meet
  exact ⟨by rw [E1.out], _, rfl⟩) : P := h
theorem Oo (h : P := by
 by_cases dN : 0 < c.keep.length
 ·obtain ⟨kb, ko, rfl, hkc⟩ : ∃ kb ko, ka = some ⟨kb, ko, none⟩ /\ ∀ (i : Nat) (x : Bool), c.keep[i]? = some x -> W6.cell? ⟨kb, ko + i, none⟩ = some (.bool x) := by
   rcases HK.out with ⟨h1, h2⟩ | ⟨kb, ko, cap, cc, Ex, mi, h1, h2, h3⟩
   ·rw [h2] at dN; cases dN
   ·refine ⟨kb, ko, (Jw h1).1, λ i x hi => ?_⟩
    rw [C6.1.below.cell (p := ⟨kb, ko + i, none⟩) (aa h2), IJ _ _ _ _ _ _ h2];exact h3 i x hi
  have hj : k % c.keep.length < c.keep.length := Kt _ dN;have GL := hkc (k % c.keep.length) c.keep[k % c.keep.length] (IR hj);have ev : c.kept k = c.keep[k % c.keep.length] := by
   have e0 : max 1 c.keep.length = c.keep.length := GR;simp [bH.kept, dN, e0, Ld, IR hj]
  have EV := hd1 ev;have e2 : decide (0 < (c.keep.length : Int)) = true := by simp; omega
  have hif : (if 1 < (c.keep.length : Int) then (c.keep.length : Int) else 1) = (c.keep.length : Int) := by
   by_cases h : 1 < (c.keep.length : Int)
   ·rw [IA h]
   ·rw [Iw h]; omega
  have hne : ¬ ((c.keep.length : Int) = 0) := GR;have htm : (k : Int).tmod (c.keep.length : Int) = ((k % c.keep.length : Nat) : Int) := by rw [Jr GR]; rfl
  clear ev hkc;generalize c.keep[k % c.keep.length] = GI at *;generalize k % c.keep.length = j at *;have hj0 : (0 : Int) <= (j : Int) := GR;have hj1 : (j : Int) < (c.keep.length : Int) := GR;go_quiet (fail)
  go_wp2_with fail
  go_meet
  exact ⟨by rw [EV.out], _, rfl⟩
 ·have e0 : c.keep = [] := LZ.1 GR
  have e1 : c.kept k = false := by simp [bH.kept, e0]
  have E1 := hd1 e1;have e2 : decide (0 < (c.keep.length : Int)) = false := by simp; omega
  clear e1 e0;go_quiet (fail)
  go_wp2_with fail
  go_meet
  exact ⟨by rw [E1.out], _, rfl⟩) : P := h
theorem Oq (h : P := by
 refine wpIn_goto ?_
 refine Exit.y0y ?_
 gi_wp2
 rw [KY]
 obtain ⟨h1, h2, h7, hD⟩ := HH.out
 obtain ⟨m3, x3, q0⟩ := HL.out
 have lm : W2.heap.size + 1 < W.heap.size := GR
 have dD : w3.heap[W2.heap.size + 1]? = some (.deferred (some [])) := (m3.block _ lm (λ e => by rcases e with e | e | e <;> omega)).trans hD
 have e4 : ∀ u : Value, ((w3.setCell w.heap.size u).putObj (W2.heap.size + 1) (.deferred none)).cell? w.heap.size = some u := λ u => ae ((Jd GR).trans (IQ _ _ 0 _ mQ u q0)) rfl
 have m4 : ∀ u : Value, Moves (λ k => k = w.heap.size \/ k = W2.heap.size + 1) w3 ((w3.setCell w.heap.size u).putObj (W2.heap.size + 1) (.deferred none)) := λ u =>
  ((eP w3 w.heap.size 0 u).mono (λ _ h => Iy h)).trans ((vQ (l := W2.heap.size + 1) (.deferred none)).mono (λ _ h => Iz h)) (λ _ _ h => h)
 have dE : ∀ u : Value, (w3.setCell w.heap.size u).heap[W2.heap.size + 1]? = some (.deferred (some [])) := λ u => (IU _ _ _ _ Ny).trans dD
 obtain ⟨g1, g2⟩ := Bv X.1 X.2.2.1 h1 h7 GR m3 x3 dD q0 (m4 (.pointer none))
 have s3 := m3.size
 have fin : xh w pd md F r (.returned (.tuple #[.pointer none, .int .i64 r.2])) ((w3.setCell w.heap.size (.pointer none)).putObj (W2.heap.size + 1) (.deferred none)) := by
  refine ⟨g1, λ h => absurd h hz, λ _ => ⟨rfl, g2.disk.weak (λ k hk hl => ?_) ?_ ?_⟩⟩
  ·rcases hk with hk | hk
   ·exact Iy hk
   ·exact Iz ⟨GR, hl⟩
  ·intro h
   rcases h with h | h
   ·exact X.1.lt.2.2.2.1 h
   ·omega
  ·intro h
   rcases h with h | h
   ·exact X.1.lt.2.2.2.2 h
   ·omega
 rw [<-hr] at fin
 rw [<-s2]
 exact vW (dE _) (nY (p := 2) (u := 3) rfl _ _ ⟨w.heap.size, 0, none⟩ _ rfl (e4 _) GQ) (by rw [<-hr]; exact fin)) : P := h
theorem Ot (h : P := by
 rw [Exit.y0z]
 obtain ⟨h1, h2, h7, hD⟩ := HH.out
 obtain ⟨m3, x3, q0⟩ := HL.out
 have lm : W2.heap.size + 1 < W.heap.size := GR
 have dD : w3.heap[W2.heap.size + 1]? = some (.deferred (some [])) := (m3.block _ lm (λ e => by rcases e with e | e | e <;> omega)).trans hD
 have e4 : ∀ u : Value, ((w3.setCell w.heap.size u).putObj (W2.heap.size + 1) (.deferred none)).cell? w.heap.size = some u := λ u => ae ((Jd GR).trans (IQ _ _ 0 _ mQ u q0)) rfl
 have m4 : ∀ u : Value, Moves (λ k => k = w.heap.size \/ k = W2.heap.size + 1) w3 ((w3.setCell w.heap.size u).putObj (W2.heap.size + 1) (.deferred none)) := λ u =>
  ((eP w3 w.heap.size 0 u).mono (λ _ h => Iy h)).trans ((vQ (l := W2.heap.size + 1) (.deferred none)).mono (λ _ h => Iz h)) (λ _ _ h => h)
 have dE : ∀ u : Value, (w3.setCell w.heap.size u).heap[W2.heap.size + 1]? = some (.deferred (some [])) := λ u => (IU _ _ _ _ Ny).trans dD
 obtain ⟨g1, g2⟩ := Bv X.1 X.2.2.1 h1 h7 GR m3 x3 dD q0 (m4 (.pointer (some ⟨w.heap.size + 1, 0, none⟩)))
 have s3 := m3.size
 have s4 := (m4 (.pointer (some ⟨w.heap.size + 1, 0, none⟩))).size
 have fin : xh w pd md F r (.returned (.tuple #[.pointer (some (w.heap.size + 1, 0)), .int .i64 0])) ((w3.setCell w.heap.size (.pointer (some (w.heap.size + 1, 0)))).putObj (W2.heap.size + 1) (.deferred none)) := by
  refine ⟨g1, λ _ => ⟨w.heap.size + 1, _, rfl, g2, GR, λ k hk => ?_, λ k hk => ?_⟩, λ h => absurd hz h⟩
  ·rcases hk with hk | hk
   ·have := X.2.2.1 k hk; omega
   ·omega
  ·rcases hk with hk | hk
   ·exact Iy hk
   ·exact Iz GR
 rw [<-hr] at fin
 rw [<-s2]
 exact vW (dE _) (nY (p := 2) (u := 3) rfl _ _ ⟨w.heap.size, 0, none⟩ _ rfl (e4 _) GQ) fin) : P := h
theorem Ou (h : P := by
 have kp : W5.cell? (w.heap.size, 2) = some (.int .i64 c.part) := ae C5.1.box rfl
 have kt : W5.cell? (w.heap.size, 1) = some (.int .i64 c.bq) := ae C5.1.box rfl
 have kw : W5.cell? (p, 10) = some (.slice (some ⟨b, o, none⟩) d.waits.length sc) := (C5.1.below.cell (p := ⟨p, 10, none⟩) hl.1).trans (ae ALL.1 rfl)
 by_cases dN : 0 <= c.part
 ·by_cases hpk : (k : Int) = pick c.bq d.waits.length
  ·have e1 : c.dz d.waits.length k = true := by simp [bH.dz, dN, hpk.symm]
   have E1 := hd1 e1;have e2 : decide (0 <= c.part) = true := by simpa using dN
   have e3 : ((k : Int) == pick c.bq d.waits.length) = true := by simpa using hpk
   clear e1 hpk;go_quiet ((go_at_call 46; exact Kn ((vK _ _ _ ht0 ht1 GR GR).mono λ e w' h => ⟨h.1, h.2.symm⟩)))
   go_wp2_with fail
   go_meet
   exact ⟨by rw [E1.out], _, rfl⟩
  ·have e1 : c.dz d.waits.length k = false := by simp [bH.dz, hpk]
   have E1 := hd1 e1;have e2 : decide (0 <= c.part) = true := by simpa using dN
   have e3 : ((k : Int) == pick c.bq d.waits.length) = false := by simpa using hpk
   clear e1 hpk;go_quiet ((go_at_call 46; exact Kn ((vK _ _ _ ht0 ht1 GR GR).mono λ e w' h => ⟨h.1, h.2.symm⟩)))
   go_wp2_with fail
   go_meet
   exact ⟨by rw [E1.out], _, rfl⟩
 ·have e1 : c.dz d.waits.length k = false := by simp [bH.dz, dN]
  have E1 := hd1 e1;have e2 : decide (0 <= c.part) = false := by simpa using dN
  clear e1;go_quiet (fail)
  go_wp2_with fail
  go_meet
  exact ⟨by rw [E1.out], _, rfl⟩) : P := h
theorem Ov (h : P := by
 go_in
 go_upto_region 1 with fail
 clear hW0
 go_wp2_with (first
  | (refine G_ Y2.out Hu aH ?_)
  | (refine aC rfl af _ _ rfl (w.heap.size + 1) _ rfl rfl af bV F1.1 aH rfl (HD.2.2.1 _ _) ?_
     intro W5 aF aB bf))
 refine Ha aF.out Hu aH ?_
 exact F1.2 W5 aB HG.out) : P := h
theorem Ow (h : P := by
 have kp : W5.cell? (w.heap.size + 1, 2) = some (.int .i64 c.part) := ae C5.1.r1 rfl
 have kt : W5.cell? (w.heap.size + 1, 1) = some (.int .i64 c.bq) := ae C5.1.r1 rfl
 have k7 := (HD.2.2.2.1 _ C5.1.r0).2.1
 by_cases dN : 0 <= c.part
 ·have PK := hd1 (λ W => AY c.bq d.waits.length W ht0 ht1 GR GR)
  by_cases hpk : (k : Int) = pick c.bq d.waits.length
  ·have e1 : c.dz d.waits.length k = true := by simp [bH.dz, dN, hpk.symm]
   have E1 := hd1 e1;have e3 : ((k : Int) == pick c.bq d.waits.length) = true := by simpa using hpk
   clear e1 hpk;generalize pick c.bq d.waits.length = pk at *;go_wp2_with (go_at_call 94; refine (PK.out _).mono ?_; rintro e w' ⟨rfl, rfl⟩)
   go_meet
   exact ⟨by rw [E1.out], rfl⟩
  ·have e1 : c.dz d.waits.length k = false := by simp [bH.dz, hpk]
   have E1 := hd1 e1;have e3 : ((k : Int) == pick c.bq d.waits.length) = false := by simpa using hpk
   clear e1 hpk;generalize pick c.bq d.waits.length = pk at *;go_wp2_with (go_at_call 94; refine (PK.out _).mono ?_; rintro e w' ⟨rfl, rfl⟩)
   go_meet
   exact ⟨by rw [E1.out], rfl⟩
 ·have e1 : c.dz d.waits.length k = false := by simp [bH.dz, dN]
  have E1 := hd1 e1;clear e1;go_wp2_with fail
  go_meet
  exact ⟨by rw [E1.out], rfl⟩) : P := h
theorem Ox (h : P := by
 have i2 : (i : Int) + 1 < (n : Int) := Hg HC.2.1 HC.2.2
 obtain ⟨x, hx⟩ : ∃ x, l[i]? = some x := ⟨_, IR (Hf HC.2.2)⟩
 have cx := HC.1 i x hx
 have x0 : (0 : Int) <= (x.toNat : Int) := GR
 have x1 : (x.toNat : Int) < 256 := Hf x.toNat_lt
 have y4 := hd1 (sQ l i x hx)
 have r1 := Gj l i GR hlen
 generalize nk l i = R at *
 generalize x.toNat = X at *
 have r0 : (0 : Int) <= (R : Int) := GR
 have r2 : (R : Int) < 72057594037927936 := GR
 clear hx hlen r1
 go_wp2
 go_roundw
 case rel => exact ⟨i + 1, GR, by go_num, by rw [y4.out]; go_num, trivial⟩
 case measure => simp [intOf]; omega) : P := h
theorem Oy (h : P := by
 repeat (first | (go_big_may; (first
  | (refine G_ kN.out H_ di ?_)
  | (refine aC rfl aS _ _ rfl w.heap.size _ rfl rfl aS _ RZ.out Oc rfl (mW _ _ _ _ _ _) ?_; intro W5 aF aB bf))) | go_values | go_skip | go_guarded | go_step | go_upon)
 refine Hd aF.out H_ di ?_
 exact FIN.out _ (Moves.new mJ.out aB GZ) (oL.moves aB (λ b hb _ e => by subst e; have := HQ.out; exact absurd hb GR)) NO.out) : P := h
theorem Oz (h : P := by
 go_wp2_with (first
  | (go_at_call 149; refine EC.mono ?_; rintro e w5 ⟨rfl, m5⟩; have H5 := hd1 m5; clear m5 c4)
  | (go_at_call 109; refine (iL _).mono ?_; rintro e w' ⟨rfl, rfl⟩))
 exact ⟨rfl, rfl, FL.out _ (ni H1.2.2 (((Moves.of_below (O := λ k => w1.heap.size <= k) H2.2.2).trans (Moves.of_below (O := λ k => w1.heap.size <= k) HB.1) (λ _ _ h => h)).trans ((H4.2.trans H5.out (λ _ _ h => h)).mono (O' := λ k => w1.heap.size <= k) (λ k hk => Hf H2.2.1)) (λ _ _ h => h)) (λ _ h => h))⟩) : P := h
theorem OA (h : P := by
 have r0 : (0 : Int) <= (R : Int) := GR
 have r2 : ¬ (4611686018427387904 : Int) < (R : Int) := GR
 have r3 : (R : Int) <= 4611686018427387904 := GR
 clear ng htop
 go_wp2_with (go_at_call 137; refine NC.mono ?_; rintro e w2 ⟨v2, rfl, o2, b2⟩
              obtain ⟨va, vc, e2⟩ := o2.at.slice;rw [hq] at e2;subst e2;have B2 := hd1 b2;clear o2 b2)
 go_ret2
 rw [FE.out]
 exact ⟨rfl, B2.out⟩) : P := h
theorem OB (h : P := by
 have uI := hd1 hne
 have b2 : (m == n) = false := by simpa using hne
 have b3 : (m != n) = true := by simpa using hne
 clear hne
 go_quiet (fail)
 go_wp2_with (refine lS rfl (.tmp 68) (.tmp 74) 57 rfl W0.heap.size W0.heap.size W0 ((below_drewN HB2.out nq).alloc Na _) GZ jN (.agg #[.int .i64 0, .slice none 0 0]) 2 32 Ik v_ rfl GU _ acc.length (iO acc) rfl (bi (bi jv.out (below_drewN (Below.refl _ X2) nq) GZ) (bla) GZ) _ 1 [.int .i64 m, Value.slice ka kl kc] rfl (vo _ m (Value.slice ka kl kc) rfl) MI MW MV ?_
              intro v3 W3 iF hb3 _;obtain ⟨g3, c3, rfl⟩ := kT iF.out GR;have HB3 := hd1 hb3;clear hb3)
 go_roundg (secs.length - (k + 1))
 case measure => have := H.2.2.2.2.1; omega
 case rel => exact ⟨k + 1, true, by go_num, rfl, Hf H.2.2.2.2.1, acc ++ [(m, Value.slice ka kl kc)], gu.old H.1 Bz.out H.2.2.2.1 uI.out Mt H.2.2.2.2.2.2.1.2.1 H.2.2.2.2.2.2.1.2.2, by rw [wC]; simpa using iF.out, HB3.out⟩) : P := h
theorem OD (h : P := by
 by_cases hw : Region.wanted o (yielded ops a.tmps) = true
 ·rw [IA hw] at h
  obtain ⟨v, hv, hn⟩ := h;refine ⟨v, .inl ⟨hw, λ w' hw' => ?_⟩, hn⟩;have := hv w' hw';generalize (execOp a.eval o).run P w' = x at this;cases x with
  | ok n w2 =>
   cases n <;> simp only [ah] at this;case value u => rw [this.1, this.2]
  | halt x w2 => simp only [ah] at this
 ·rw [Iw hw] at h
  exact ⟨undef, .inr ⟨by simpa using hw, rfl⟩, h⟩) : P := h
theorem OG (h : P := by
 intro v2 W4 sO y8 _
 have B4 : Below W2 W2 W4 := B3.grown y8 B3.size (λ k e => by
  rcases O3.2 with ⟨h, _⟩ | ⟨g, cap, cur, h, hg, _⟩
  ·rw [h] at e; cases e
  ·rw [h] at e; cases e; exact hg)
 obtain ⟨g4, c4, rfl⟩ := kT sO GR
 have kP := hd1 sO
 have k4 : W4.cell? (p, 10) = some wv := (B4.cell (p := ⟨p, 10, none⟩) lp).trans DJ.1
 have k5 : W4.frozen? ⟨p, 10, none⟩ = false := (B4.frozen (p := ⟨p, 10, none⟩) lp).trans DJ.2
 clear sO y8 O3 uL hlt
 refine IB ⟨rfl, λ _ => ⟨⟨_, B4⟩, rfl⟩, ?_⟩
 refine aI [9, 10] 1 _ ⟨⟨_, B4⟩, rfl⟩ GQ ?_
 refine G9 ?_
 refine az 11 0 _ _ rfl GQ ?_
 refine IE rfl λ K hK => ?_
 go_simp
 refine hK _ _ (IB ⟨rfl, λ h => absurd GU h, GQ, ?_⟩)
 clear hK K
 go_wp2
 go_ret
 exact ⟨rfl, W1, W2, W4, _, cs, Q1.out, Q2.out, HK2.out, B4, kP.out, rfl⟩) : P := h
theorem OH (h : P := by
 go_upto_region 6 with fail
 refine bC (λ w' => ∃ x : Wd (Below W W), w' = x.world) [2] GQ ?_
 refine aI [0, 1] 1 _ Hq GQ ?_
 simp only [fmc, fmn, gta, gcs, gcz]
 refine dX rfl aS (.tmp 6) rfl _ LD6.out ?_
 repeat refine G8 ?_
 refine aA ?_
 refine az 2 0 _ _ rfl GQ ?_
 refine aC rfl aS _ _ rfl (w.heap.size + 1) _ rfl rfl aS _ (show W.drew.heap[w.heap.size + 1]? = _ from HR.1) di rfl (mW _ _ _ _ _ _) ?_
 intro W5 aF aB bf
 refine IB ⟨rfl, λ h => absurd GU h, GQ, ?_⟩
 go_wp2
 refine IK (Bb rfl _ _ (w.heap.size + 1) _ _ _ _ (.int .i64 1) rfl rfl aF.out H_ rfl di) rfl ?_
 have := FX.out W5 _ _ _ _ xx.out ⟨aB.os, aB.tape, aB.output, aB.size, aB.block⟩ aF.out HR.2.2.2.2
 rw [rP.out] at this
 exact this) : P := h
theorem OI (h : P := by
 go_upto_region 3 with (first
  | (go_at_call 132; refine SN.mono ?_; rintro e w1 ⟨b1, rfl⟩)
  | (go_at_call 133; refine (HH.out _).mono ?_; intro e w2 h2; unfold xw at h2; rw [show Em.fM [] = none from rfl] at h2; obtain ⟨b2, g, n, rfl⟩ := h2))
 have B2 := hd1 (HB.1.trans ((b1.trans (b2.mono b1.size)).mono HB.1.size))
 have RZ := hd1 ((b2.block _ (Jc (aa HB.2) b1.size)).trans ((b1.block _ (aa HB.2)).trans HB.2))
 clear b1 b2
 repeat (first | (go_big_may; (refine aC rfl aS _ _ rfl w.heap.size dL rfl rfl aS _ RZ.out Oc rfl GQ ?_; intro W5 aF aB bf)) | go_values | go_skip | go_guarded | go_step | go_upon)
 refine Hd aF.out H_ di ?_
 exact Aj NO.out (Moves.new B2.out aB GZ)) : P := h
theorem OJ (h : P := by
 go_ret
 exact ⟨rfl, rfl⟩) : P := h
theorem OL (h : P := by
 clear ng htop hq
 go_wp2_with (go_at_call 137; refine NC.mono ?_; rintro e w2 ⟨v2, rfl, o2, b2⟩
              obtain ⟨va, vc, e2⟩ := o2.at.slice;subst e2;have B2 := hd1 b2;clear o2 b2)
 go_ret2
 rw [FE.out]
 exact ⟨rfl, B2.out⟩) : P := h
theorem OO (h : P := by
 rw [HJ.out]
 rintro e w' ⟨rfl, rfl⟩
 refine hK _ _ (IB ⟨rfl, λ _ => ⟨⟨w.drew, GY.drew⟩, rfl⟩, ?_⟩)
 clear hK K
 refine aI [7] 2 _ ⟨⟨w.drew, GY.drew⟩, rfl⟩ GQ ?_
 refine G9 ?_
 refine az 8 1 _ _ rfl GQ ?_
 refine IE rfl λ K hK => ?_
 go_simp
 go_at_call 100
 refine (z1c _ _ _ _ _).mono ?_
 rintro e w' ⟨rfl, rfl⟩
 refine hK _ _ (IB ⟨rfl, λ _ => ⟨⟨_, ((GY.drew).alloc GZ _).alloc GV _⟩, rfl⟩, ?_⟩)
 clear hK K
 refine az 10 0 _ _ rfl GQ ?_
 refine IE rfl λ K hK => ?_
 go_simp
 go_at_call 142
 refine HR.mono ?_
 rintro e w' ⟨rfl, hw⟩
 refine hK _ _ (IB ⟨rfl, λ h => absurd (Jp ..) h, GQ, ?_⟩)
 clear hK K
 go_end0
 exact ⟨rfl, hw⟩) : P := h
theorem OT (h : P := by
 have H2 := hd2 ho.out (HO.2.1.trans (((cz.refl _ _).alloc _).trans hg.out))
 have HS := hd1 hg.grown.size
 clear ho hg
 go_wp2
 go_roundw
 case rel => exact ⟨0 + 1, GR, by go_num, by rw [fw, <-IZ]; exact H2.1, H2.2, by have := HO.2.2; have := HS.out; simp at this; omega⟩
 case measure => simp [intOf]) : P := h
theorem OU (h : P := by
 have H2 := hd2 ho.out (HO.2.1.trans (((cz.refl _ _).alloc _).trans hg.out))
 have HS := hd1 hg.grown.size
 clear ho hg
 go_wp2
 go_roundw
 case rel => exact ⟨1 + 1, GR, by go_num, by rw [fw, <-IZ]; exact H2.1, H2.2, by have := HO.2.2; have := HS.out; simp at this; omega⟩
 case measure => simp [intOf]) : P := h
theorem OV (h : P := by
 go_wp2_with (first
  | (refine II rfl aO (.tmp 2) rfl w.heap.size rfl aO C' (0, 0) _ SC.2.2.1 Hz rfl NY ?_)
  | (refine aC rfl aO _ _ rfl (w.heap.size + 1 + 1) C' rfl rfl aO eT SC.2.2.2.1 NY NP SC.2.1 ?_
     intro W5 aF aB bf))
 refine Hd aF.out Hz NY ?_
 exact ⟨rfl, Moves.new SC.2.2.2.2.drew aB GR⟩) : P := h
theorem OW (h : P := by
 go_in
 go_wp2_with (go_at_call 144; refine FC.mono ?_; rintro e w1 ⟨rfl, b1⟩; have B1 := hd1 b1; clear b1)
 go_ret3
 exact vw B1.out HS.1 HS.2) : P := h
theorem OX (h : P := by
 go_in
 go_wp2_with (go_at_call 163; refine FC.mono ?_; rintro e w1 ⟨rfl, b1⟩; have B1 := hd1 b1; clear b1)
 go_ret3
 exact vD B1.out HS.1 HS.2) : P := h
theorem OY (h : P := by
 have hfree' : ∀ k ok, ops[k]? = some ok -> k ≠ i -> (listed.setIfInBounds j true).getD k true = false ->
  (∀ e ∈ ok.after, Region.binds md e = true -> e.on ≠ i) -> oi.apart ops ok = true := λ k ok hk hki hun hno => by
  refine hfree k ok hk hki ?_ hno;by_cases hjk : j = k
  ·subst hjk; exact hjun
  ·rw [KQ true hjk] at hun; exact hun
 refine wpOp_mono (λ a' w' h3 => ⟨λ _ => h3.2.1 hjt, ih (listed.setIfInBounds j true) a' w' (hcl.set hj) hfree' (JR hr (Ki hji)) h3.1 (h3.2.1 hjt) ?_⟩) h2
 rw [K6 _ _ hji]
 exact h3.2.2) : P := h
theorem OZ (h : P := by
 go_wp2_with (first
  | (go_at_call 108; refine SC.mono ?_; rintro e w1 ⟨b1, rfl⟩)
  | (go_at_call 109; refine (iL _).mono ?_; rintro e w' ⟨rfl, rfl⟩))
 exact ⟨rfl, rfl, b1⟩) : P := h
theorem O0 (h : P := by
 clear hbad hre
 go_wp2_with (first
  | (go_at_call 149; refine EC.mono ?_; rintro e w5 ⟨rfl, m5⟩; have H5 := hd1 m5; clear m5 c4)
  | (go_at_call 109; refine (iL _).mono ?_; rintro e w' ⟨rfl, rfl⟩))
 exact ⟨rfl, rfl, ni H1.2.2 (((Moves.of_below (O := λ k => w1.heap.size <= k) H2.2.2).trans (Moves.of_below (O := λ k => w1.heap.size <= k) HB.1) (λ _ _ h => h)).trans ((H4.2.trans H5.out (λ _ _ h => h)).mono (O' := λ k => w1.heap.size <= k) (λ k hk => Hf H2.2.1)) (λ _ _ h => h)) (λ _ h => h)⟩) : P := h
theorem O4 (h : P := by
 refine hK _ _ (IB ⟨rfl, λ _ => Hq, ?_⟩)
 clear hK K
 refine aI [8, 9, 10, 11, 12, 13] 1 _ Hq GQ ?_
 simp only [fmc, fmn, gta, gcs, gcz]
 iterate 6 (with_reducible refine ak (λ K hK => ?_); simp only [au, ah]; go_simp; refine hK _ ?_; clear hK K)
 with_reducible refine aA ?_
 refine az 14 0 _ _ rfl GQ ?_
 refine IE rfl λ K hK => ?_
 go_simp
 refine hK _ _ (IB ⟨rfl, λ h => absurd GU h, GQ, ?_⟩)
 clear hK K
 go_wp2
 exact Fa FIN.1 GR FIN.2.1 FIN.2.2 GR rfl (by rw [H6.2.2.1]; exact AL.symm)) : P := h
theorem O5 (h : P := by
 have Z := IC w (.cells #[ag k, ag v, .bool g] a_)
 have z0 : (w.alloc (.cells #[ag k, ag v, .bool g] a_)).cell? w.heap.size = some (ag k) := (IJ _ _ _ _ _ _ Z).trans rfl
 have z1 : (w.alloc (.cells #[ag k, ag v, .bool g] a_)).cell? (w.heap.size, 1) = some (ag v) := (IJ _ _ _ _ _ _ Z).trans rfl
 have z2 : (w.alloc (.cells #[ag k, ag v, .bool g] a_)).cell? (w.heap.size, 2) = some (.bool g) := (IJ _ _ _ _ _ _ Z).trans rfl
 clear Z
 have qk := CU k
 have qv := CU v
 go_in
 go_wp2
 all_goals
  go_ret;refine ⟨?_, bla⟩;simp_all [Em.ay.wrong]) : P := h
theorem O6 (h : P := by
 have r0 : (0 : Int) <= (R : Int) := GR
 have r2 : (4611686018427387904 : Int) < (R : Int) := GR
 have r3 : (R : Int) < 18446744073709551616 := GR
 clear ng htop
 go_wp2
 go_ret2
 rw [FE.out]
 exact ⟨rfl, Below.refl _ _⟩) : P := h
theorem O7 (h : P := by
 gi_wp2_with (refine ⟨trivial, rfl, ?_⟩; gi_at_call 21; refine (Jg.2 GC.out).mono ?_; rintro e w' ⟨rfl, rfl⟩)
 first | exact FIN.out | exact ⟨FIN.1, rfl, FIN.2.2⟩) : P := h
theorem O8 (h : P := by
 clear hr
 go_in
 go_upto_region 1 with fail
 rw [HW.out]
 go_wp2_with (first
  | (go_at_call 163; refine FC.mono ?_; rintro e w2 ⟨rfl, b2⟩
     have j0 := aN b2 k0;have B2 := hd1 b2;clear b2 k0 k1)
  | (refine aC rfl aK _ _ rfl (w.heap.size + 1) _ rfl rfl aK _ ((B2.block _ (aa H.2.2)).trans H.2.2) Ob rfl Nz ?_; intro W5 aF aB bf))
 refine He aF.out Hy bG ?_
 exact ⟨Moves.new (H.1.trans (B2.mono H.1.size)) aB GR, _, rfl, _, _, _, rfl⟩) : P := h
theorem O9 (h : P := by
 go_in
 go_wp2_with (go_at_call 45; refine (gY p true _ h').mono ?_; rintro e w' ⟨rfl, rfl⟩)
 go_quiet (fail)
 go_wp2
 go_ret
 exact ⟨rfl, below_drewN hb nq⟩) : P := h
theorem O_ (h : P := by
 rintro e W2 ⟨⟨v, rfl⟩, O, (⟨hi, ⟨hl, hol⟩, ⟨hk, hok⟩⟩ | ⟨k, hkx, c, hi, ⟨hl, hol⟩, ⟨hk, hok⟩⟩)⟩
 ·exact ⟨none, _, by have := run_endLoop (P := P) hl ND; rw [hrec] at this; exact this, hdone O _ (kY _ _ _ _ _ hl hi) hok ((Jd GR).trans hk)⟩
 ·exact ⟨some c, _, by have := run_endLoop (P := P) hl ND; rw [hrec] at this; exact this, hstop c k O _ hkx (nD _ _ _ _ _ _ hl hi) hok ((Jd GR).trans hk)⟩) : P := h
theorem Pb (h : P := by
 clear hw h64 hg
 generalize l.length = N at *
 go_in
 go_wp2_with (first
  | (go_at_call 126; (with_reducible refine C1.out.mono ?_); rintro e w1 ⟨rfl, b1⟩; have H1 := hd1 b1; clear b1)
  | (go_at_call 126; (with_reducible refine (C2.out w1 H1.out).mono ?_); rintro e w2 ⟨rfl, b2⟩; have H2 := hd1 b2; clear b2))
 go_ret
 exact ⟨by rw [HR.out]; rfl, H1.trans (H2.mono H1.size)⟩) : P := h
theorem Pd (h : P := by
 cases i with
 | zero =>
  simp only [List.getElem?_cons_zero, Jv] at hi;subst hi;have hlt : j < 3 := by
   have := (IY.1 hj).1;simpa using this
  rw [KA N_];simpa using hj
 | succ i =>
  rw [Kl N_];have := ih i c NI j v hj;rw [show (i + 1) * 3 + j - [ag x.key, ag x.value, Value.bool x.gone].length = i * 3 + j by simp; omega];exact this) : P := h
theorem Pe (h : P := by
 have H2 := hd2 ho.out b2
 clear ho b2 b2'
 go_wp2
 go_roundw
 case rel => exact ⟨0 + 1, GR, by go_num, by rw [fw]; exact H2.1, H2.2⟩
 case measure => simp [intOf]) : P := h
theorem Pf (h : P := by
 have H2 := hd2 ho.out b2
 clear ho b2 b2'
 go_wp2
 go_roundw
 case rel => exact ⟨1 + 1, GR, by go_num, by rw [fw]; exact H2.1, H2.2⟩
 case measure => simp [intOf]) : P := h
theorem Pg (h : P := by
 rcases hown.2 with ⟨h, _⟩ | ⟨g, cap, cur, h, hg, _⟩
 ·rw [h] at e; cases e
 ·rw [h] at e; cases e; exact hg) : P := h
theorem Ph (h : P := by
 have H2 := hd2 ho.out (HO.2.1.trans (((cz.refl _ _).alloc _).trans hg.out))
 have HS := hd1 hg.grown.size
 clear ho hg
 go_wp2
 go_roundw
 case rel => exact ⟨2 + 1, GR, by go_num, by rw [fw, <-IZ]; exact H2.1, H2.2, by have := HO.2.2; have := HS.out; simp at this; omega⟩
 case measure => simp [intOf]) : P := h
theorem Pi (h : P := by
 have H2 := hd2 ho.out (HO.2.1.trans (((cz.refl _ _).alloc _).trans hg.out))
 have HS := hd1 hg.grown.size
 clear ho hg
 go_wp2
 go_roundw
 case rel => exact ⟨3 + 1, GR, by go_num, by rw [fw, <-IZ]; exact H2.1, H2.2, by have := HO.2.2; have := HS.out; simp at this; omega⟩
 case measure => simp [intOf]) : P := h
theorem Pj (h : P := by
 rintro c a w' hd ⟨rfl, hmv⟩
 exact ⟨hd, rfl, FL.out _ (ni H1.2.2 (((Moves.of_below (O := λ k => w1.heap.size <= k) H2.2.2).trans (Moves.of_below (O := λ k => w1.heap.size <= k) HB.1) (λ _ _ h => h)).trans (hmv.mono (O' := λ k => w1.heap.size <= k) (λ k hk => Hf H2.2.1)) (λ _ _ h => h)) (λ _ h => h))⟩) : P := h
theorem Pk (h : P := by
 have lq : q < wr.heap.size := by obtain ⟨t0, t1, t2, t3, c1, _⟩ := CS.1.stand; exact aa c1
 have lm : w.heap.size + 1 + 1 < wr.heap.size := by obtain ⟨t0, t1, t2, t3, c1, ⟨es, cl, g, _⟩, _⟩ := CS.1.stand; exact aa g
 exact ae ((hd.moves.block _ (aa C7.2.2.2) (λ e => GR)).trans C7.2.2.2) rfl) : P := h
theorem Pm (h : P := by
 rcases hk with (hk | hk) | hk
 ·exact Iy hk
 ·exact Iz ⟨hk.1, hl⟩
 ·exact Iz ⟨GR, hl⟩) : P := h
theorem Pn (h : P := by
 subst hb
 go_wp2_with (go_at_call 92; refine (BC.out _ S9.below).mono ?_; rintro en Et ⟨wN, rfl, qQ, b10⟩; obtain ⟨ba2, bc2, rfl⟩ := qQ.at.slice; rw [rR.out]; have z8a := aN b10 k93; have kr' := aN b10 kr; clear qQ)
 go_meet
 case rel => exact ⟨rfl, S9.later b10, Y9.below b10⟩) : P := h
theorem Po (h : P := by
 go_in
 go_wp2_with (first
  | (with_reducible refine NX.out.mono ?_; rintro e w1 ⟨v1, rfl, y1, x1, m1⟩; have H1 := hd3 y1 x1 m1; clear y1 x1 m1)
  | (go_at_call 147; refine (RC.out _ _ _ H1.1).mono ?_; rintro e w2 ⟨rfl, b2⟩))
 exact ⟨rfl, rfl, H1.2.2.trans (Moves.of_below b2) (λ _ _ h => h)⟩) : P := h
theorem Pp (h : P := by
 clear hall ht y1 hq FB FG FN NL
 generalize nk l i = N at *
 go_wp2_with (go_at_call 158; refine NC.mono ?_; rintro e w1 ⟨v1, rfl, o1, b1, _⟩; obtain ⟨va, vc, rfl⟩ := o1.at.slice; have B1 := hd1 b1; clear b1 o1)
 go_ret2
 exact ⟨by rw [HF.out]; rfl, BA.trans (B1.mono GV)⟩) : P := h
theorem Pq (h : P := by
 rintro c a w' hd ⟨rfl, hmv⟩
 exact ⟨hd, rfl, ni H1.2.2 (((Moves.of_below (O := λ k => w1.heap.size <= k) H2.2.2).trans (Moves.of_below (O := λ k => w1.heap.size <= k) HB.1) (λ _ _ h => h)).trans (hmv.mono (O' := λ k => w1.heap.size <= k) (λ k hk => Hf H2.2.1)) (λ _ _ h => h)) (λ _ h => h)⟩) : P := h
theorem Ps (h : P := by
 go_wp2
 go_roundg (d.waits.length - (k + 1))
 case measure => have := CS.2.2.2.2.1; omega
 case rel => exact ⟨k + 1, by go_num, Hf CS.2.2.2.2.1, lI.next HD.2.2.2.2.1 CS.2.1 CS.2.2.1 CS.2.2.2.1 uC.out C8.1 Nn (by simp [gq, H1.1])⟩) : P := h
theorem Pt (h : P := by
 rintro e w3 ⟨rfl, m3⟩
 have M3 : Moves (λ k => k = q) W2 w3 := (Moves.of_below (Below.refl W2 W2).drew).trans m3 (λ _ _ h => h)
 first | exact Iz ⟨fQ, rfl, rfl, rfl, M3⟩ | exact ⟨rfl, rfl, M3⟩ | exact ⟨rfl, M3⟩ | exact M3) : P := h
theorem Pv (h : P := by
 exact ((HR.1.mv.trans (H4.2.1.mono (O' := λ k => k = q \/ W2.heap.size <= k) (λ _ h => Iy h)) (λ _ _ h => h)).trans (Moves.of_below (O := λ k => k = q \/ W2.heap.size <= k) b4) (λ _ _ h => h)).trans (bm.mono (λ _ h => Iz h)) (λ _ _ h => h)) : P := h
theorem Pw (h : P := by
 refine lS hgd s x df ho B base w0 hb hB bT (.int .u8 0) 1 1 Ia infoByte rfl GU v l1.length (l1.map bL) hs hown v2 l2.length (l2.map bL) hx hsrc.src Nr GR hbase ?_
 intro v' w' ho' h1 h2
 refine h v' w' ?_ h1 h2
 have := ho'.out
 unfold bY
 rw [IL, J6]
 exact this) : P := h
theorem Px (h : P := by
 clear hq
 go_in
 go_wp2_with (first
  | (go_at_call 144; refine FC.mono ?_; rintro e w1 ⟨rfl, b1⟩; have B1 := hd1 b1; clear b1 c0)
  | (go_at_call 177; refine (uY _).mono ?_; rintro e w' ⟨rfl, rfl⟩))
 exact ⟨rfl, rfl, B1.out⟩) : P := h
theorem Py (h : P := by
 have := IM hr
 exact ⟨IG Prod.fst this, IG Prod.snd this⟩) : P := h
theorem Pz (h : P := by
 rcases hs with hs | hs | hs
 ·exact hs.2.2.2.2
 ·omega
 ·omega) : P := h
theorem PD (h : P := by
 rcases y2 with ⟨_, h⟩ | ⟨b0, o0, cap0, cs, t, fr, e0, h1, h2, _, h4, h5⟩
 ·simp at h
 ·exact ⟨b0, o0, cap0, e0, h1, h2, (IJ _ _ _ _ _ _ h4).trans (h5 0 c rfl)⟩) : P := h
theorem PE (h : P := by
 obtain ⟨s, rfl, h1, h2⟩ := plainElem_string_inv Ib hv
 rw [hrun]
 have e : Em.valueOf D k = s.data.toList := by
  unfold Em.valueOf;rw [show D.atKey (.string k) (.lit (.string [])) = .lit (.string s.data.toList) from IG Prod.fst h1]
 rw [e]) : P := h
theorem PG (h : P := by
 rintro e w4 ⟨rfl, m4⟩
 have M4 : Moves (λ k => k = q) W2 w4 := H3.2.trans m4 (λ _ _ h => h)
 first | exact Iz ⟨fQ, rfl, rfl, rfl, M4⟩ | exact ⟨rfl, rfl, M4⟩ | exact ⟨rfl, M4⟩ | exact M4) : P := h
theorem PH (h : P := by
 go_in
 go_upto_region 1 with fail
 rw [HW.out]
 go_wp2_with (refine aC rfl aK _ _ rfl (w.heap.size + 1) _ rfl rfl aK _ H.2.2 Ob rfl Nz ?_; intro W5 aF aB bf)
 refine He aF.out Hy bG ?_
 exact ⟨Moves.new H.1 aB GR, _, rfl, _, _, _, rfl⟩) : P := h
theorem PI (h : P := by
 go_ret
 have G := H2.2.1.trans b3.2
 exact ⟨_, rfl, by rw [HW.out, <-IZ]; exact o3, G.below HV.out HB.1, G⟩) : P := h
theorem PL (h : P := by
 obtain rfl : i = N := GR
 have HO := hd2 hown hb
 clear hown hb
 go_wp2
 go_ret
 refine ⟨_, rfl, ?_, HO.2⟩
 have := HO.1
 rw [Je (by rw [HN.out]; omega)] at this
 rw [HW.out, HH.out]
 exact this) : P := h
theorem PO (h : P := by
 exact (((Moves.of_below B).trans mx (λ _ _ h => h)).mono (O' := λ k => k = T \/ k = g2 \/ W.heap.size <= k) (λ k hk => by rcases hk with h | h; exact Iy h; exact Iz (Iy h))).trans (ms.mono (λ k hk => Iz (Iz GR))) (λ _ _ h => h)) : P := h
theorem PP (h : P := by
 intro listed a w _ _ hr hy hI H
 refine ⟨λ h => Nj, λ j hj => ?_⟩
 by_cases hji : j = i
 ·subst hji; exact hy.wpOp hi hI ⟨λ _ => hI, H⟩
 ·have := JR hj hji
  rw [H.1] at this;cases this) : P := h
theorem PQ (h : P := by
 rw [IJ _ _ _ _ _ _ hX]
 match j, hj with
 | 0, hj => cases hj; rfl
 | 1, hj => cases hj; rfl
 | 2, hj => cases hj; rfl
 | 3, hj => cases hj; rfl
 | 4, hj => cases hj; rfl
 | n + 5, hj => cases hj) : P := h
theorem PR (h : P := by
 go_wp2_with (first
  | (go_at_call 108; refine S0.mono ?_; rintro e w1 ⟨b1, rfl⟩)
  | (go_at_call 109; refine (iL _).mono ?_; rintro e w' ⟨rfl, rfl⟩))
 exact ⟨rfl, rfl, b1⟩) : P := h
theorem PS (h : P := by
 go_wp2
 go_ret
 exact ⟨by rw [qy.out]; rfl, rfl⟩) : P := h
theorem PT (h : P := by
 go_in
 go_wp2
 refine qB 21 GQ GQ ?_
 simp only [Jt, JN, JO, JP]
 repeat still_step
 refine Kg ?_
 refine IE rfl λ K hK => ?_
 go_simp
 refine hK _ _ ?_
 simp only [wpList]
 go_end0
 exact ⟨rfl, rfl⟩) : P := h
theorem PU (h : P := by
 go_in
 go_wp2_with (first
  | (go_at_call 108; refine SC.mono ?_; rintro e w1 ⟨rfl, rfl⟩)
  | (go_at_call 109; refine (iL w).mono ?_; rintro e w1 ⟨rfl, rfl⟩))
 exact ⟨rfl, rfl, rfl⟩) : P := h
theorem PW (h : P := by
 have H2 := hd2 ho.out b2
 clear ho b2 b2'
 go_wp2
 go_roundw
 case rel => exact ⟨2 + 1, GR, by go_num, by rw [fw]; exact H2.1, H2.2⟩
 case measure => simp [intOf]) : P := h
theorem PX (h : P := by
 have H2 := hd2 ho.out b2
 clear ho b2 b2'
 go_wp2
 go_roundw
 case rel => exact ⟨3 + 1, GR, by go_num, by rw [fw]; exact H2.1, H2.2⟩
 case measure => simp [intOf]) : P := h
theorem PY (h : P := by
 refine hr.keeps (λ k hk hl => hm.block k hl ?_) (λ k hk hl => ?_)
 ·rcases hk with (hk | hk) | hk
  ·omega
  ·omega
  ·omega
 ·rcases hk with hk | hk
  ·exact hk
  ·exact Iz GR) : P := h
theorem PZ (h : P := by
 have hp' : tmps[p]?.getD undef = .pointer (some g) := by simpa using hp
 have hq' : tmps[q]?.getD undef = v := by simpa using hq
 simp [results, h, hp', hq', asAddr, KX w g t ty cs fr d hg hu hd hi]) : P := h
theorem P5 (h : P := by
 have HE := hd3 c7 k1 k2
 clear b5 h5 t5 m5 n5 hx0 sz lq B t6 c7 k1 k2
 go_wp2
 exact IK (nY (p := 4) (u := 5) rfl _ _ ⟨w.heap.size + 1 + 1, 0, none⟩ _ rfl HE.1 GQ) rfl ⟨rfl, HE.2.1, HE.2.2⟩) : P := h
theorem P6 (h : P := by
 go_wp2
 go_ret
 exact ⟨_, rfl, HO.1, HO.2⟩) : P := h
theorem P7 (h : P := by
 have h1 := hall e he hb
 rw [heq, Kh hun] at h1
 cases h1) : P := h
theorem P8 (h : P := by
 intro O O' A B k o hk hn hm ho
 have hlt : k < A.heap.size := (Jf.1 hk).1
 exact ⟨(hm.block k hlt hn).trans hk, λ e => by rcases ho k e with h | h; exact hn h; omega⟩) : P := h
theorem P9 (h : P := by
 rw [<-nC]
 exact (hka.mono (λ i hi => by rcases hi with h | h; exact Iy h; exact Iz (Iy h))).trans (BP _ (λ h => by rcases h with h | h; exact hol h; exact hnR h))) : P := h
theorem P_ (h : P := by
 go_ret
 exact ⟨_, rfl, by rw [HW.out]; exact ho.out, b3⟩) : P := h
theorem Qa (h : P := by
 go_roundw
 case rel => exact ⟨0 + 1, GR, by go_num, zZ H2.1 H2.2.1, λ h => absurd h GR, (xC H2.2.2 HR.2 (Jn k5)).trans (zY _)⟩
 case measure => simp [intOf]) : P := h
theorem Qb (h : P := by
 exact Iz ⟨b, o, cap, cc, t2, mi, h1, h2, h3, h4, (hm.block b (aa h5) hb).trans h5, h6⟩) : P := h
theorem Qc (h : P := by
 rcases h with h | ⟨b, o, cap, cs, t, fr, h1, h2, h3, h4, h5, h6⟩
 ·exact Iy h
 ·exact Iz ⟨b, o, cap, cs, t, fr, h1, h2, h3, h4, (hb.block b (aa h5)).trans h5, h6⟩) : P := h
theorem Qd (h : P := by
 intro e
 subst e
 obtain ⟨es, clock, k1, _⟩ := hm
 rw [hN.far] at k1
 cases k1) : P := h
theorem Qe (h : P := by
 rcases h with h | h
 ·exact X.1.ne.2.2 h
 ·omega) : P := h
theorem Qf (h : P := by
 generalize l.length = N at *
 go_in
 go_wp2_with (go_at_call 126; refine C1.mono ?_; rintro e w1 ⟨rfl, b1⟩)
 go_ret
 exact ⟨by rw [HR.out]; rfl, b1⟩) : P := h
theorem Qg (h : P := by
 clear h hn hcell hm e hf
 go_in
 go_wp2
 go_ret2
 exact ⟨rfl, Below.refl _ _⟩) : P := h
theorem Qh (h : P := by
 have HE := hd2 c7 k2
 clear m5 sz lq B t6 c7 k2 r4
 go_wp2
 exact IK (nY (p := 4) (u := 5) rfl _ _ ⟨w.heap.size + 1 + 1, 0, none⟩ _ rfl HE.1 GQ) rfl ⟨rfl, HE.2⟩) : P := h
theorem Qi (h : P := by
 rcases h with h | ⟨b, o, cap, cs, t, fr, h1, h2, h3, h4, h5, h6⟩
 ·exact Iy h
 ·exact Iz ⟨b, o, cap, cs, t, fr, h1, h2, h3, hF b h4 (aa h5), h5, h6⟩) : P := h
theorem Qj (h : P := by
 have b1 : -n < k.tmod n := Int.lt_tmod_of_pos _ GR
 have b2 : k.tmod n < n := Int.tmod_lt_of_pos _ GR
 go_in
 go_wp2
 go_ret
 exact ⟨by rw [<-z7m]; rfl, rfl⟩) : P := h
theorem Qk (h : P := by
 clear ho
 generalize l.length = n at *
 go_in
 go_wp2
 go_quiet (fail)
 go_wp2
 go_ret2
 refine ⟨below_drewN GY _, ?_⟩
 rw [HO.out]
 rfl) : P := h
theorem Ql (h : P := by
 rintro e w' ⟨rfl, rfl⟩
 exact ⟨_, rfl, Below.refl _ _, Iy ⟨rfl, rfl⟩⟩) : P := h
theorem Qm (h : P := by
 go_wp2
 go_ret
 exact ⟨_, rfl, HO.1, HO.2.1.below HV.out HB.1, HO.2.1⟩) : P := h
theorem Qn (h : P := by
 rintro e w' ⟨rfl, X, mx, rfl⟩
 exact ⟨rfl, ((Moves.of_below B).trans mx (λ _ _ h => h)).trans (eP X W.heap.size 0 (.bool false)) (λ i hi h => GR)⟩) : P := h
theorem Qo (h : P := by
 rcases x with ⟨rfl, rfl⟩ | ⟨b, o, cap, c, t, fr, rfl, h, h2, _⟩
 ·exact ⟨_, _, rfl, Nat.le_refl _, GV⟩
 ·exact ⟨_, _, rfl, h, h2⟩) : P := h
theorem Qp (h : P := by
 rcases hG k hk with h | h
 ·exact Iy h.1
 ·exact Iz ⟨GR, GR⟩) : P := h
theorem Qq (h : P := by
 simp only
 cases Em.eZ j r' with
 | none => rfl
 | some p => simp) : P := h
theorem Qr (h : P := by
 rw [JI] at hi
 split at hi
 ·exact hi
 ·cases hi) : P := h
theorem Qs (h : P := by
 exact ⟨rfl, rfl, rfl⟩) : P := h
theorem Qt (h : P := by
 subst hx; subst he
 refine ⟨_, _, cs, inv.step ok hs c _ hk, ?_⟩
 obtain ⟨hlt, e⟩ := IY.1 hs
 rw [<-cZ, La hlt, e, qd _ _ _ _ _ _ _ hk]) : P := h
theorem Qu (h : P := by
 exact ⟨rfl, rfl, (Moves.of_below HB.out).trans H1.out (λ _ _ h => h)⟩) : P := h
theorem Qv (h : P := by
 obtain ⟨x, _, rfl⟩ := Jl.1 hu
 rfl) : P := h
theorem Qw (h : P := by
 intro b o l h j u hj
 obtain ⟨x, hx, rfl⟩ : ∃ x, l[j]? = some x /\ bL x = u := by simpa using hj
 rw [hadd]
 exact h j x hx) : P := h
theorem Qx (h : P := by
 show (if Wm.many c = 0 then (c.toNat, (1 : Int)) else if r.length < Wm.many c then (0, 0) else _) = _
 rw [Iw hc, IA hf]) : P := h
theorem Qy (h : P := by
 unfold eD
 split
 ·exact z7k h.sec ok _
 ·split
  ·exact z1q h.sec ok
  ·exact h.sec) : P := h
theorem Qz (h : P := by
 rw [JD]
 intro y hy
 rcases Array.mem_or_eq_of_mem_setIfInBounds hy with h | h
 ·exact JD.1 ho y h
 ·rw [h]; rfl) : P := h
theorem QA (h : P := by
 go_in
 go_wp2_with (with_reducible refine NX.out.mono ?_; rintro e w1 ⟨rfl, b1⟩)
 exact ⟨rfl, rfl, Moves.of_below b1⟩) : P := h
theorem QB (h : P := by
 have hr' : tmps[r]?.getD undef = v2 := by simpa using hr
 simp [results, h, hp', hq', hr', asAddr, KX w g t ty cs fr d hg hu hd hi]) : P := h
theorem QC (h : P := by
 rw [hr] at hr2
 obtain ⟨rfl, rfl⟩ : v' = v2 /\ w' = w2 := by cases hr2; exact ⟨rfl, rfl⟩
 exact Iz (g2.lt k hk).1) : P := h
theorem QD (h : P := by
 rcases hs with hs | hs | hs
 ·omega
 ·exact ⟨hs.2.1, hs.2.2.1, hs.2.2.2.2⟩
 ·omega) : P := h
theorem QE (h : P := by
 rw [IQ W e0 t _ _ _ h.ends]
 obtain rfl | rfl | rfl | rfl : t = 0 \/ t = 1 \/ t = 2 \/ t = 3 := GR
 all_goals simp [upd]) : P := h
theorem QF (h : P := by
 have lt := h.lt
 obtain ⟨es, clock, k1, F, hs, hD⟩ := h
 exact ⟨es, clock, (hm.block m lt h1).trans k1, F, hs, hD⟩) : P := h
theorem QG (h : P := by
 rcases hk with q | q
 ·exact ⟨q.1.1, Iy ⟨q.1.2, q.2⟩⟩
 ·exact ⟨⟨GR, GR, GR⟩, Iz GR⟩) : P := h
theorem QH (h : P := by
 rcases r.keys e he with hh | ⟨hh, j, l, hj, hl⟩
 ·exact Iy hh
 ·exact Iz ⟨hh, j, l, GR, hl⟩) : P := h
theorem QI (h : P := by
 go_wp2_with (go_at_call 8; refine (WC.out _).mono ?_; rintro en wz ⟨rfl, bz⟩)
 go_ret
 exact ⟨rfl, bz⟩) : P := h
theorem QJ (h : P := by
 intro h
 rcases h with h | h
 ·exact l4 h
 ·omega) : P := h
theorem QK (h : P := by
 intro h
 rcases h with h | h
 ·exact l5 h
 ·omega) : P := h
theorem QL (h : P := by
 clear hg h64
 go_wp2
 go_ret
 exact ⟨by rw [HR.out]; rfl, HI.2.1⟩) : P := h
theorem QM (h : P := by
 rintro e w' ⟨rfl, hb⟩
 exact vV x hb) : P := h
theorem QN (h : P := by
 go_wp2
 go_ret
 exact ⟨rfl, below_drewN HB.out nq⟩) : P := h
theorem QO (h : P := by
 go_wp2
 go_ret3
 exact FIN.out) : P := h
theorem QP (h : P := by
 rcases h with ⟨_, h⟩ | h
 ·cases h
 ·exact h) : P := h
theorem QR (h : P := by
 subst e1; subst e2
 obtain ⟨rfl, hc⟩ := hc
 exact ⟨ra, rb, rfl, hg, hn, hc⟩) : P := h
theorem QS (h : P := by
 have hm : iZ w.heap m x.sec := by obtain ⟨t0, t1, t2, t3, c1, c2, _⟩ := h; exact c2
 exact absurd rfl g3) : P := h
theorem QT (h : P := by
 rcases z9d h with ⟨s, e⟩ | ⟨s, e⟩
 ·rw [e]; exact Iy ⟨s, rfl⟩
 ·rw [e]; exact Iz ⟨s, rfl⟩) : P := h
theorem QU (h : P := by
 refine ⟨v, λ w hw => ?_, hK _ h⟩
 unfold execOp
 simp only [ho, JE, hrun w hw, JF, JS, ah, and_self]) : P := h
theorem QV (h : P := by
 rintro w' ⟨x, rfl⟩
 exact fK ((x.ok.block _ (aa S3.r1)).trans S3.r1) Hu rfl (by rw [aH, S3.size])) : P := h
theorem QW (h : P := by
 rcases hv with ⟨h, _⟩ | ⟨m, h, _⟩
 ·exact ⟨_, h⟩
 ·exact ⟨_, h⟩) : P := h
theorem QX (h : P := by
 clear hnl h64
 go_wp2
 go_ret
 exact ⟨by rw [HR.out]; rfl, hb⟩) : P := h
theorem QY (h : P := by
 rintro (h | h)
 ·omega
 ·exact h.2.2.1 rfl) : P := h
theorem QZ (h : P := by
 refine ⟨keep _ (keepD d) _, ?_⟩
 rw [<-JQ _ v undef h2, <-Act.put_defers]
 exact h) : P := h
theorem Q0 (h : P := by
 rw [Iw]
 rintro ⟨⟨h, _⟩, _⟩
 cases h) : P := h
theorem Q4 (h : P := by
 have z : Em.T.none.gen = 0 := rfl
 have := h.g0
 show Em.T.none.gen + t <= g
 omega) : P := h
theorem Q5 (h : P := by
 rcases hk with hk | hk
 ·exact hk
 ·exact Iz GR) : P := h
theorem Q6 (h : P := by
 obtain rfl | rfl | rfl | rfl : t = 0 \/ t = 1 \/ t = 2 \/ t = 3 := GR
 all_goals exact ae h.ends rfl) : P := h
theorem Q7 (h : P := by
 rw [<-hW1]; have := Lv (w.alloc (.deferred (some []))) (.loop (rec .ready none)); rwa [Jk] at this) : P := h
theorem Q8 (h : P := by
 rename_i hw
 simp only [hw] at h
 exact ⟨keep a hy _, by rw [<-JQ a v undef h2]; exact h⟩) : P := h
theorem Q9 (h : P := by
 subst hji; exact hy.wpOp hi ⟨listed, hcl, (Jq.1 hr).1, hI⟩ ⟨by rw [BG hm]; exact hI, H⟩) : P := h
theorem Q_ (h : P := by
 exact Iz ⟨b, o, cap, cs, t, fr, g1, g2, g3, hF b g4 (aa g5), (hs b g4 (aa g5)).trans g5, g6⟩) : P := h
theorem Ra (h : P := by
 exact ⟨[], Iy ⟨⟨_, _, rfl⟩, rfl⟩, IV _⟩) : P := h
theorem Rb (h : P := by
 exact ⟨GR, GR, GR⟩) : P := h
theorem Rc (h : P := by
 go_end0
 exact ⟨rfl, rfl⟩) : P := h
theorem Re (h : P := by
 rw [hr] at hr2
 cases hr2
 simp only [Value.ownBlock, Jv] at hk
 exact Iz GR) : P := h
theorem Rf (h : P := by
 exact ⟨s.n.toNat, GR, GR⟩) : P := h
theorem Rh (h : P := by
 obtain ⟨va, vc, rfl⟩ := h.slice
 clear h
 go_in
 go_wp2
 go_ret2
 exact ⟨rfl, rfl⟩) : P := h
theorem Ri (h : P := by
 rcases hk with hk | hk
 ·exact Iy hk.1
 ·exact Iz ⟨GR, GR⟩) : P := h
theorem Rj (h : P := by
 simp [Leaves, settle, results, Tryz.results110, go_sem, h1]
 exact ⟨w2, r2, rfl⟩) : P := h
theorem Rk (h : P := by
 show d.waits.length <= _; omega) : P := h
theorem Rl (h : P := by
 go_ret
 exact ⟨rfl, H1.1, (Moves.of_below HB.out).trans H1.2 (λ _ _ h => h)⟩) : P := h
theorem Rm (h : P := by
 simp only [J5, KD, or_false] at hu
 rcases hu with rfl | rfl | rfl <;> rfl) : P := h
theorem Rn (h : P := by
 rcases hk with hk | hk
 ·exact Iy hk
 ·exact Iz ⟨hk.1, hl⟩) : P := h
theorem Ro (h : P := by
 exact (hm.block i (Hf h1.size) (λ e => Hf (h6 i e))).trans (h1.block i hi)) : P := h
theorem Rp (h : P := by
 simp only [Iw r]
 exact ⟨h.tp, h.gen, h.aL, h.fin, h.rows, h.few⟩) : P := h
theorem Rq (h : P := by
 rw [hw]; simp [St.done, upd, hne']) : P := h
theorem Rs (h : P := by
 rintro e w' ⟨rfl, rfl⟩
 exact ⟨rfl, Moves.refl _ _, rfl, x⟩) : P := h
theorem Rt (h : P := by
 rw [JI] at hi
 split at hi
 ·exact g4 i y hi
 ·cases hi) : P := h
theorem Ru (h : P := by
 go_end0
 exact ⟨rfl, by simpa [IZ] using q1, HW.trans s1.below⟩) : P := h
theorem Rv (h : P := by
 split
 ·rfl
 ·split <;> rfl) : P := h
theorem Rw (h : P := by
 cases k with
 | nil => exact absurd rfl h1
 | cons a k => rfl) : P := h
theorem Rx (h : P := by
 intro j u hu
 rw [addr_add, IJ _ _ _ _ _ _ hrow]
 simpa using hu) : P := h
theorem Ry (h : P := by
 obtain ⟨sv, t0, t1, t2, t3, wv, e, _, _⟩ := x
 cases e
 kernel_rfl) : P := h
theorem Rz (h : P := by
 unfold Wm.frame
 rw [IL, EY]
 have := (h_ (b.length + 4)).1
 omega) : P := h
theorem RA (h : P := by
 rw [IJ _ _ _ _ _ _ c1]; rfl) : P := h
theorem RF (h : P := by
 subst hji; exact hy.wpOp hi trivial ⟨λ h => absurd hit h, H⟩) : P := h
theorem RH (h : P := by
 rcases hk with hk | hk
 ·exact Iy hk.1
 ·exact Iz GR) : P := h
theorem RI (h : P := by
 rw [I4] at h1
 omega) : P := h
theorem RJ (h : P := by
 split
 ·simp
 ·show d.goes.1.waits.length <= _; rw [qZ]; omega) : P := h
theorem RO (h : P := by
 rw [<-h7, JI, IA GR] at this
 rw [I8]
 simpa using this) : P := h
theorem RP (h : P := by
 rw [HCM.out]
 exact iI.same (HL.1.later oQ.out) oQ.out aR rfl) : P := h
theorem RU (h : P := by
 have := lJ.out
 rw [wC, IL]
 exact this) : P := h
theorem RY (h : P := by
 clear hlt
 go_wp2
 go_ret2
 exact FIN.out) : P := h
theorem R8 (h : P := by
 rw [IA h2] at h; cases h) : P := h
theorem R_ (h : P := by
 rw [JD]
 intro x hx
 simp at hx
 rcases hx with rfl | rfl <;> rfl) : P := h
theorem Sa (h : P := by
 rcases ho i hi with e | e
 ·exact h6 i e
 ·omega) : P := h
theorem Sb (h : P := by
 rw [HT.out, <-IZ, xy.out]
 simpa [IZ] using this) : P := h
theorem Sc (h : P := by
 rcases hk with q | q
 ·exact Iy q
 ·exact Iz GR) : P := h
end Go.Proofs.YtgffifleflkjoaaGreat
set_option linter.unusedSimpArgs false
set_option linter.unusedVariables false
set_option maxRecDepth 100000
set_option maxHeartbeats 16000000
namespace Go.Proofs.YtgffifleflkjoaaGreat
open _root_.Go.Proofs.Tryz
variable {w W w' w0 wr w1 W0 W1 W2 A B : World} {F G F' O : Nat → Prop} {v : Value} {l : List UInt8} {n q m pd md pl g p : Nat} {C : Array Value} {c : Int}
open Go.RowKit
def putObj (w : World) (r : Nat) (o : Obj) : World := { w with heap := w.heap.setIfInBounds r o }
theorem x0d (w : World) (n : Nat) (o o' : Obj) (h : n = w.heap.size) : putObj (w.alloc o) n o' = w.alloc o' := by
 subst h;unfold putObj World.alloc;congr 1
 apply Md
 intro i;by_cases h : w.heap.size = i
 ·subst h; simp
 ·have h' : ¬ i = w.heap.size := λ e => h e.symm
  simp [K5, h, h', Array.getElem?_push]
def plainKey : TypeDesc -> Bool
 | .int _ | .string | .bool => true
 | _ => false
theorem y7m {P : Program} (e : Bool) (n : Nat) (kt : TypeId) (d : TypeDesc) (hk : P.underlying kt = some d) (hp : plainKey d = true) (v : Value) (w : World) :
 (Instr.checkKey e (n + 1) kt v).run P w = .ok () w := by
 cases d <;> simp [plainKey] at hp <;> simp [Instr.checkKey, J4 hk]
theorem run_checkKey_plain {P : Program} (e : Bool) (kt : TypeId) (d : TypeDesc) (hk : P.underlying kt = some d) (hp : plainKey d = true) (v : Value) (w : World) :
 (Instr.checkKey e 10000 kt v).run P w = .ok () w := y7m e 9999 kt d hk hp v w
theorem y7o {P : Program} (mt kt et : TypeId) (d : TypeDesc) (r : Nat) (es : Array MapEntry) (clock : Nat) (key val : Value)
 (hm : P.underlying mt = some (.map kt et)) (hk : P.underlying kt = some d) (hp : plainKey d = true) (hb : w.heap[r]? = some (.map es clock))
 (hf : Instr.findNow d key es.toList 0 = some none) :
 (Instr.mapUpdate mt (.map (some r)) key val).run P w = .ok () (putObj w r (.map (es.push ⟨key, val, clock⟩) (clock + 1))) := by
 have hlt : r < w.heap.size := (Jf.1 hb).1;simp only [Instr.mapUpdate, JE, J4 hm, JF];simp [getObj, Sem.run, hb, run_checkKey_plain _ _ _ hk hp, Instr.findKey, J4 hk, hf, setObj, putObj]
theorem Az {P : Program} (mt kt et : TypeId) (d : TypeDesc) (r : Nat) (es : Array MapEntry) (clock : Nat) (key z : Value) (ok : Bool) (res : Option (Nat × Value))
 (hm : P.underlying mt = some (.map kt et)) (hk : P.underlying kt = some d) (hp : plainKey d = true) (hb : w.heap[r]? = some (.map es clock))
 (hf : Instr.findNow d key es.toList 0 = some res) (hz : (zeroValue et).run P w = .ok z w) :
 (Instr.lookup mt (.map (some r)) key ok).run P w = .ok (if ok then .tuple #[(res.map (·.2)).getD z, .bool res.isSome] else (res.map (·.2)).getD z) w := by
 simp only [Instr.lookup, JE, J4 hm, JF];cases res <;> simp [getObj, Sem.run, hb, run_checkKey_plain _ _ _ hk hp, Instr.findKey, J4 hk, hf, hz]
end Go.Proofs.YtgffifleflkjoaaGreat
