/-
  The program's cellText and CellText: a replacer is made, builds its table once, replaces. Conditions: bounds; the tables of unicode utf8 stand in memory.
-/
import Derived.Test.YtobpecgecopdnaaGreatDoorReplDo
import Derived.Test.YtobpecgecopdnaaGreatDoorOnce
import Derived.Test.YtobpecgecopdnaaGreatDoorCellS
namespace Go.Proofs.YtobpecgecopdnaaGreatDoor
open Go.RowKit
set_option linter.unusedVariables false
set_option linter.unusedSimpArgs false

theorem upon_method {P : Program} {o : Oper} {a : Act} {K : Act → World → Prop} {Q : Exit → Act → World → Prop} {n : Nat} {t : TypeId} {v v' : Value} {nm : String} {u : World} {f : FuncId × Value → World → Result Next} {g : FuncId}
    (h : Sem.run P (method n t v nm) u = .ok (g, v') u) (k : Oper.upon P o a K Q (f (g, v') u)) : Oper.upon P o a K Q ((Sem.run P (method n t v nm) u).andThen f) := by
  rw [h]
  exact k
/-- a replacer in block b, not yet built: its strings in block h -/
structure Rep0 (w : World) (b h c : Nat) (x : Int) : Prop where
  c0 : w.cell? ⟨b, 0, none⟩ = some (.int .u32 0)
  c1 : w.cell? ⟨b, 1, none⟩ = some (.int .i32 x)
  c3 : ∃ v, w.cell? ⟨b, 3, none⟩ = some v
  c4 : w.cell? ⟨b, 4, none⟩ = some (.slice (some ⟨h, 0, none⟩) 8 c)
  free : ∀ k, k < 5 → w.frozen? ⟨b, k, none⟩ = false
  strs : ∀ j u, escS[j]? = some u → w.cell? ⟨h, j, none⟩ = some u
  ne : b ≠ h
theorem Rep0.set1 {w : World} {b h c : Nat} {x : Int} (r : Rep0 w b h c x) (y : Int) : Rep0 (w.setCell ⟨b, 1, none⟩ (.int .i32 y)) b h c y := by
  obtain ⟨c0, c1, ⟨v, c3⟩, c4, fr, st, ne⟩ := r
  refine ⟨?_, World.cell?_setCell_same' _ _ _ (by rw [c1]; rfl), ⟨v, ?_⟩, ?_, fun k hk => by rw [World.frozen?_setCell]; exact fr k hk, fun j u hj => ?_, ne⟩
  · rw [World.cell?_setCell_other _ _ _ _ (by rintro ⟨⟩)]; exact c0
  · rw [World.cell?_setCell_other _ _ _ _ (by rintro ⟨⟩)]; exact c3
  · rw [World.cell?_setCell_other _ _ _ _ (by rintro ⟨⟩)]; exact c4
  · rw [World.cell?_setCell_other _ _ _ _ (fun e => ne (congrArg Addr.block e))]; exact st j u hj

set_option maxRecDepth 20000 in
theorem buildOnce_any (b h c : Nat) (x : Int) (w : World) (r : Rep0 w b h c x) :
    Calls Tryz.prog 37 #[.pointer (some ⟨b, 0, none⟩)] w fun e w' => e = .returned (.tuple #[]) ∧ w'.cell? ⟨b, 0, none⟩ = some (.int .u32 0) ∧ w'.cell? ⟨b, 1, none⟩ = some (.int .i32 x) ∧ w'.frozen? ⟨b, 0, none⟩ = false ∧ w'.frozen? ⟨b, 1, none⟩ = false ∧
      ∃ d, BsrM w.heap.size d 4 w' ∧ w'.cell? ⟨b, 3, none⟩ = some (.iface 108 (.pointer (some ⟨d, 0, none⟩))) ∧ Mostly b w w' := by
  obtain ⟨c0, c1, ⟨v3, c3⟩, c4, fr, st, ne⟩ := r
  have hbl := cell_lt c0
  have f0 := fr 0 (by omega)
  have f1 := fr 1 (by omega)
  have f3 := fr 3 (by omega)
  have f4 := fr 4 (by omega)
  have HB := Lib.hid (build_any b h c w c4 st)
  clear st fr
  go_enter Tryz.func37, Tryz.ntmps37
  go_wp2_with fail
  refine HB.out.mono ?_
  rintro e w1 ⟨d, rfl, hbm, hb1⟩
  have HB1 := Lib.hid hb1
  have HBM := Lib.hid hbm
  have hd := hbm.lo
  have k0 : w1.cell? ⟨b, 0, none⟩ = some (.int .u32 0) := by rw [hb1.cell (p := ⟨b, 0, none⟩) hbl]; exact c0
  have k1 : w1.cell? ⟨b, 1, none⟩ = some (.int .i32 x) := by rw [hb1.cell (p := ⟨b, 1, none⟩) hbl]; exact c1
  have k3 : w1.cell? ⟨b, 3, none⟩ = some v3 := by rw [hb1.cell (p := ⟨b, 3, none⟩) hbl]; exact c3
  have k4 : w1.cell? ⟨b, 4, none⟩ = some (.slice (some ⟨h, 0, none⟩) 8 c) := by rw [hb1.cell (p := ⟨b, 4, none⟩) hbl]; exact c4
  have g0 : w1.frozen? ⟨b, 0, none⟩ = false := by rw [hb1.frozen (p := ⟨b, 0, none⟩) hbl]; exact f0
  have g1 : w1.frozen? ⟨b, 1, none⟩ = false := by rw [hb1.frozen (p := ⟨b, 1, none⟩) hbl]; exact f1
  have g3 : w1.frozen? ⟨b, 3, none⟩ = false := by rw [hb1.frozen (p := ⟨b, 3, none⟩) hbl]; exact f3
  have g4 : w1.frozen? ⟨b, 4, none⟩ = false := by rw [hb1.frozen (p := ⟨b, 4, none⟩) hbl]; exact f4
  clear hb1 hbm c0 c1 c3 c4 f0 f1 f3 f4
  go_wp2
  go_end0
  refine ⟨rfl, ?_, ?_, ?_, ?_, d, ?_, ?_, ?_⟩
  · rw [World.cell?_setCell_other _ _ _ _ (by rintro ⟨⟩), World.cell?_setCell_other _ _ _ _ (by rintro ⟨⟩)]; exact k0
  · rw [World.cell?_setCell_other _ _ _ _ (by rintro ⟨⟩), World.cell?_setCell_other _ _ _ _ (by rintro ⟨⟩)]; exact k1
  · rw [World.frozen?_setCell, World.frozen?_setCell]; exact g0
  · rw [World.frozen?_setCell, World.frozen?_setCell]; exact g1
  · exact (HBM.out.most ((Mostly.set _ b 3 _).setCell 4 _) (by omega))
  · rw [World.cell?_setCell_other _ _ _ _ (by rintro ⟨⟩), World.cell?_setCell_same' _ _ _ (by rw [k3]; rfl)]
  · exact (Mostly.of_below HB1.out).trans ((Mostly.set _ b 3 _).setCell 4 _)

set_option maxRecDepth 20000 in
set_option maxHeartbeats 1000000 in
theorem replReplace_any (b h c : Nat) (s : ByteArray) (w : World) (r : Rep0 w b h c 0) (hs : s.size ≤ 1000000) :
    Calls Tryz.prog 26 #[.pointer (some ⟨b, 0, none⟩), .string s] w fun e w' => e = .returned (.string (ofL (clL (bs s)))) ∧ Mostly b w w' := by
  have hmf : ∀ (fn : Fn) (first cap : Array Value) (w : World), (Instr.makeFunc fn first cap).run Tryz.prog w = .ok (.func fn first cap) w := fun _ _ _ _ => rfl
  have hbl := cell_lt r.c0
  have hm1 := Mostly.set w b 1 (.int .i32 1)
  have HD := Lib.hid (onceDo_any b (fun u => ∃ d, BsrM w.heap.size d 4 u ∧ u.cell? ⟨b, 3, none⟩ = some (.iface 108 (.pointer (some ⟨d, 0, none⟩))) ∧ Mostly b w u) w r.c0 r.c1 (r.free 1 (by omega)) ((buildOnce_any b h c 1 _ (r.set1 1)).mono fun e w' hh => by
    obtain ⟨h1, h2, h3, h4, h5, d, h6, h7, h8⟩ := hh
    have e : (w.setCell ⟨b, 1, none⟩ (.int .i32 1)).heap.size = w.heap.size := by simp [World.setCell]
    rw [e] at h6
    exact ⟨h1, h2, h3, h4, h5, d, h6, h7, hm1.trans h8⟩))
  obtain ⟨c0, c1, -, -, fr, -, -⟩ := r
  have f0 := fr 0 (by omega)
  have f1 := fr 1 (by omega)
  clear fr
  go_enter Tryz.func26, Tryz.ntmps26
  go_wp2_with fail
  refine HD.out.mono ?_
  rintro e w1 ⟨rfl, u, ⟨d, hbm, k3, hmo⟩, rfl⟩
  have hm2 := ((Mostly.set u.drew b 0 (.int .u32 1)).setCell 1 (.int .i32 0))
  have kk : ((u.drew.setCell ⟨b, 0, none⟩ (.int .u32 1)).setCell ⟨b, 1, none⟩ (.int .i32 0)).cell? ⟨b, 3, none⟩ = some (.iface 108 (.pointer (some ⟨d, 0, none⟩))) := by
    rw [World.cell?_setCell_other _ _ _ _ (by rintro ⟨⟩), World.cell?_setCell_other _ _ _ _ (by rintro ⟨⟩), World.cell?_drew]; exact k3
  generalize ((u.drew.setCell ⟨b, 0, none⟩ (.int .u32 1)).setCell ⟨b, 1, none⟩ (.int .i32 0)) = u2 at *
  go_wp2_with fail
  refine upon_method (g := 111) (v' := .pointer (some ⟨d, 0, none⟩)) (by kernel_rfl) ?_
  go_wp2_with fail
  have hlo : b < w.heap.size := hbl
  have hus := hmo.size
  have hmu : Mostly b u u2 := ⟨hm2.os, hm2.tape, hm2.output, hm2.size, hm2.block⟩
  refine (bsrReplace_any w.heap.size d s u2 (hbm.most hmu hlo) hs).mono ?_
  rintro e w3 ⟨rfl, hb3⟩
  have HM := Lib.hid ((hmo.trans hmu).call hb3)
  clear hmu hm2 hbm hmo hb3
  go_wp2
  go_ret
  exact ⟨rfl, HM.out⟩
set_option maxRecDepth 20000 in
set_option maxHeartbeats 1000000 in
theorem cellText_any (s : ByteArray) (w : World) (hs : s.size ≤ 1000000) :
    Calls Tryz.prog 14 #[.string s] w fun e w' => e = .returned (.string (ofL (clL (bs s)))) ∧ Below w.heap.size w w' := by
  have hnews := ownsRow_news (World.ownsRow_lit (base := w.heap.size) (e := 9) (size := 1) w escS.toArray 8 (Nat.le_refl _) (by unfold maxLen; omega) (by decide))
  have HN := Lib.hid (newReplacer_any w.heap.size escS (w.alloc (.cells escS.toArray 9)) rfl hnews (fun u hu => by
    unfold escS at hu
    simp at hu
    rcases hu with rfl | rfl | rfl | rfl | rfl | rfl | rfl | rfl
    all_goals rfl))
  have HA := Lib.hid ((Below.refl w.heap.size w).alloc (Nat.le_refl _) (.cells escS.toArray 9))
  have has : (w.alloc (.cells escS.toArray 9)).heap.size = w.heap.size + 1 := by simp
  clear hnews
  go_enter Tryz.func14, Tryz.ntmps14
  go_wp2_with fail
  refine HN.out.mono ?_
  rintro e w1 ⟨b, h, c, rfl, hb1, hlo, hne, hown, hz⟩
  have HB1 := Lib.hid (HA.out.trans (hb1.mono HA.out.size))
  have hc : ∀ k u, (#[Value.int .u32 0, .int .i32 0, .int .u32 0, .nilIface, .slice (some ⟨h, 0, none⟩) 8 c] : Array Value)[k]? = some u → w1.cell? ⟨b, k, none⟩ = some u := fun k u hk => cell_of_blk hz hk
  have hf : ∀ k, k < 5 → w1.frozen? ⟨b, k, none⟩ = false := fun k hk => by unfold World.frozen?; rw [hz]; simp
  have HR := Lib.hid (replReplace_any b h c s w1 ⟨hc 0 _ rfl, hc 1 _ rfl, ⟨_, hc 3 _ rfl⟩, hc 4 _ rfl, hf, fun j u hj => by
    have := hown.cellAt j (by have := (List.getElem?_eq_some_iff.1 hj).1; exact this)
    rw [this]; exact hj, hne⟩ hs)
  have hlo2 : w.heap.size ≤ b := by omega
  have hsz := HB1.out.size
  clear hb1 hown hz hc hf
  go_wp2_with fail
  refine HR.out.mono ?_
  rintro e w2 ⟨rfl, hm⟩
  have HM := Lib.hid (HB1.out.trans (hm.below hlo2 hsz))
  clear hm
  go_wp2
  go_ret
  exact ⟨rfl, HM.out⟩
end Go.Proofs.YtobpecgecopdnaaGreatDoor
