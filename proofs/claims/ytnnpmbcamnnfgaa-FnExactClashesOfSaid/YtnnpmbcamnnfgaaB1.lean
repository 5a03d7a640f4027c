/- A readable point and a readable label are read as the structures Point and Label; two closed facts on the program; no condition. -/
import Derived.Test.YtnnpmbcamnnfgaaLib
import Derived.Test.YtnnpmbcamnnfgaaA1
import Derived.Test.YtnnpmbcamnnfgaaOpen
namespace Go.Proofs.Ytnnpmbcamnnfgaa
open Go.RowKit Go.ChangeShapes Go.WideShapes Go.ChangeAt Go.Deep
theorem Try.own : ownKnob Try.prog.godebug = none := by kernel_rfl
theorem Try.laidOut : laidOutB Try.prog = true := by kernel_rfl
theorem opens_Point : Opens Try.prog 70 Point := by
  intro H enc w fuel cs x h
  obtain ⟨xs, m, _, _, hl, hxl, hf⟩ := DataW.trod_struct Try.underlying70 h
  have hc : Try.prog.cellsOf 70 = 2 := by kernel_rfl
  rw [hc] at hl
  have q0 : Try.prog.cellsOf 2 = 1 := by kernel_rfl
  have f0 : DataW.trod enc Try.prog w 0 (fun _ => true) true m 2 ((cs.drop 0).take (Try.prog.cellsOf 2)) = xs[0]? := hf 0 _ rfl
  rw [q0] at f0
  obtain ⟨a0, k0, r0⟩ := opens_int Try.underlying2 H enc w m _ _ (f0.trans (List.getElem?_eq_getElem (by rw [hxl]; decide)))
  have e0 : cs.drop 0 = [.int .i64 a0] ++ cs.drop 1 := by
    have r : (cs.drop 0).take 1 = [.int .i64 a0] := r0
    rw [← r]; exact chop cs 0 1
  have q1 : Try.prog.cellsOf 2 = 1 := by kernel_rfl
  have f1 : DataW.trod enc Try.prog w 0 (fun _ => true) true m 2 ((cs.drop 1).take (Try.prog.cellsOf 2)) = xs[1]? := hf 1 _ rfl
  rw [q1] at f1
  obtain ⟨a1, k1, r1⟩ := opens_int Try.underlying2 H enc w m _ _ (f1.trans (List.getElem?_eq_getElem (by rw [hxl]; decide)))
  have e1 : cs.drop 1 = [.int .i64 a1] ++ cs.drop 2 := by
    have r : (cs.drop 1).take 1 = [.int .i64 a1] := r1
    rw [← r]; exact chop cs 1 1
  have en : cs.drop 2 = [] := List.drop_eq_nil_of_le (by omega)
  have ez : cs = cs.drop 0 := by simp
  exact ⟨⟨a0, a1⟩, ⟨k0, k1⟩, ez.trans (by rw [e0, e1, en]; rfl)⟩
theorem opens_Label : Opens Try.prog 72 Label := by
  intro H enc w fuel cs x h
  obtain ⟨xs, m, _, _, hl, hxl, hf⟩ := DataW.trod_struct Try.underlying72 h
  have hc : Try.prog.cellsOf 72 = 4 := by kernel_rfl
  rw [hc] at hl
  have q0 : Try.prog.cellsOf 70 = 2 := by kernel_rfl
  have f0 : DataW.trod enc Try.prog w 0 (fun _ => true) true m 70 ((cs.drop 0).take (Try.prog.cellsOf 70)) = xs[0]? := hf 0 _ rfl
  rw [q0] at f0
  obtain ⟨a0, k0, r0⟩ := opens_Point H enc w m _ _ (f0.trans (List.getElem?_eq_getElem (by rw [hxl]; decide)))
  have e0 : cs.drop 0 = [.int .i64 a0.X, .int .i64 a0.Y] ++ cs.drop 2 := by
    have r : (cs.drop 0).take 2 = [.int .i64 a0.X, .int .i64 a0.Y] := r0
    rw [← r]; exact chop cs 0 2
  have q1 : Try.prog.cellsOf 2 = 1 := by kernel_rfl
  have f1 : DataW.trod enc Try.prog w 0 (fun _ => true) true m 2 ((cs.drop 2).take (Try.prog.cellsOf 2)) = xs[1]? := hf 1 _ rfl
  rw [q1] at f1
  obtain ⟨a1, k1, r1⟩ := opens_int Try.underlying2 H enc w m _ _ (f1.trans (List.getElem?_eq_getElem (by rw [hxl]; decide)))
  have e1 : cs.drop 2 = [.int .i64 a1] ++ cs.drop 3 := by
    have r : (cs.drop 2).take 1 = [.int .i64 a1] := r1
    rw [← r]; exact chop cs 2 1
  have q2 : Try.prog.cellsOf 2 = 1 := by kernel_rfl
  have f2 : DataW.trod enc Try.prog w 0 (fun _ => true) true m 2 ((cs.drop 3).take (Try.prog.cellsOf 2)) = xs[2]? := hf 2 _ rfl
  rw [q2] at f2
  obtain ⟨a2, k2, r2⟩ := opens_int Try.underlying2 H enc w m _ _ (f2.trans (List.getElem?_eq_getElem (by rw [hxl]; decide)))
  have e2 : cs.drop 3 = [.int .i64 a2] ++ cs.drop 4 := by
    have r : (cs.drop 3).take 1 = [.int .i64 a2] := r2
    rw [← r]; exact chop cs 3 1
  have en : cs.drop 4 = [] := List.drop_eq_nil_of_le (by omega)
  have ez : cs = cs.drop 0 := by simp
  exact ⟨⟨a0.X, a0.Y, a1, a2⟩, ⟨k0.1, k0.2, k1, k2⟩, ez.trans (by rw [e0, e1, e2, en]; rfl)⟩
end Go.Proofs.Ytnnpmbcamnnfgaa
