/- An irreducible monic polynomial of each degree: a table, checked by trial division. (Its table is printed by wip/tools/gen_irr.py.) -/
import Derived.Test.YtmeffbooabionaaIrrC
set_option linter.unusedVariables false
set_option linter.unusedSimpArgs false
namespace Go.Proofs.Ytmeffbooabionaa
open Go.RowKit

/-! ### Trial division that the kernel runs -/
noncomputable def frc {α : Type} (v : Nat) (k : Nat → α) : α := Nat.casesOn v (k 0) (fun m => k (m + 1))
/-- One step of long division, high coefficients first. -/
noncomputable def zs (p a : Nat) (G : List Nat) : List Nat → List Nat :=
  List.rec (motive := fun _ => List Nat → List Nat) (fun L => L) (fun b _ ih L => List.casesOn L [] fun x L' => frc ((x + (p - b) * a) % p) fun v => v :: ih L') G
noncomputable def dv (p : Nat) (G : List Nat) (m : Nat) : List Nat → List Nat :=
  Nat.rec (motive := fun _ => List Nat → List Nat) (fun L => L) (fun _ ih L => List.casesOn L [] fun a L' => ih (zs p a G L')) m
noncomputable def hiD (p d k : Nat) : List Nat :=
  Nat.rec (motive := fun _ => List Nat) [] (fun i ih => frc (k / p ^ i % p) fun v => v :: ih) d
noncomputable def nz (L : List Nat) : Bool := List.rec (motive := fun _ => Bool) false (fun x _ ih => Nat.casesOn x ih (fun _ => true)) L
noncomputable def chkD (p n d : Nat) (F : List Nat) (m : Nat) : Bool :=
  Nat.rec (motive := fun _ => Bool) true (fun j ih => cond (nz (dv p (hiD p d j) (n + 1 - d) F)) ih false) m
noncomputable def chkN (p n : Nat) (F : List Nat) (m : Nat) : Bool :=
  Nat.rec (motive := fun _ => Bool) true (fun d ih => cond (chkD p n (d + 1) F (p ^ (d + 1))) ih false) m
noncomputable def chkW (p n k : Nat) : Bool := cond (Nat.ble (k + 1) (p ^ n)) (chkN p n (1 :: hiD p n k) (n / 2)) false
noncomputable def allW (l : List (Nat × Nat × Nat)) : Bool := List.rec (motive := fun _ => Bool) true (fun e _ ih => cond (chkW e.1 e.2.1 e.2.2) ih false) l
def witT0 : List (Nat × Nat × Nat) :=
  [(2, 2, 3), (3, 2, 1), (5, 2, 2), (7, 2, 1), (11, 2, 1), (13, 2, 2), (17, 2, 3), (19, 2, 1), (23, 2, 1), (29, 2, 2), (31, 2, 1), (37, 2, 2), (41, 2,
  3), (43, 2, 1), (47, 2, 1), (53, 2, 2), (59, 2, 1), (61, 2, 2), (67, 2, 1), (71, 2, 1), (73, 2, 5), (79, 2, 1), (83, 2, 1), (89, 2, 3), (97, 2, 5),
  (101, 2, 2), (103, 2, 1), (107, 2, 1), (109, 2, 2), (113, 2, 3), (127, 2, 1), (131, 2, 1), (137, 2, 3), (139, 2, 1), (149, 2, 2), (151, 2, 1), (157,
  2, 2), (163, 2, 1), (167, 2, 1), (173, 2, 2), (179, 2, 1), (181, 2, 2), (191, 2, 1), (193, 2, 5), (197, 2, 2), (199, 2, 1), (211, 2, 1), (223, 2, 1),
  (227, 2, 1), (229, 2, 2), (233, 2, 3), (239, 2, 1), (241, 2, 7), (251, 2, 1), (257, 2, 3), (263, 2, 1), (269, 2, 2), (271, 2, 1), (277, 2, 2), (281,
  2, 3), (283, 2, 1), (293, 2, 2), (307, 2, 1), (311, 2, 1), (313, 2, 5), (317, 2, 2), (331, 2, 1), (337, 2, 5), (347, 2, 1), (349, 2, 2), (353, 2, 3),
  (359, 2, 1), (367, 2, 1), (373, 2, 2), (379, 2, 1), (383, 2, 1), (389, 2, 2), (397, 2, 2), (401, 2, 3), (409, 2, 7), (419, 2, 1), (421, 2, 2), (431,
  2, 1), (433, 2, 5), (439, 2, 1), (443, 2, 1), (449, 2, 3), (457, 2, 5), (461, 2, 2), (463, 2, 1), (467, 2, 1), (479, 2, 1), (487, 2, 1), (491, 2, 1),
  (499, 2, 1), (503, 2, 1), (509, 2, 2), (521, 2, 3), (523, 2, 1), (541, 2, 2), (547, 2, 1), (557, 2, 2), (563, 2, 1), (569, 2, 3), (571, 2, 1), (577,
  2, 5), (587, 2, 1), (593, 2, 3), (599, 2, 1), (601, 2, 7)]
def witT1 : List (Nat × Nat × Nat) :=
  [(607, 2, 1), (613, 2, 2), (617, 2, 3), (619, 2, 1), (631, 2, 1), (641, 2, 3), (643, 2, 1), (647, 2, 1), (653, 2, 2), (659, 2, 1), (661, 2, 2), (673,
  2, 5), (677, 2, 2), (683, 2, 1), (691, 2, 1), (701, 2, 2), (709, 2, 2), (719, 2, 1), (727, 2, 1), (733, 2, 2), (739, 2, 1), (743, 2, 1), (751, 2, 1),
  (757, 2, 2), (761, 2, 3), (769, 2, 7), (773, 2, 2), (787, 2, 1), (797, 2, 2), (809, 2, 3), (811, 2, 1), (821, 2, 2), (823, 2, 1), (827, 2, 1), (829,
  2, 2), (839, 2, 1), (853, 2, 2), (857, 2, 3), (859, 2, 1), (863, 2, 1), (877, 2, 2), (881, 2, 3), (883, 2, 1), (887, 2, 1), (907, 2, 1), (911, 2, 1),
  (919, 2, 1), (929, 2, 3), (937, 2, 5), (941, 2, 2), (947, 2, 1), (953, 2, 3), (967, 2, 1), (971, 2, 1), (977, 2, 3), (983, 2, 1), (991, 2, 1), (997,
  2, 2)]
def witT2 : List (Nat × Nat × Nat) :=
  [(2, 3, 3), (3, 3, 7), (5, 3, 6), (7, 3, 2), (11, 3, 15), (13, 3, 2), (17, 3, 20), (19, 3, 2), (23, 3, 26), (29, 3, 33), (31, 3, 3), (37, 3, 2), (41,
  3, 42), (43, 3, 3), (47, 3, 51), (53, 3, 58), (59, 3, 60), (61, 3, 2), (67, 3, 2), (71, 3, 72), (73, 3, 2), (79, 3, 2), (83, 3, 88), (89, 3, 93), (97,
  3, 2), (2, 4, 3), (3, 4, 5), (5, 4, 2), (7, 4, 8), (11, 4, 13), (13, 4, 2), (17, 4, 3), (19, 4, 27), (23, 4, 25), (29, 4, 2), (31, 4, 32), (2, 5, 5),
  (3, 5, 7), (5, 5, 21), (7, 5, 10), (11, 5, 2), (13, 5, 54), (2, 6, 3), (3, 6, 5), (5, 6, 7), (7, 6, 2), (2, 7, 3), (3, 7, 11), (5, 7, 6), (7, 7, 43),
  (2, 8, 27), (3, 8, 11), (5, 8, 2), (2, 9, 3), (3, 9, 64), (2, 10, 9), (3, 10, 19), (2, 11, 5), (3, 11, 11), (2, 12, 9), (3, 12, 11), (2, 13, 27), (2,
  14, 33), (2, 15, 3), (2, 16, 43), (2, 17, 9), (2, 18, 9), (2, 19, 39)]

set_option maxRecDepth 1000000 in
set_option maxHeartbeats 0 in
theorem wit0_ok : allW witT0 = true := by decide +kernel
set_option maxRecDepth 1000000 in
set_option maxHeartbeats 0 in
theorem wit1_ok : allW witT1 = true := by decide +kernel
set_option maxRecDepth 1000000 in
set_option maxHeartbeats 0 in
theorem wit2_ok : allW witT2 = true := by decide +kernel
def witT : List (Nat × Nat × Nat) := witT0 ++ (witT1 ++ witT2)
def smallPr (p : Nat) : Bool := Nat.ble 2 p && [2, 3, 5, 7, 11, 13, 17, 19, 23, 29, 31].all fun q => Nat.beq p q || !(Nat.beq (p % q) 0)
noncomputable def hasW (p n : Nat) (l : List (Nat × Nat × Nat)) : Bool := List.rec (motive := fun _ => Bool) false (fun e _ ih => cond (Nat.beq e.1 p && Nat.beq e.2.1 n) true ih) l
noncomputable def hasA (p : Nat) (m : Nat) : Bool :=
  Nat.rec (motive := fun _ => Bool) true (fun n ih => cond (Nat.ble n 1 || !(Nat.ble (p ^ n) 1000000) || hasW p n witT) ih false) m
noncomputable def hasP (m : Nat) : Bool :=
  Nat.rec (motive := fun _ => Bool) true (fun p ih => cond (!(smallPr p) || hasA p 20) ih false) m
set_option maxRecDepth 1000000 in
set_option maxHeartbeats 0 in
theorem wit_all : hasP 998 = true := by decide +kernel
end Go.Proofs.Ytmeffbooabionaa
