/- Hash trees: one level up, seen from the loops. Plain laws. -/
import Derived.Test.YtkincmkmkfiglaaTreeM
namespace Go.Proofs.Ytkincmkmkfiglaa
set_option linter.unusedSectionVars false

section
variable (node : Nat → Nat → Nat)
def topOf (l : List Nat) : Nat := topF node l.length l
def wayOf (l : List Nat) (k : Nat) : List Nat := wayF node l.length l k
theorem len_pow4 {n : Nat} (h : n ≤ 16) : n ≤ 2 ^ 4 := h
theorem topOf_up {l : List Nat} (h : 2 ≤ l.length) (h2 : l.length ≤ 16) : topOf node (upL node l) = topOf node l := by
  have a := lev_top node l.length l 5 (by omega) (by omega) (by omega)
  have hu := upL_length node l
  have b := lev_top node (upL node l).length (upL node l) 4 (by omega) (by omega) (by omega)
  have c : levL node 5 l = levL node 4 (upL node l) := rfl
  rw [c, b] at a
  exact List.head_eq_of_cons_eq a
theorem topOf_one (a : Nat) : topOf node [a] = a := rfl
theorem wayOf_up {l : List Nat} {k : Nat} (h : 2 ≤ l.length) (h2 : l.length ≤ 16) (hk : k < l.length) :
    wayOf node l k = (if k ^^^ 1 < l.length then [l.getD (k ^^^ 1) 0] else []) ++ wayOf node (upL node l) (k / 2) := by
  have hu := upL_length node l
  have a := way_eq node l.length l k 5 hk (by omega) (by omega)
  have b := way_eq node (upL node l).length (upL node l) (k / 2) 4 (by omega) (by omega) (by omega)
  unfold wayOf
  rw [← a, ← b]
  rfl
theorem wayOf_one (a : Nat) : wayOf node [a] 0 = [] := rfl
def chk (n k x : Nat) (p : List Nat) : Option Nat := fin1 (chkJ node 4 n k x p)
theorem cdiv_one (i : Nat) : ∀ (n : Nat), 1 ≤ n → n ≤ 2 ^ i → cdiv i n = 1 := by
  induction i with
  | zero => intro n h1 h2; simp at h2; show n = 1; omega
  | succ i ih =>
    intro n h1 h2
    rw [Nat.pow_succ] at h2
    exact ih _ (by omega) (by omega)
theorem chk_five {n k x : Nat} {p : List Nat} (h2 : n ≤ 16) (hk : k < n) : chkJ node 5 n k x p = chkJ node 4 n k x p := by
  rw [chkJ_add node 4 1, cdiv_one 4 n (by omega) (by omega), Nat.div_eq_of_lt (show k < 2 ^ 4 by omega)]
  cases chkJ node 4 n k x p with
  | none => rfl
  | some s => obtain ⟨y, q⟩ := s; rw [Option.bind_some, chkJ_single]
theorem chk_up {n k x : Nat} {p : List Nat} (h : 2 ≤ n) (h2 : n ≤ 16) (hk : k < n) : chk node n k x p =
    if k ^^^ 1 < n then (match p with | [] => none | q :: r => chk node ((n + 1) / 2) (k / 2) (if k % 2 = 0 then node x q else node q x) r)
    else chk node ((n + 1) / 2) (k / 2) x p := by
  unfold chk
  rw [← chk_five node h2 hk]
  have e : ∀ J, chkJ node (J + 1) n k x p = if k ^^^ 1 < n then (match p with | [] => none | q :: r => chkJ node J ((n + 1) / 2) (k / 2) (if k % 2 = 0 then node x q else node q x) r)
      else chkJ node J ((n + 1) / 2) (k / 2) x p := fun J => rfl
  rw [e 4]
  split
  · cases p <;> rfl
  · rfl
theorem chk_one (x : Nat) (p : List Nat) : chk node 1 0 x p = if p = [] then some x else none := by
  unfold chk
  rw [chkJ_single]
  cases p <;> rfl
def comes (n k x : Nat) (p : List Nat) : Nat × Bool := comesF node n n k x p
theorem comes_chk {n k x : Nat} {p : List Nat} (h2 : n ≤ 16) (hk : k < n) : fin2 (comes node n k x p) = chk node n k x p :=
  comes_eq node n n k 4 x p hk (Nat.le_refl _) h2
end
theorem fin2_is (r : Nat × Bool) (a : Nat) : (r.2 && r.1 == a) = (fin2 r == some a) := by
  obtain ⟨x, b⟩ := r
  cases b
  · rfl
  · show (x == a) = (some x == some a)
    rfl
end Go.Proofs.Ytkincmkmkfiglaa
