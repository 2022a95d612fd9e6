/- A table that is reduced in place, and its pivots' list. Laws over whatever program. -/
import Derived.Test.YtgdcmebhopjfaaaTrM14
import Derived.Test.YtgdcmebhopjfaaaTrM6
namespace Go.Proofs.Ytgdcmebhopjfaaa
open Go.RowKit

structure RedW (w : World) (base tr tb ti G n C K : Nat) (gs cs : Nat → Nat) (M : Mt) (vp : Value) (r : Nat) (p : Nat → Nat) : Prop where
  mat : Mat w base tr tb G n C K gs cs M
  piv : w.ownsRow base ti 1 vp r (rowF r fun t => .int .i64 (p t : Int))
  pG : vp.ownBlock ≠ some G
  pg : ∀ i, i < n → vp.ownBlock ≠ some (gs i)
section
variable {w : World} {base tr tb ti G n C K : Nat} {gs cs : Nat → Nat} {M : Mt} {vp : Value} {r : Nat} {p : Nat → Nat}
theorem RedW.below {w' : World} (h : RedW w base tr tb ti G n C K gs cs M vp r p) (hb : Below w.heap.size w w') : RedW w' base tr tb ti G n C K gs cs M vp r p :=
  ⟨h.mat.below hb, own_below h.piv hb, h.pG, h.pg⟩
theorem RedW.congr {M' : Mt} (h : RedW w base tr tb ti G n C K gs cs M vp r p) (he : ∀ i, i < n → ∀ j, j < C → M i j = M' i j) : RedW w base tr tb ti G n C K gs cs M' vp r p :=
  ⟨h.mat.congr he, h.piv, h.pG, h.pg⟩
theorem RedW.set (h : RedW w base tr tb ti G n C K gs cs M vp r p) {i : Nat} (hi : i < n) (j : Nat) (x : GF) :
    RedW (w.setCell ⟨gs i, j, none⟩ (gv x)) base tr tb ti G n C K gs cs (fun a b => if a = i ∧ b = j then x else M a b) vp r p := by
  have s := h.mat.set hi j x
  refine ⟨s.1, World.ownsRow.kept h.piv s.2 ?_, h.pG, h.pg⟩
  cases hv : vp.ownBlock with
  | none => exact .inl rfl
  | some g => exact .inr fun e => h.pg i hi (by rw [hv]; exact e)
theorem RedW.setBelow {w0 : World} (h : RedW w base tr tb ti G n C K gs cs M vp r p) (hb : Below base w0 w) (hs : base ≤ w0.heap.size) {i : Nat} (hi : i < n) (j : Nat) (u : Value) : Below base w0 (w.setCell ⟨gs i, j, none⟩ u) :=
  h.mat.setBelow hb hs hi j u
theorem RedW.swap (h : RedW w base tr tb ti G n C K gs cs M vp r p) {a b : Nat} (ha : a < n) (hb : b < n) :
    RedW ((w.setCell ⟨G, a, none⟩ (hdv C gs cs b)).setCell ⟨G, b, none⟩ (hdv C gs cs a)) base tr tb ti G n C K (swp gs a b) (swp cs a b) (swapR M a b) vp r p := by
  have s1 := h.mat.top.store a (hdv C gs cs b)
  have s2 := s1.1.store b (hdv C gs cs a)
  have hne : vp.ownBlock = none ∨ vp.ownBlock ≠ some G := .inr h.pG
  refine ⟨h.mat.swap ha hb, World.ownsRow.kept (World.ownsRow.kept h.piv s1.2 hne) s2.2 hne, h.pG, fun i hi => ?_⟩
  unfold swp
  split
  · exact h.pg b hb
  · split
    · exact h.pg a ha
    · exact h.pg i hi
theorem RedW.swapBelow {w0 : World} (h : RedW w base tr tb ti G n C K gs cs M vp r p) (hb : Below base w0 w) (hs : base ≤ w0.heap.size) (a b : Nat) (u v : Value) : Below base w0 ((w.setCell ⟨G, a, none⟩ u).setCell ⟨G, b, none⟩ v) :=
  h.mat.swapBelow hb hs a b u v
/-- 'pivots = append(pivots, c)'. -/
theorem RedW.push {w' : World} {v' : Value} {o : Obj} {c : Nat} (h : RedW w base tr tb ti G n C K gs cs M vp r p) (hgr : (w.alloc o).grownBy w' vp.ownBlock)
    (hown : w'.ownsRow base ti 1 v' (r + 1) ((rowF r fun t => .int .i64 (p t : Int)) ++ [.int .i64 (c : Int)])) (hv : v'.ownBlock = vp.ownBlock ∨ v'.ownBlock = some (w.heap.size + 1)) :
    RedW w' base tr tb ti G n C K gs cs M v' (r + 1) (fun t => if t = r then c else p t) := by
  have hal : Below w.heap.size w (w.alloc o) := (Below.refl _ _).alloc (Nat.le_refl _) _
  have keep : ∀ {g' c' m' e' : Nat} {f' : Nat → Value}, Own w base e' g' m' c' f' → vp.ownBlock ≠ some g' → Own w' base e' g' m' c' f' := by
    intro g' c' m' e' f' h1 h2
    exact World.ownsRow.kept (h1.below hal) hgr (.inr fun e => h2 e.symm)
  have hlt : ∀ {g' c' m' e' : Nat} {f' : Nat → Value}, Own w base e' g' m' c' f' → vp.ownBlock ≠ some g' → v'.ownBlock ≠ some g' := by
    intro g' c' m' e' f' h1 h2
    rcases hv with hv | hv
    · rw [hv]; exact h2
    · rw [hv]; intro e
      have := h1.lt.2
      injection e with e
      omega
  refine ⟨⟨keep h.mat.top h.pG, fun i hi => keep (h.mat.row i hi) (h.pg i hi), h.mat.ne, h.mat.inj⟩, ?_, hlt h.mat.top h.pG, fun i hi => hlt (h.mat.row i hi) (h.pg i hi)⟩
  have e : rowF (r + 1) (fun t => Value.int .i64 ((if t = r then c else p t : Nat) : Int)) = (rowF r fun t => Value.int .i64 (p t : Int)) ++ [.int .i64 (c : Int)] := by
    rw [rowF_succ, if_pos rfl]
    congr 1
    exact rowF_congr fun t ht => by rw [if_neg (by omega)]
  rw [e]
  exact hown
end
/-! ### What stands in the midst of a step -/
def mulJ (M : Mt) (a : Nat) (x : GF) (j : Nat) : Mt := fun i b => if i = a ∧ b < j then M i b * x else M i b
theorem mulJ_zero (M : Mt) (a : Nat) (x : GF) : mulJ M a x 0 = M := by funext i b; unfold mulJ; rw [if_neg (by omega)]
theorem mulJ_full (M : Mt) (a : Nat) (x : GF) (C : Nat) {i b : Nat} (h : b < C) : mulJ M a x C i b = mulR M a x i b := by
  unfold mulJ mulR
  by_cases h1 : i = a
  · rw [if_pos ⟨h1, h⟩, if_pos h1]
  · rw [if_neg fun h => h1 h.1, if_neg h1]
theorem mulJ_step (M : Mt) (a : Nat) (x : GF) (j : Nat) : mulJ M a x (j + 1) = fun i b => if i = a ∧ b = j then M a j * x else mulJ M a x j i b := by
  funext i b
  unfold mulJ
  by_cases h : i = a ∧ b = j
  · obtain ⟨rfl, rfl⟩ := h
    rw [if_pos ⟨rfl, by omega⟩, if_pos ⟨rfl, rfl⟩]
  · rw [if_neg h]
    by_cases h2 : i = a ∧ b < j
    · rw [if_pos h2, if_pos ⟨h2.1, by omega⟩]
    · rw [if_neg h2, if_neg (by omega)]
theorem mulJ_at (M : Mt) (a : Nat) (x : GF) (j : Nat) : mulJ M a x j a j = M a j := by unfold mulJ; rw [if_neg (by omega)]
def offJ (M : Mt) (a : Nat) (y : GF) (k j : Nat) : Mt := fun i b => if i = k ∧ b < j then M i b + M a b * y else M i b
theorem offJ_zero (M : Mt) (a : Nat) (y : GF) (k : Nat) : offJ M a y k 0 = M := by funext i b; unfold offJ; rw [if_neg (by omega)]
theorem offJ_step (M : Mt) (a : Nat) (y : GF) (k j : Nat) : offJ M a y k (j + 1) = fun i b => if i = k ∧ b = j then M k j + M a j * y else offJ M a y k j i b := by
  funext i b
  unfold offJ
  by_cases h : i = k ∧ b = j
  · obtain ⟨rfl, rfl⟩ := h
    rw [if_pos ⟨rfl, by omega⟩, if_pos ⟨rfl, rfl⟩]
  · rw [if_neg h]
    by_cases h2 : i = k ∧ b < j
    · rw [if_pos h2, if_pos ⟨h2.1, by omega⟩]
    · rw [if_neg h2, if_neg (by omega)]
theorem offJ_at (M : Mt) (a : Nat) (y : GF) (k j : Nat) : offJ M a y k j k j = M k j := by unfold offJ; rw [if_neg (by omega)]
theorem offJ_other (M : Mt) {a : Nat} (y : GF) {k : Nat} (j b : Nat) (h : a ≠ k) : offJ M a y k j a b = M a b := by unfold offJ; rw [if_neg fun e => h e.1]
theorem offJ_full {M : Mt} {a c k C : Nat} (hne : k ≠ a) {i b : Nat} (h : b < C) : offJ (offs M a c k) a (offs M a c k k c) k C i b = offs M a c (k + 1) i b := by
  rw [offs_succ]
  unfold offJ offR
  by_cases h1 : i = k
  · subst h1
    rw [if_pos ⟨rfl, h⟩, if_pos ⟨rfl, hne⟩]
  · rw [if_neg fun e => h1 e.1, if_neg fun e => h1 e.1]
theorem offs_skip {M : Mt} {a c k : Nat} (h : k = a ∨ offs M a c k k c = 0) : offs M a c (k + 1) = offs M a c k := by
  rw [offs_succ]
  funext i b
  unfold offR
  by_cases h1 : i = k ∧ k ≠ a
  · obtain ⟨rfl, h2⟩ := h1
    rw [if_pos ⟨rfl, h2⟩]
    rcases h with h | h
    · exact absurd h h2
    · rw [h, g_mul_zero, g_add_zero]
  · rw [if_neg h1]
/-! ### The first row that has something in a column -/
theorem idx_cases {R r : Nat} (M : Mt) (c : Nat) : (∀ i, r ≤ i → i < R → M i c = 0) ∨ ∃ k, r + k < R ∧ M (r + k) c ≠ 0 ∧ ∀ j, j < k → M (r + j) c = 0 := by
  by_cases h : ∃ k, r + k < R ∧ M (r + k) c ≠ 0
  · right
    obtain ⟨k, hk⟩ := h
    have : ∃ m, m ≤ k ∧ (r + m < R ∧ M (r + m) c ≠ 0) ∧ ∀ j, j < m → ¬ (r + j < R ∧ M (r + j) c ≠ 0) := by
      induction k using Nat.strongRecOn with
      | ind k ih =>
        by_cases h2 : ∃ j, j < k ∧ (r + j < R ∧ M (r + j) c ≠ 0)
        · obtain ⟨j, hj, h3⟩ := h2
          obtain ⟨m, h4, h5⟩ := ih j hj h3
          exact ⟨m, by omega, h5⟩
        · exact ⟨k, Nat.le_refl _, hk, fun j hj h3 => h2 ⟨j, hj, h3⟩⟩
    obtain ⟨m, _, h5, h6⟩ := this
    refine ⟨m, h5.1, h5.2, fun j hj => Classical.byContradiction fun h7 => h6 j hj ⟨by omega, h7⟩⟩
  · left
    intro i hi hR
    refine Classical.byContradiction fun h2 => h ⟨i - r, by omega, ?_⟩
    rwa [show r + (i - r) = i by omega]
/-- Has the row something in column c? -/
def hasB (c : Nat) (h : Hd) : Bool := h.Z.getD c 0 != 0
theorem hasB_hds {R C : Nat} {gs cs : Nat → Nat} {M : Mt} {c i : Nat} (hc : c < C) {h : Hd} (hi : i < R) (hh : (hds R C gs cs M)[i]? = some h) : hasB c h = true ↔ M i c ≠ 0 := by
  rw [hds_get C gs cs M hi] at hh
  cases hh
  unfold hasB
  simp only
  rw [List.getD_eq_getElem?_getD, List.getElem?_map, List.getElem?_range hc]
  simp only [Option.map_some, Option.getD_some, bne_iff_ne, ne_eq]
  constructor
  · intro h e; exact h (by rw [e]; rfl)
  · intro h e; exact h (GF.ext e)
theorem idx_none {R C r : Nat} {gs cs : Nat → Nat} {M : Mt} {c : Nat} (hc : c < C) (h : ∀ i, r ≤ i → i < R → M i c = 0) : idxA (hasB c) ((hds R C gs cs M).drop r) = -1 := by
  refine idxA_none fun x hx => ?_
  obtain ⟨j, hj⟩ := List.getElem?_of_mem hx
  rw [List.getElem?_drop] at hj
  have hl := (List.getElem?_eq_some_iff.1 hj).1
  rw [hds_len] at hl
  cases hb : hasB c x with
  | false => rfl
  | true => exact absurd (h (r + j) (by omega) hl) ((hasB_hds hc hl hj).1 hb)
theorem idx_some {R C r k : Nat} {gs cs : Nat → Nat} {M : Mt} {c : Nat} (hc : c < C) (hk : r + k < R) (h : M (r + k) c ≠ 0) (h2 : ∀ j, j < k → M (r + j) c = 0) : idxA (hasB c) ((hds R C gs cs M).drop r) = k := by
  have hg : ((hds R C gs cs M).drop r)[k]? = some ⟨some ⟨gs (r + k), 0, none⟩, cs (r + k), (List.range C).map fun j => (M (r + k) j).val⟩ := by rw [List.getElem?_drop]; exact hds_get C gs cs M hk
  refine idxA_some hg ((hasB_hds hc hk (hds_get C gs cs M hk)).2 h) fun j y hj hy => ?_
  rw [List.getElem?_drop] at hy
  have hl := (List.getElem?_eq_some_iff.1 hy).1
  rw [hds_len] at hl
  cases hb : hasB c y with
  | false => rfl
  | true => exact absurd (h2 j hj) ((hasB_hds hc hl hy).1 hb)
end Go.Proofs.Ytgdcmebhopjfaaa
