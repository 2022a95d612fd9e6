/- matrix.Check and wholeref.TableErr. -/
import Derived.Test.YtgdcmebhopjfaaaRows
import Derived.Test.YtgdcmebhopjfaaaTab2
import Derived.Test.YtgdcmebhopjfaaaTrM8
namespace Go.Proofs.Ytgdcmebhopjfaaa
open Go.RowKit

/-- The error of a table. -/
def tabE (L : List (List Nat)) : Int :=
  match L with
  | [] => 2
  | r :: _ => if 12 < L.length then 2 else if r.length < 1 ∨ 12 < r.length then 2 else if L.any (fun s => decide (s.length ≠ r.length)) = true then 3 else 0
def rowNe (c : Nat) (h : Hd) : Bool := ((h.Z.length : Int) != (c : Int))
theorem rowNe_any (c : Nat) (T : List Hd) : T.any (rowNe c) = (zof T).any fun s => decide (s.length ≠ c) := by
  unfold zof
  rw [List.any_map]
  congr 1
  funext h
  unfold rowNe
  by_cases e : h.Z.length = c
  · simp [e]
  · have : ¬ (h.Z.length : Int) = (c : Int) := by omega
    simp [e, this]
def ErrPost (E : Int) (w : World) (e : Ending) (w' : World) : Prop := e = .returned (.int .i64 E) ∧ Below w.heap.size w w'

set_option maxRecDepth 20000 in
theorem matrix_Check_out (h : Hd) (b : Nat) (ao : Option Addr) (n cap : Nat) (T : List Hd) (h0 : Hd) (w : World) (hT : TabIn w ao n T) (hb : w.cell? ⟨b, 0, none⟩ = some (.slice ao n cap)) (hT0 : T[0]? = some h0) (hn : 0 < n) (hh : RowOk w h) :
    Calls Try.prog 108 #[h.v, .pointer (some ⟨b, 0, none⟩)] w fun e w' => e = .returned (.bool (rowNe h0.Z.length h)) ∧ ∃ m, w' = w.drewN m := by
  obtain ⟨x, bo, o, hx, rfl, hc, hr⟩ := hT.get hn
  rw [hT0] at hx
  injection hx with hx
  subst hx
  rw [Nat.add_zero] at hc
  have m1 := hr.cap
  have m2 := hr.max
  have m3 := hh.cap
  have m4 := hh.max
  have hn' : (0 : Int) < (n : Int) := by omega
  obtain ⟨l0, hl0⟩ : ∃ l, h0.Z.length = l := ⟨_, rfl⟩
  obtain ⟨l1, hl1⟩ : ∃ l, h.Z.length = l := ⟨_, rfl⟩
  unfold Hd.v rowNe
  rw [hl0] at hc m1 ⊢
  rw [hl1] at m3 ⊢
  clear hT hr hh hT0 hl0 hl1
  go_enter Try.func108, Try.ntmps108
  go_wp2_with fail
  go_ret
  exact ⟨rfl, 0, rfl⟩
set_option maxRecDepth 20000 in
set_option maxHeartbeats 1000000 in
theorem matrix_Check (T : List Hd) (n : Nat) (ao : Option Addr) (cap : Nat) (w : World) (hT : TabIn w ao n T) :
    Calls Try.prog 38 #[.slice ao n cap] w (ErrPost (tabE (zof T)) w) := by
  have hlen := hT.len
  have hmx := hT.max
  have hbox : Hid (Below w.heap.size w (w.alloc (.cells #[.slice ao n cap] 51))) := (Below.refl _ w).alloc (Nat.le_refl _) _
  have hT1 : Hid (TabIn (w.alloc (.cells #[.slice ao n cap] 51)) ao n T) := hT.below hbox.out
  have hbc : (w.alloc (.cells #[.slice ao n cap] 51)).cell? ⟨w.heap.size, 0, none⟩ = some (.slice ao n cap) := by simp [World.cell?_alloc_new]
  by_cases h0 : n = 0
  · subst h0
    have hE : Hid (tabE (zof T) = 2) := by
      show _ = _
      rw [List.eq_nil_of_length_eq_zero hlen]
      rfl
    clear hT hlen
    go_enter Try.func38, Try.ntmps38
    go_wp2_with fail
    go_ret
    exact ⟨by rw [hE.out]; rfl, hbox.out⟩
  · obtain ⟨x, bo, o, hx, rfl, hc, hr⟩ := hT1.out.get (show 0 < n by omega)
    rw [Nat.add_zero] at hc
    have m1 := hr.cap
    have m2 := hr.max
    have HX := Lib.hid hx
    have hE : Hid (tabE (zof T) = if 12 < n then 2 else if x.Z.length < 1 ∨ 12 < x.Z.length then 2 else if T.any (rowNe x.Z.length) = true then 3 else 0) := by
      show _ = _
      rw [rowNe_any]
      cases T with
      | nil => cases hx
      | cons y T =>
        cases hx
        rw [← hlen]
        simp only [zof, tabE, List.map_cons, List.length_cons, List.length_map]
    have hn0 : (0 : Int) < (n : Int) := by omega
    have hn1 : ¬ (n : Int) < 1 := by omega
    have hb0 : ((n : Int) == 0) = false := by simp; omega
    by_cases h12 : 12 < n
    · have hn12 : (12 : Int) < (n : Int) := by omega
      have hE2 : Hid (tabE (zof T) = 2) := by show _ = _; rw [hE.out, if_pos h12]
      clear hE hT hlen hx hr
      go_enter Try.func38, Try.ntmps38
      go_wp2_with fail
      go_ret
      exact ⟨by rw [hE2.out]; rfl, hbox.out⟩
    · have hn12 : ¬ (12 : Int) < (n : Int) := by omega
      by_cases hr1 : x.Z.length < 1 ∨ 12 < x.Z.length
      · have hE2 : Hid (tabE (zof T) = 2) := by show _ = _; rw [hE.out, if_neg h12, if_pos hr1]
        obtain ⟨l0, hl0⟩ : ∃ l, x.Z.length = l := ⟨_, rfl⟩
        rw [hl0] at hc m1 hr1
        clear hE hT hlen hx hr hl0
        rcases Nat.lt_or_ge l0 1 with h1 | h1
        · have hl1 : (l0 : Int) < 1 := by omega
          have hl3 : ((l0 : Int) == 0) = true := by simp; omega
          go_enter Try.func38, Try.ntmps38
          go_wp2_with fail
          go_ret
          exact ⟨by rw [hE2.out]; rfl, hbox.out⟩
        · have hl1 : ¬ (l0 : Int) < 1 := by omega
          have hl3 : ((l0 : Int) == 0) = false := by simp; omega
          have hl2 : (12 : Int) < (l0 : Int) := by omega
          go_enter Try.func38, Try.ntmps38
          go_wp2_with fail
          go_ret
          exact ⟨by rw [hE2.out]; rfl, hbox.out⟩
      · have hE2 : Hid (tabE (zof T) = if T.any (rowNe x.Z.length) = true then 3 else 0) := by show _ = _; rw [hE.out, if_neg h12, if_neg hr1]
        have hl1 : ¬ (x.Z.length : Int) < 1 := by omega
        have hl2 : ¬ (12 : Int) < (x.Z.length : Int) := by omega
        have hl3 : ((x.Z.length : Int) == 0) = false := beq_eq_false_iff_ne.2 (by omega)
        have CF := Lib.hid (containsFunc_tab 108 #[.pointer (some ⟨w.heap.size, 0, none⟩)] (fun x W => by go_simp) (rowNe x.Z.length) T n (some ⟨bo, o, none⟩) cap _ hT1 hmx (Lib.hid fun h hh m => by
          have hd : Below (World.heap (w.alloc (.cells #[.slice (some ⟨bo, o, none⟩) n cap] 51))).size (w.alloc (.cells #[.slice (some ⟨bo, o, none⟩) n cap] 51)) ((w.alloc (.cells #[.slice (some ⟨bo, o, none⟩) n cap] 51)).drewN m) := below_dr _ _ _
          exact (matrix_Check_out h w.heap.size (some ⟨bo, o, none⟩) n cap T x _ (hT1.out.below hd) hbc hx (by omega) ((hT1.out.rows h hh).below hd)).mono (by rintro e w' ⟨rfl, k, rfl⟩; exact ⟨rfl, k, rfl⟩)))
        obtain ⟨l0, hl0⟩ : ∃ l, x.Z.length = l := ⟨_, rfl⟩
        rw [hl0] at hc m1 hl1 hl2 hl3 CF hE2
        clear hE hT hlen hx hr hl0 hr1
        cases hany : T.any (rowNe l0) with
        | true =>
          rw [hany] at CF
          rw [if_pos hany] at hE2
          clear hany
          go_enter Try.func38, Try.ntmps38
          go_wp2_with (go_at_call 106; refine CF.out.mono ?_; rintro e w' ⟨rfl, k, rfl⟩)
          go_ret
          exact ⟨by rw [hE2.out]; rfl, below_drewN hbox.out _⟩
        | false =>
          rw [hany] at CF
          rw [if_neg (by rw [hany]; decide)] at hE2
          clear hany
          go_enter Try.func38, Try.ntmps38
          go_wp2_with (go_at_call 106; refine CF.out.mono ?_; rintro e w' ⟨rfl, k, rfl⟩)
          go_ret
          exact ⟨by rw [hE2.out]; rfl, below_drewN hbox.out _⟩

set_option maxRecDepth 20000 in
theorem wholeref_TableErr_out (h : Hd) (b : Nat) (ao : Option Addr) (n cap : Nat) (T : List Hd) (h0 : Hd) (w : World) (hT : TabIn w ao n T) (hb : w.cell? ⟨b, 0, none⟩ = some (.slice ao n cap)) (hT0 : T[0]? = some h0) (hn : 0 < n) (hh : RowOk w h) :
    Calls Try.prog 107 #[h.v, .pointer (some ⟨b, 0, none⟩)] w fun e w' => e = .returned (.bool (rowNe h0.Z.length h)) ∧ ∃ m, w' = w.drewN m := by
  obtain ⟨x, bo, o, hx, rfl, hc, hr⟩ := hT.get hn
  rw [hT0] at hx
  injection hx with hx
  subst hx
  rw [Nat.add_zero] at hc
  have m1 := hr.cap
  have m2 := hr.max
  have m3 := hh.cap
  have m4 := hh.max
  have hn' : (0 : Int) < (n : Int) := by omega
  obtain ⟨l0, hl0⟩ : ∃ l, h0.Z.length = l := ⟨_, rfl⟩
  obtain ⟨l1, hl1⟩ : ∃ l, h.Z.length = l := ⟨_, rfl⟩
  unfold Hd.v rowNe
  rw [hl0] at hc m1 ⊢
  rw [hl1] at m3 ⊢
  clear hT hr hh hT0 hl0 hl1
  go_enter Try.func107, Try.ntmps107
  go_wp2_with fail
  go_ret
  exact ⟨rfl, 0, rfl⟩
set_option maxRecDepth 20000 in
set_option maxHeartbeats 1000000 in
theorem wholeref_TableErr (T : List Hd) (n : Nat) (ao : Option Addr) (cap : Nat) (w : World) (hT : TabIn w ao n T) :
    Calls Try.prog 37 #[.slice ao n cap] w (ErrPost (tabE (zof T)) w) := by
  have hlen := hT.len
  have hmx := hT.max
  have hbox : Hid (Below w.heap.size w (w.alloc (.cells #[.slice ao n cap] 51))) := (Below.refl _ w).alloc (Nat.le_refl _) _
  have hT1 : Hid (TabIn (w.alloc (.cells #[.slice ao n cap] 51)) ao n T) := hT.below hbox.out
  have hbc : (w.alloc (.cells #[.slice ao n cap] 51)).cell? ⟨w.heap.size, 0, none⟩ = some (.slice ao n cap) := by simp [World.cell?_alloc_new]
  by_cases h0 : n = 0
  · subst h0
    have hE : Hid (tabE (zof T) = 2) := by
      show _ = _
      rw [List.eq_nil_of_length_eq_zero hlen]
      rfl
    clear hT hlen
    go_enter Try.func37, Try.ntmps37
    go_wp2_with fail
    go_ret
    exact ⟨by rw [hE.out]; rfl, hbox.out⟩
  · obtain ⟨x, bo, o, hx, rfl, hc, hr⟩ := hT1.out.get (show 0 < n by omega)
    rw [Nat.add_zero] at hc
    have m1 := hr.cap
    have m2 := hr.max
    have HX := Lib.hid hx
    have hE : Hid (tabE (zof T) = if 12 < n then 2 else if x.Z.length < 1 ∨ 12 < x.Z.length then 2 else if T.any (rowNe x.Z.length) = true then 3 else 0) := by
      show _ = _
      rw [rowNe_any]
      cases T with
      | nil => cases hx
      | cons y T =>
        cases hx
        rw [← hlen]
        simp only [zof, tabE, List.map_cons, List.length_cons, List.length_map]
    have hn0 : (0 : Int) < (n : Int) := by omega
    have hn1 : ¬ (n : Int) < 1 := by omega
    have hb0 : ((n : Int) == 0) = false := by simp; omega
    by_cases h12 : 12 < n
    · have hn12 : (12 : Int) < (n : Int) := by omega
      have hE2 : Hid (tabE (zof T) = 2) := by show _ = _; rw [hE.out, if_pos h12]
      clear hE hT hlen hx hr
      go_enter Try.func37, Try.ntmps37
      go_wp2_with fail
      go_ret
      exact ⟨by rw [hE2.out]; rfl, hbox.out⟩
    · have hn12 : ¬ (12 : Int) < (n : Int) := by omega
      by_cases hr1 : x.Z.length < 1 ∨ 12 < x.Z.length
      · have hE2 : Hid (tabE (zof T) = 2) := by show _ = _; rw [hE.out, if_neg h12, if_pos hr1]
        obtain ⟨l0, hl0⟩ : ∃ l, x.Z.length = l := ⟨_, rfl⟩
        rw [hl0] at hc m1 hr1
        clear hE hT hlen hx hr hl0
        rcases Nat.lt_or_ge l0 1 with h1 | h1
        · have hl1 : (l0 : Int) < 1 := by omega
          have hl3 : ((l0 : Int) == 0) = true := by simp; omega
          go_enter Try.func37, Try.ntmps37
          go_wp2_with fail
          go_ret
          exact ⟨by rw [hE2.out]; rfl, hbox.out⟩
        · have hl1 : ¬ (l0 : Int) < 1 := by omega
          have hl3 : ((l0 : Int) == 0) = false := by simp; omega
          have hl2 : (12 : Int) < (l0 : Int) := by omega
          go_enter Try.func37, Try.ntmps37
          go_wp2_with fail
          go_ret
          exact ⟨by rw [hE2.out]; rfl, hbox.out⟩
      · have hE2 : Hid (tabE (zof T) = if T.any (rowNe x.Z.length) = true then 3 else 0) := by show _ = _; rw [hE.out, if_neg h12, if_neg hr1]
        have hl1 : ¬ (x.Z.length : Int) < 1 := by omega
        have hl2 : ¬ (12 : Int) < (x.Z.length : Int) := by omega
        have hl3 : ((x.Z.length : Int) == 0) = false := beq_eq_false_iff_ne.2 (by omega)
        have CF := Lib.hid (containsFunc_tab 107 #[.pointer (some ⟨w.heap.size, 0, none⟩)] (fun x W => by go_simp) (rowNe x.Z.length) T n (some ⟨bo, o, none⟩) cap _ hT1 hmx (Lib.hid fun h hh m => by
          have hd : Below (World.heap (w.alloc (.cells #[.slice (some ⟨bo, o, none⟩) n cap] 51))).size (w.alloc (.cells #[.slice (some ⟨bo, o, none⟩) n cap] 51)) ((w.alloc (.cells #[.slice (some ⟨bo, o, none⟩) n cap] 51)).drewN m) := below_dr _ _ _
          exact (wholeref_TableErr_out h w.heap.size (some ⟨bo, o, none⟩) n cap T x _ (hT1.out.below hd) hbc hx (by omega) ((hT1.out.rows h hh).below hd)).mono (by rintro e w' ⟨rfl, k, rfl⟩; exact ⟨rfl, k, rfl⟩)))
        obtain ⟨l0, hl0⟩ : ∃ l, x.Z.length = l := ⟨_, rfl⟩
        rw [hl0] at hc m1 hl1 hl2 hl3 CF hE2
        clear hE hT hlen hx hr hl0 hr1
        cases hany : T.any (rowNe l0) with
        | true =>
          rw [hany] at CF
          rw [if_pos hany] at hE2
          clear hany
          go_enter Try.func37, Try.ntmps37
          go_wp2_with (go_at_call 106; refine CF.out.mono ?_; rintro e w' ⟨rfl, k, rfl⟩)
          go_ret
          exact ⟨by rw [hE2.out]; rfl, below_drewN hbox.out _⟩
        | false =>
          rw [hany] at CF
          rw [if_neg (by rw [hany]; decide)] at hE2
          clear hany
          go_enter Try.func37, Try.ntmps37
          go_wp2_with (go_at_call 106; refine CF.out.mono ?_; rintro e w' ⟨rfl, k, rfl⟩)
          go_ret
          exact ⟨by rw [hE2.out]; rfl, below_drewN hbox.out _⟩
end Go.Proofs.Ytgdcmebhopjfaaa
