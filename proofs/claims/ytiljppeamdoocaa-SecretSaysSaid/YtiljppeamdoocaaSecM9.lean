/- Append of one element onto a row of the call's own, at a step of a region that draws its order. A law over whatever program. -/
import Derived.Test.YtiljppeamdoocaaSecM0
import Derived.Test.YtiljppeamdoocaaSecM8
namespace Go.Proofs.Ytiljppeamdoocaa
open Go.RowKit

theorem step_app_one {P : Program} {W : World} {ops : Array Oper} {o : Oper} {a : Act} {K : Act → World → Prop} {Q : Exit → Act → World → Prop} {E : Prop} (hgd : o.guard = none) (s x : Operand) (t : TypeId)
    (ho : o.op = .call { callee := .builtin .append, args := #[s, x], argTypes := #[t, t] })
    (base : Nat) (e : TypeId) (z : Value) (size bytes : Nat) (ht : P.underlying t = some (.slice e)) (hE : ElemRow P e z size bytes)
    (v : Value) (n : Nat) (xs : List Value) (hs : a.eval s = v) (w0 : World) (hown : w0.ownsRow base e size v n xs)
    (wb : World) (hb : Below base wb w0) (hbs : base ≤ wb.heap.size) (hW : Below w0.heap.size w0 W)
    (q : Nat) (us : Array Value) (hx : a.eval x = .slice (some ⟨q, 0, none⟩) 1 1) (hq : W.heap[q]? = some (.cells us e)) (hlen : us.size = size) (h1 : ∀ u ∈ us.toList, u.oneCell' = true)
    (h63 : n + 1 ≤ maxLen) (hbytes : (n + 1) * bytes ≤ 140737488355328)
    (h : ∀ v' w', w'.ownsRow base e size v' (n + 1) (xs ++ us.toList) → Below base wb w' → K (a.put o.dst v') w') :
    if Region.wanted o (yielded ops a.tmps) = true then Oper.wp P o a W K Q else E := by
  obtain ⟨i, hi, hz, hsize, hby, hzs, hsz1⟩ := hE
  have hownW := own_below hown hW
  have hbW : Below base wb W := hb.trans (Below.mono hW hb.size |>.mono (by omega))
  refine step_append_lies W hgd s x t ho base e i z size bytes ht hi hz hsize hby hzs hsz1 v n xs hs hownW ⟨q, 0, none⟩ 1 1 us.toList hx (by simp [hlen]) (World.news_of_block hq) h1 (by omega) h63 hbytes (Nat.le_trans hbs hbW.size) W.heap.size rfl ?_
  intro g cap w' hown' hgr hat hlt
  exact h _ w' hown' (hbW.grown hgr (Nat.le_trans hbs hbW.size) fun k hk => (hown.lt k hk).1)
end Go.Proofs.Ytiljppeamdoocaa
namespace Go.Proofs.Ytiljppeamdoocaa
open Go.RowKit

theorem own_data2 {w : World} {base e size : Nat} {v : Value} {n : Nat} {xs : List Value} (h : w.ownsRow base e size v n xs) : ∃ ao cap, v = .slice ao n cap ∧ Reads w ao xs ∧ (ao = none → n = 0 ∧ cap = 0) ∧ n ≤ cap ∧ cap ≤ 9223372036854775807 := by
  obtain ⟨ao, cap, hv, hR, hn, _⟩ := own_reads h
  refine ⟨ao, cap, hv, hR, hn, ?_⟩
  rcases h.2 with ⟨h1, h2⟩ | ⟨g, cp, cur, hv3, h2⟩
  · rw [h1] at hv
    injection hv with e1 e2 e3
    omega
  · rw [hv3] at hv
    injection hv with e1 e2 e3
    have := h2.2.2.1
    have := h2.2.2.2.1
    unfold maxLen at *
    omega
theorem Reads.drew1 {w : World} {ao : Option Addr} {xs : List Value} (h : Reads w ao xs) : Reads w.drew ao xs := h
noncomputable def joinV (p : Int) (l : Pts) : Int := if joinE p l = 0 then ptsV p l 0 else 0
theorem secret_Join' (p : Int) (l : Pts) (n : Nat) (ao : Option Addr) (cap : Nat) (w : World) (hp : (Lit.int .i64 p).wf = true) (hl : l.length = n) (h63 : n ≤ 9223372036854775807) (hc : n ≤ cap) (hR : Hid (Reads w ao (cells2 (l.map pV)))) :
    Calls Try.prog 20 #[.int .i64 p, .slice ao n cap] w fun e w' => e = .returned (.tuple #[.int .i64 (joinV p l), .int .i64 (joinE p l)]) ∧ Below w.heap.size w w' := by
  refine (secret_Join p l n ao cap w hp hl h63 hc hR).mono ?_
  rintro e w' ⟨hb, ⟨h0, rfl⟩ | ⟨h0, rfl⟩⟩
  · exact ⟨by unfold joinV; rw [if_pos h0, h0], hb⟩
  · exact ⟨by unfold joinV; rw [if_neg h0], hb⟩
theorem join_ways1 {p : Int} {l : Pts} (h : ptsE p l ≠ 0) : joinE p l = ptsE p l ∧ joinV p l = 0 := by
  have e : joinE p l = ptsE p l := by unfold joinE; rw [if_pos h]
  exact ⟨e, by unfold joinV; rw [e, if_neg h]⟩
theorem join_ways2 {p : Int} {l : Pts} (h : ptsE p l = 0) (h2 : l.length = 0) : joinE p l = 9 ∧ joinV p l = 0 := by
  have e : joinE p l = 9 := by unfold joinE; rw [if_neg (by omega), if_pos h2]
  exact ⟨e, by unfold joinV; rw [e, if_neg (by omega)]⟩
theorem join_ways3 {p : Int} {l : Pts} (h : ptsE p l = 0) (h2 : 0 < l.length) (h3 : l.any (fun y => y.1 == 0) = true) : joinE p l = 1 ∧ joinV p l = 0 := by
  have e : joinE p l = 1 := by unfold joinE; rw [if_neg (by omega), if_neg (by omega), if_pos h3]
  exact ⟨e, by unfold joinV; rw [e, if_neg (by omega)]⟩
theorem join_ways4 {p : Int} {l : Pts} (h : ptsE p l = 0) (h2 : 0 < l.length) (h3 : l.any (fun y => y.1 == 0) = false) : joinE p l = 0 ∧ joinV p l = ptsV p l 0 := by
  have e : joinE p l = 0 := by unfold joinE; rw [if_neg (by omega), if_neg (by omega), if_neg (by rw [h3]; simp)]
  exact ⟨e, by unfold joinV; rw [if_pos e]⟩
theorem law_zero (y : Int × Int) (w : World) :
    Calls Try.prog 52 #[pA y] w fun e w' => e = .returned (.bool (y.1 == 0)) ∧ Below w.heap.size w w' := by
  have hb := Lib.hid ((Below.refl w.heap.size w).alloc (Nat.le_refl _) (.cells #[.int .i64 y.1, .int .i64 y.2] 71))
  go_enter Try.func52, Try.ntmps52
  go_wp2_with fail
  go_ret
  exact ⟨rfl, hb.out⟩
theorem law_out (x p : Int) (b : Nat) (w : World) (hc : w.cell? ⟨b, 0, none⟩ = some (.int .i64 p)) :
    Calls Try.prog 54 #[.int .i64 x, .pointer (some ⟨b, 0, none⟩)] w fun e w' => e = .returned (.bool (outF p x)) ∧ w' = w := by
  go_enter Try.func54, Try.ntmps54
  unfold outF
  cases h : decide (x < 0) with
  | true =>
    go_wp2_with fail
    go_ret
    exact ⟨by simp, rfl⟩
  | false =>
    go_wp2_with fail
    go_ret
    exact ⟨by simp, rfl⟩
theorem dealL_succ (p : Int) (f : List Int) (i : Nat) : dealL p f (i + 1) = dealL p f i ++ [dealP p f i] := by simp [dealL, List.range_succ]
theorem dealL_length (p : Int) (f : List Int) (n : Nat) : (dealL p f n).length = n := by simp [dealL]
theorem cells2_append (a b : List (Value × Value)) : cells2 (a ++ b) = cells2 a ++ cells2 b := by unfold cells2; rw [List.flatMap_append]
/-- The ways in which Deal's arguments are wrong. -/
theorem deal_ways {p s : Int} {tape : List Int} {n : Int} (h : dealE p s tape n ≠ 0) :
    (fldE p = 1 ∧ dealE p s tape n = 1) ∨ (fldE p = 0 ∧ 11 < tape.length ∧ dealE p s tape n = 2) ∨
    (fldE p = 0 ∧ ¬ 11 < tape.length ∧ dealE p s tape n = 1 ∧ (decide (n < 0) = true ∨ (decide (n < 0) = false ∧ decide (12 < n) = true) ∨ (decide (n < 0) = false ∧ decide (12 < n) = false ∧ decide (p ≤ n) = true) ∨ (decide (n < 0) = false ∧ decide (12 < n) = false ∧ decide (p ≤ n) = false ∧ decide (s < 0) = true) ∨
      (decide (n < 0) = false ∧ decide (12 < n) = false ∧ decide (p ≤ n) = false ∧ decide (s < 0) = false ∧ decide (p ≤ s) = true) ∨ (decide (n < 0) = false ∧ decide (12 < n) = false ∧ decide (p ≤ n) = false ∧ decide (s < 0) = false ∧ decide (p ≤ s) = false ∧ tape.any (outF p) = true))) := by
  rcases fldE_cases p with ⟨hf, _⟩ | hf
  · by_cases h12 : 11 < tape.length
    · exact .inr (.inl ⟨hf, h12, by unfold dealE; rw [hf, if_neg (by omega), if_pos h12]⟩)
    · refine .inr (.inr ⟨hf, h12, ?_⟩)
      by_cases hn : n < 0 ∨ 12 < n ∨ p ≤ n
      · refine ⟨by unfold dealE; rw [hf, if_neg (by omega), if_neg h12, if_pos hn], ?_⟩
        simp only [decide_eq_true_eq, decide_eq_false_iff_not]
        omega
      · have e : dealE p s tape n = if (s :: tape).any (outF p) = true then 1 else 0 := by unfold dealE; rw [hf, if_neg (by omega), if_neg h12, if_neg hn]
        have ha : (s :: tape).any (outF p) = true := by
          by_cases ha : (s :: tape).any (outF p) = true
          · exact ha
          · rw [e, if_neg ha] at h; exact absurd rfl h
        refine ⟨by rw [e, if_pos ha], ?_⟩
        rw [List.any_cons] at ha
        have e1 : decide (n < 0) = false := by simp; omega
        have e2 : decide (12 < n) = false := by simp; omega
        have e3 : decide (p ≤ n) = false := by simp; omega
        rw [e1, e2, e3]
        unfold outF at ha
        cases h1 : decide (s < 0)
        · cases h2 : decide (p ≤ s)
          · rw [h1, h2] at ha
            have : tape.any (outF p) = true := by unfold outF; simpa using ha
            simp [this]
          · simp
        · simp
  · exact .inl ⟨hf, by unfold dealE; rw [if_pos hf]⟩
theorem deal_good {p s : Int} {tape : List Int} {n : Int} (h : dealE p s tape n = 0) : fldE p = 0 ∧ 2 ≤ p ∧ p ≤ 997 ∧ IsPr p.toNat ∧ tape.length ≤ 11 ∧ 0 ≤ n ∧ n ≤ 12 ∧ n < p ∧ 0 ≤ s ∧ s < p ∧ InF p tape ∧ tape.any (outF p) = false := by
  unfold dealE at h
  rcases fldE_cases p with ⟨hf, h1, h2, h3⟩ | hf
  · rw [hf, if_neg (by omega)] at h
    split at h
    · omega
    · split at h
      · omega
      · split at h
        · omega
        · rename_i ha
          have ha' : (s :: tape).any (outF p) = false := by simpa using ha
          rw [List.any_cons, Bool.or_eq_false_iff] at ha'
          have hs := ha'.1
          unfold outF at hs
          simp at hs
          exact ⟨hf, h1, h2, h3, by omega, by omega, by omega, by omega, by omega, by omega, inF_of_any ha'.2, ha'.2⟩
  · rw [if_pos hf] at h; omega
end Go.Proofs.Ytiljppeamdoocaa
