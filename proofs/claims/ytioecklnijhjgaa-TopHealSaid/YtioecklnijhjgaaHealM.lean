/- TopHeal: the plain law. What is made of the pieces of a text, one of them missing, is the text; a store that has lost one node's pieces is mended. -/
import Derived.Test.YtioecklnijhjgaaStoreM
namespace Go.Proofs.Ytioecklnijhjgaa
open Go.RowKit

theorem byteS_left {a b : ByteArray} {k : Nat} (h : k < a.size) : byteS (a ++ b) k = byteS a k := by
  unfold byteS
  have e : (a ++ b).data.toList = a.data.toList ++ b.data.toList := by rw [ByteArray.data_append, Array.toList_append]
  rw [e, List.getD_eq_getElem?_getD, List.getD_eq_getElem?_getD, List.getElem?_append_left (by simpa using h)]
theorem ext_left (a b : ByteArray) : (a ++ b).extract 0 a.size = a := by
  apply ByteArray.ext
  apply Array.toList_inj.1
  rw [ByteArray.data_extract, ByteArray.data_append]
  simp
  have : a.size = a.data.toList.length := by simp
  rw [this, List.take_length]
theorem ext_right (a b : ByteArray) : (a ++ b).extract a.size (a.size + b.size) = b := by
  apply ByteArray.ext
  apply Array.toList_inj.1
  rw [ByteArray.data_extract, ByteArray.data_append]
  simp
  have h1 : a.size = a.data.toList.length := by simp
  have h2 : b.size = b.data.toList.length := by simp
  rw [h1, List.drop_length, h2, List.take_length]
  simp
theorem headS_piece (T m : Nat) (f : Nat → Nat) : headS (pieceS T m f) = strOf (bodyL T m f) := by
  unfold headS
  have hs := pieceS_size T m f
  have hb : (strOf (bodyL T m f)).size = m + 1 := by rw [strOf_size, bodyL_len]
  rw [hs, show m + 5 - 4 = (strOf (bodyL T m f)).size by rw [hb]; omega]
  exact ext_left _ _
theorem tailS_piece (T m : Nat) (f : Nat → Nat) : tailS (pieceS T m f) = strOf (fourL (crcN (strOf (bodyL T m f)))) := by
  unfold tailS
  have hs := pieceS_size T m f
  have hb : (strOf (bodyL T m f)).size = m + 1 := by rw [strOf_size, bodyL_len]
  have h4 : (strOf (fourL (crcN (strOf (bodyL T m f))))).size = 4 := by rw [strOf_size]; rfl
  have e := ext_right (strOf (bodyL T m f)) (strOf (fourL (crcN (strOf (bodyL T m f)))))
  rw [hb, h4] at e
  rw [hs]
  exact e
theorem bodyL_lt {T m : Nat} {f : Nat → Nat} (hT : T < 256) (hf : ∀ i, f i < 256) : ∀ c ∈ bodyL T m f, c < 256 := by
  intro c hc
  unfold bodyL at hc
  rcases List.mem_cons.1 hc with rfl | hc
  · exact hT
  · obtain ⟨i, _, rfl⟩ := List.mem_map.1 hc; exact hf i
theorem byteS_piece0 {T m : Nat} {f : Nat → Nat} (hT : T < 256) (hf : ∀ i, f i < 256) : byteS (pieceS T m f) 0 = T := by
  unfold pieceS
  rw [byteS_left (by rw [strOf_size, bodyL_len]; omega), strOf_get (by rw [bodyL_len]; omega) (bodyL_lt hT hf)]
  rfl
theorem byteS_piece1 {T m : Nat} {f : Nat → Nat} (hT : T < 256) (hf : ∀ i, f i < 256) {i : Nat} (hi : i < m) : byteS (pieceS T m f) (1 + i) = f i := by
  unfold pieceS
  rw [byteS_left (by rw [strOf_size, bodyL_len]; omega), strOf_get (by rw [bodyL_len]; omega) (bodyL_lt hT hf)]
  unfold bodyL
  rw [Nat.add_comm, List.getD_eq_getElem?_getD, List.getElem?_cons_succ]
  simp [hi]
theorem pieceE_piece {T k : Nat} {f : Nat → Nat} (hT : T ≤ 60) (hf : ∀ i, f i < 256) (hk : 1 ≤ k) (hk2 : k ≤ 10) : pieceE (pieceS T (sizeN T k) f) (k : Int) = 0 := by
  unfold pieceE
  rw [if_neg (by omega), if_neg (by rw [pieceS_size]; omega)]
  rw [if_neg (by
    intro h
    apply h
    rw [tailS_piece]
    unfold fourS
    rw [headS_piece])]
  rw [if_neg (by
    rw [byteS_piece0 (by omega) hf, pieceS_size]
    simp only [Int.toNat_natCast]
    omega)]
theorem pieceE_empty {k : Nat} (hk : 1 ≤ k) (hk2 : k ≤ 10) : pieceE ByteArray.empty (k : Int) ≠ 0 := by
  unfold pieceE
  rw [if_neg (by omega), if_pos (by simp)]
  decide
theorem rowP_of' {B : Nat → GF} {l : List Nat} {k : Nat} {f : GF → GF} (hf : PolyF k f) (hk : k ≤ l.length) (hn : l.Nodup) (hl : ∀ a ∈ l, a < 256) (h : ∀ a ∈ l, f (gf a) = B a) (x : GF) : rowP B l k x = f x :=
  lag_uniq gfld hf _ _ (fun i j hi hj hij => atP_ne hn hl i j (by omega) (by omega) hij) (fun j hj => h _ (getD_mem (by omega))) x
theorem gf_of_val (x : GF) : gf x.val = x := by
  exact GF.ext (gf_val x.lt)
/-- What is made of so many pieces. -/
theorem join_pieces {text : ByteArray} {n k : Nat} {ss : List ByteArray} {H : Nat → Bool} (ht : text.size ≤ 60) (hk : 1 ≤ k) (hkn : k ≤ n) (hn : n ≤ 10) (hyes : ∀ i, i < n → H i = true → sAt ss i = pcs text k i) (hno : ∀ i, i < n → H i = false → sAt ss i = ByteArray.empty)
    (hcnt : k ≤ (pl H n).length) : JoinIs ss n (k : Int) text 0 := by
  have hus : ∀ i, i < n → usB ss (k : Int) i = H i := by
    intro i hi
    unfold usB
    cases h : H i with
    | true =>
      rw [hyes i hi h]
      exact decide_eq_true (pieceE_piece ht (fun j => pcF_lt _ _ _ _) hk (by omega))
    | false =>
      rw [hno i hi h]
      exact decide_eq_false (pieceE_empty hk (by omega))
  have hgood : goodJ ss (k : Int) n = pl H n := by
    unfold goodJ pl
    apply List.filter_congr
    intro i hi
    exact hus i (List.mem_range.1 hi)
  have hfirst : ∀ a ∈ pl H n, firstB ss a = text.size := by
    intro a ha
    obtain ⟨h1, h2⟩ := mem_pl.1 ha
    unfold firstB
    rw [hyes a h1 h2]
    exact byteS_piece0 (by omega) (fun j => pcF_lt _ _ _ _)
  have hne : pl H n ≠ [] := by intro h; rw [h] at hcnt; simp at hcnt; omega
  have hlen : lenT ss (k : Int) n = text.size := by
    unfold lenT
    rw [hgood]
    cases hp : pl H n with
    | nil => exact absurd hp hne
    | cons a t => exact hfirst a (by rw [hp]; simp)
  have hm : lenM ss (k : Int) n = sizeN text.size k := by unfold lenM; rw [hlen]; rfl
  have hrow : ∀ i, i < sizeN text.size k → ∀ x, rowP (bJ ss (k : Int) i) (pl H n) k x = lag gf (ysP text (sizeN text.size k) i) k x := by
    intro i hi x
    refine rowP_of' (lag_poly gfld _ _ k) hcnt (pl_nodup _ _) (fun a ha => by have := (mem_pl.1 ha).1; omega) (fun a ha => ?_) x
    obtain ⟨h1, h2⟩ := mem_pl.1 ha
    unfold bJ
    rw [hus a h1, h2, if_pos rfl, hyes a h1 h2]
    unfold pcs
    rw [byteS_piece1 (by omega) (fun j => pcF_lt _ _ _ _) hi]
    unfold pcF
    rw [gf_of_val]
  refine .inr (.inr (.inr (.inr ⟨?_, ?_, ?_, ?_, ?_, rfl⟩)))
  · unfold rightB; simp; omega
  · intro a ha
    rw [hgood] at ha
    rw [hfirst a ha, hlen]
  · rw [hgood]; exact hcnt
  · intro i hi
    rw [hm] at hi
    unfold fitJ
    rw [hgood]
    intro a ha hu
    show rowP (bJ ss (k : Int) i) (pl H n) k (gf a) = _
    rw [hrow i hi]
    rw [hus a ha] at hu
    unfold bJ
    rw [hus a ha, hu, if_pos rfl, hyes a ha hu]
    unfold pcs
    rw [byteS_piece1 (by omega) (fun j => pcF_lt _ _ _ _) hi]
    unfold pcF
    rw [gf_of_val]
  · rw [hlen, ← bytesOf_self (s := text) rfl]
    rw [bytesOf_size]
    symm
    apply bytesOf_congr
    intro p hp
    have hp2 : p < text.size := hp
    have hmul := size_mul (T := text.size) hk
    have hm0 : 0 < sizeN text.size k := by
      rcases Nat.eq_zero_or_pos (sizeN text.size k) with h0 | h0
      · rw [h0] at hmul; omega
      · exact h0
    have hpk : p / sizeN text.size k < k := by
      rw [Nat.div_lt_iff_lt_mul hm0, Nat.mul_comm]; omega
    unfold textJ
    rw [hm]
    unfold rowJ
    rw [hgood]
    show (rowP _ (pl H n) k _).val = _
    rw [hrow _ (Nat.mod_lt _ hm0), lag_at gfld gf _ hpk (fun i j hi hj hij e => hij (gf_inj (by omega) (by omega) e))]
    unfold ysP datP
    have e : p / sizeN text.size k * sizeN text.size k + p % sizeN text.size k = p := Nat.div_add_mod' _ _
    rw [e, if_pos hp2]
    show byteS text p % 256 = _
    exact Nat.mod_eq_of_lt (byteS_lt _ _)
end Go.Proofs.Ytioecklnijhjgaa
