/- package store: Do at one node; Do where it refuses. -/
import Derived.Test.YtmgfbmkfomebcaaGreatDoorDkM18
set_option linter.unusedVariables false
set_option linter.unusedSimpArgs false
set_option maxRecDepth 100000
set_option maxHeartbeats 4000000
namespace Go.Proofs.YtmgfbmkfomebcaaGreatDoor
open Go.RowKit
theorem JL{w:World}{base:Nat}{Av:Nat->Prop}{n k wr0 r b nb:Nat}{V:Nat->Nat->Value}{st:St}(kind key m:Int)(text:ByteArray)(hkind:kind=4\/kind=5\/kind=6\/kind=7)(hkey:kind=7->0<=key/\key<3)(hn:n<=10)(h:Shf w base Av n k wr0 r b nb V st):
 Calls Tryz.prog 59 #[.pointer (some ⟨b,0,none⟩),deedV kind key m text] w (kJ base Av n k wr0 r b nb ((atF n st kind key.toNat m).1,Tl.no,(atF n st kind key.toNat m).2) w):=by
 obtain⟨W1,hd⟩:=VX h kind key m text;have HD:=zH hd;have hW1:=hd.eqn;obtain⟨d0,d1,d2,d3⟩:=zc4 hd.d;have CK:Hid (kind=7->∀W,Calls Tryz.prog 92 #[.int .i64 key] W (jv true W)):=zH (fun hk W=>by
  have h1:=hkey hk;have h2:=vp key W;rw[show(decide (0<=key)&&decide (key<3))=true by simp;omega]at h2;exact h2)
 unfold jv at CK;have CP:=zH (zcT kind hkind key m text hkey hn hd.s);unfold Kb at CP;obtain⟨R,hR⟩:∃R,atF n st kind key.toNat m=R:=⟨_,rfl⟩
 rw[hR]at CP ⊢;obtain⟨st2,E⟩:=R;dsimp only at CP;have HEND:Hid (∀w2 V2,Shf w2 base (WideA Av w.heap.size W1.heap.size) n k wr0 r b nb V2 st2->Kept (WideA Av w.heap.size W1.heap.size) base W1 w2->(((∃V',Shf ((((w2.setCell ⟨w.heap.size+1,0,none⟩ (.string ⟨#[]⟩)).setCell ⟨w.heap.size+1,1,none⟩ (.int .i64 0)).setCell ⟨w.heap.size+1,2,none⟩ (.int .i64 0)).setCell ⟨w.heap.size+1,3,none⟩ (.int .i64 0)) base Av n k wr0 r b nb V' st2)/\Kept Av base w ((((w2.setCell ⟨w.heap.size+1,0,none⟩ (.string ⟨#[]⟩)).setCell ⟨w.heap.size+1,1,none⟩ (.int .i64 0)).setCell ⟨w.heap.size+1,2,none⟩ (.int .i64 0)).setCell ⟨w.heap.size+1,3,none⟩ (.int .i64 0)))/\
  w2.heap[w.heap.size+1]?=some (.cells #[.string ⟨#[]⟩,.int .i64 0,.int .i64 0,.int .i64 0] 70 (0,0)))):=zH (fun w2 V2 h1 h2=>HD.out.done h1 h2 (.string ⟨#[]⟩) (.int .i64 0) (.int .i64 0) (.int .i64 0))
 clear hR hd h hkey;rcases hkind with rfl|rfl|rfl|rfl
 rotate_left 3
 . have CK7:=zH (CK.out rfl);go_enter Tryz.func59,Tryz.ntmps59
   go_wp2_with (go_at_call 92;(with_reducible refine(CK7.out _).mono ?_);rintro e w2 ⟨rfl,rfl⟩)
   (with_reducible refine CP.out.mono ?_)
   clear hW1;rintro e w2 ⟨rfl,⟨V2,hS2⟩,hK2⟩;have hdn:=HEND.out w2 V2 hS2 hK2;obtain⟨r0,r1,r2',r3⟩:=zc4 hdn.2;obtain⟨f0,f1,f2,f3⟩:=zf4 hdn.2;obtain⟨tc0,tc1,tc2,tc3⟩:=yg hdn.2 (.string ⟨#[]⟩) (.int .i64 0) (.int .i64 0) (.int .i64 0);have HN:=zH hdn.1;clear hS2 hK2 hdn;go_wp2_with fail
   refine bodyPost_ret (v:=.tuple #[.agg #[.string ⟨#[]⟩,.int .i64 0,.int .i64 0,.int .i64 0],.int .i64 (E:Nat)]) (by simp[results,Tryz.results59,go_sem,tc0,tc1,tc2,tc3];try rfl) rfl ?_;exact⟨rfl,HN.out⟩
 all_goals
  go_enter Tryz.func59,Tryz.ntmps59
  go_wp2_with fail
  (with_reducible refine CP.out.mono ?_)
  clear hW1;rintro e w2 ⟨rfl,⟨V2,hS2⟩,hK2⟩;have hdn:=HEND.out w2 V2 hS2 hK2;obtain⟨r0,r1,r2',r3⟩:=zc4 hdn.2;obtain⟨f0,f1,f2,f3⟩:=zf4 hdn.2;obtain⟨tc0,tc1,tc2,tc3⟩:=yg hdn.2 (.string ⟨#[]⟩) (.int .i64 0) (.int .i64 0) (.int .i64 0);have HN:=zH hdn.1;clear hS2 hK2 hdn;go_wp2_with fail
  refine bodyPost_ret (v:=.tuple #[.agg #[.string ⟨#[]⟩,.int .i64 0,.int .i64 0,.int .i64 0],.int .i64 (E:Nat)]) (by simp[results,Tryz.results59,go_sem,tc0,tc1,tc2,tc3];try rfl) rfl ?_;exact⟨rfl,HN.out⟩
end Go.Proofs.YtmgfbmkfomebcaaGreatDoor
