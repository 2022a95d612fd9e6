/- wholeref.reckoned, command by command. (Printed by wip/tools/gen_desk5.py.) -/
import Derived.Test.YtmgfbmkfomebcaaGreatDoorDkM35
import Derived.Test.YtmgfbmkfomebcaaGreatDoorDkM36xDeskD
import Derived.Test.YtmgfbmkfomebcaaGreatDoorDkM29
import Derived.Test.YtmgfbmkfomebcaaGreatDoorDkM2
import Derived.Test.YtmgfbmkfomebcaaGreatDoorDkM7
import Derived.Test.YtmgfbmkfomebcaaGreatDoorDkM3
import Derived.Test.YtmgfbmkfomebcaaGreatDoorDkM5
import Derived.Deep.QuietTactic
import Derived.BigQuiet
set_option linter.unusedVariables false
set_option linter.unusedSimpArgs false
set_option maxRecDepth 100000
set_option maxHeartbeats 8000000
namespace Go.Proofs.YtmgfbmkfomebcaaGreatDoor
open Go.RowKit
theorem kP{w:World}{g t:Nat}{xs:Array Value}{fr:Nat×Nat}(h:w.heap[g]?=some (.cells xs t fr)):Reads w (some ⟨g,0,none⟩) xs.toList:=by
 intro j u hu;refine⟨g,0,rfl,?_⟩;rw[Nat.zero_add,zd h j];simpa using hu
def jr(T:ByteArray)(w:World)(e:Ending)(w':World):Prop:=e=.returned (.tuple #[.string T,.bool true])/\Below w.heap.size w w'
theorem Yn{a:Nat}(h:1<=a):qc (a:Int) 0=1/\jp (a:Int) 0=0/\gI (a:Int) 0=a:=by
 refine⟨?_,?_,?_⟩
 . unfold qc;rw[if_pos rfl,if_pos (by omega)]
 . unfold jp;rw[if_pos rfl]
 . unfold gI;simp
theorem QC:qc (0:Int) 0=0/\jp (0:Int) 0=0/\gI (0:Int) 0=0:=by
 refine⟨?_,?_,?_⟩
 . unfold qc;rw[if_pos rfl,if_neg (by omega),if_neg (by omega)]
 . unfold jp;rw[if_pos rfl]
 . unfold gI;simp
theorem Kz(a:Nat)(ha:a<=9999999)(h1:1<=a)(g cap:Nat)(w:World)(hW:DkW w)(c0:w.cell? ⟨g,0,none⟩=some (.int .i64 (a:Int)))(c1:w.cell? ⟨g,1,none⟩=some (.int .i64 0)):
 Calls Tryz.prog 25 #[.string Cm.gcd.name,.slice (some ⟨g,0,none⟩) 2 cap] w (jr (yx [(1:Int),0,a]) w):=by
 have CG:=zH fun W=>zcX (a:Int) 0 W (by omega) (by omega) (by omega) (by omega)
 rw[(Yn h1).2.2]at CG;have h64:Hid (QR [(1:Int),0,a]):=zH (by intro z hz;simp at hz;rcases hz with rfl|rfl|rfl<;>omega);have hlz:Hid ([(1:Int),0,(a:Int)].length=3):=zH rfl;have hsmL:3<=1000:=by omega
 have d1:(0:Int)<(a:Int):=by omega
 have d2:0<a:=h1;have d3:decide (0<a)=true:=decide_eq_true h1;unfold Cm.name;go_enter Tryz.func25,Tryz.ntmps25
 go_wp2_with fail
 go_quiet (fail)
 go_wp2_with fail
 (with_reducible refine(CG.out _).mono ?_);rintro e w2 ⟨rfl,rfl⟩
 obtain⟨W5,hW5⟩:∃W5,(w.drewN nq).alloc (.cells #[.int .i64 0,.int .i64 0,.int .i64 (a:Int)] 3)=W5:=⟨_,rfl⟩
 have hb5:Below w.heap.size w W5:=by rw[<-hW5];exact(zg (Below.refl _ _) nq).alloc (Nat.le_refl _) _
 have hh5:W5.heap[w.heap.size]?=some (.cells #[.int .i64 0,.int .i64 0,.int .i64 (a:Int)] 3 (0,0)):=by rw[<-hW5];exact heap_alloc_new (w.drewN nq) _
 have x0:=zd hh5 0;simp only[List.getElem?_toArray,List.getElem?_cons_zero]at x0;have f0:=zm hh5 0;have hh6:(W5.setCell ⟨w.heap.size,0,none⟩ (.int .i64 1)).heap[w.heap.size]?=some (.cells #[.int .i64 1,.int .i64 0,.int .i64 (a:Int)] 3 (0,0)):=by rw[heap_set _ hh5];rfl
 have hb6:Below w.heap.size w (W5.setCell ⟨w.heap.size,0,none⟩ (.int .i64 1)):=zk hb5 (Nat.le_refl _) _;obtain⟨W6,hW6⟩:∃W6,W5.setCell ⟨w.heap.size,0,none⟩ (.int .i64 1)=W6:=⟨_,rfl⟩
 rw[hW6]at hh6 hb6;have hWD:Hid (DkW W6):=zH (hW.below hb6);have HRd:Hid (Reads W6 (some ⟨w.heap.size,0,none⟩) ([(1:Int),0,a].map (Value.int .i64))):=zH (kP hh6);have HBW:=zH hb6;clear hh6 hb6 hb5 hh5;have CI:=zH fun(z:Int) (hz:z∈[(1:Int),0,(a:Int)]) W (hb:Below W6.heap.size W6 W)=>qa z (h64.out z hz).1 (h64.out z hz).2 W (hWD.out.below hb)
 unfold zq at CI;go_wp2_with fail
 go_loopw [15,159] (fun sS sJ wr=>∃(j:Nat) (S:ByteArray),sJ=.int .i64 j/\sS=.string S/\j<=3/\Hid (S=vJ (([(1:Int),0,(a:Int)]).take j))/\S.size<=j*21/\Hid (Below W6.heap.size W6 wr)) (fun _ sJ _=>3-(intOf sJ).toNat)
 case atStart=>exact⟨0,ByteArray.empty,rfl,rfl,by omega,zH rfl,Nat.le_refl _,zH (Below.refl _ _)⟩
 case round=>
  obtain⟨j,S,rfl,rfl,hj,HS,hSz,HB⟩:=hrel;obtain⟨wo,rfl⟩:∃wo,wo=wr:=⟨_,rfl⟩
  by_cases hjl:j<3
  . have hjz:j<([(1:Int),0,(a:Int)]).length:=by rw[hlz.out];exact hjl
    obtain⟨z,hz⟩:∃z,([(1:Int),0,(a:Int)])[j]=z:=⟨_,rfl⟩
    have hzm:z∈[(1:Int),0,(a:Int)]:=by rw[<-hz];exact List.getElem_mem _
    obtain⟨bq,oq,hbo,hc0⟩:=HRd.out j (.int .i64 z) (by rw[List.getElem?_map,List.getElem?_eq_getElem hjz,hz];rfl);cases hbo;rw[Nat.zero_add]at hc0;have hc:=(HB.out.cell (World.block_lt_of_cell? _ _ hc0)).trans hc0;have CZ:=zH (CI.out z hzm);have HS2:Hid (S++(zS z++dkSp)=vJ (([(1:Int),0,(a:Int)]).take (j+1))):=zH (by rw[List.take_succ_eq_append_getElem hjz,qX,hz,HS.out]);have hzs:=ya z (h64.out z hzm).1 (h64.out z hzm).2;obtain⟨D,hD⟩:∃D,zS z=D:=⟨_,rfl⟩
    rw[hD]at hzs HS2 CZ;have e1:(D++dkSp).size=D.size+1:=zW _ _;have e2:(S++(D++dkSp)).size=S.size+(D.size+1):=by rw[zW,e1]
    have HE2:=zH e2;clear hz hc0 hD e1 e2;have k2:(j:Int)<(3:Int):=by omega
    go_wp2_with (go_at_call 16;(with_reducible refine(CZ.out _ HB.out).mono ?_);rintro e w9 ⟨rfl,hb9⟩)
    go_roundw
    case rel=>exact⟨j+1,S++(D++dkSp),by go_num,rfl,by omega,HS2,by have:=HE2.out;omega,zH (HB.out.trans (hb9.mono HB.out.size))⟩
    case measure=>simp[intOf];omega
  . obtain rfl:j=3:=by omega
    have HS2:Hid (S++dkDot=yx ([(1:Int),0,(a:Int)])):=zH (by unfold yx;rw[HS.out,List.take_of_length_le (by rw[hlz.out];exact Nat.le_refl _)]);go_wp2_with fail
    go_ret2
    rw[<-HS2.out];exact⟨rfl,HBW.out.trans (HB.out.mono HBW.out.size)⟩
theorem X3(g cap:Nat)(w:World)(hW:DkW w)(c0:w.cell? ⟨g,0,none⟩=some (.int .i64 0))(c1:w.cell? ⟨g,1,none⟩=some (.int .i64 0)):
 Calls Tryz.prog 25 #[.string Cm.gcd.name,.slice (some ⟨g,0,none⟩) 2 cap] w (jr (yx [(0:Int),0,0]) w):=by
 have CG:=zH fun W=>zcX 0 0 W (by omega) (by omega) (by omega) (by omega)
 rw[QC.2.2]at CG;have h64:Hid (QR [(0:Int),0,0]):=zH (by intro z hz;simp at hz;omega);have hlz:Hid ([(0:Int),0,0].length=3):=zH rfl;have hsmL:3<=1000:=by omega
 unfold Cm.name;go_enter Tryz.func25,Tryz.ntmps25
 go_wp2_with fail
 go_quiet (fail)
 go_wp2_with fail
 (with_reducible refine(CG.out _).mono ?_);rintro e w2 ⟨rfl,rfl⟩
 obtain⟨W6,hW6⟩:∃W6,(w.drewN nq).alloc (.cells #[.int .i64 0,.int .i64 0,.int .i64 0] 3)=W6:=⟨_,rfl⟩
 have hb6:Below w.heap.size w W6:=by rw[<-hW6];exact(zg (Below.refl _ _) nq).alloc (Nat.le_refl _) _
 have hh6:W6.heap[w.heap.size]?=some (.cells #[.int .i64 0,.int .i64 0,.int .i64 0] 3 (0,0)):=by rw[<-hW6];exact heap_alloc_new (w.drewN nq) _
 have hWD:Hid (DkW W6):=zH (hW.below hb6);have HRd:Hid (Reads W6 (some ⟨w.heap.size,0,none⟩) ([(0:Int),0,0].map (Value.int .i64))):=zH (kP hh6);have HBW:=zH hb6;clear hh6 hb6;have CI:=zH fun(z:Int) (hz:z∈[(0:Int),0,0]) W (hb:Below W6.heap.size W6 W)=>qa z (h64.out z hz).1 (h64.out z hz).2 W (hWD.out.below hb)
 unfold zq at CI;go_wp2_with fail
 go_loopw [15,159] (fun sS sJ wr=>∃(j:Nat) (S:ByteArray),sJ=.int .i64 j/\sS=.string S/\j<=3/\Hid (S=vJ (([(0:Int),0,0]).take j))/\S.size<=j*21/\Hid (Below W6.heap.size W6 wr)) (fun _ sJ _=>3-(intOf sJ).toNat)
 case atStart=>exact⟨0,ByteArray.empty,rfl,rfl,by omega,zH rfl,Nat.le_refl _,zH (Below.refl _ _)⟩
 case round=>
  obtain⟨j,S,rfl,rfl,hj,HS,hSz,HB⟩:=hrel;obtain⟨wo,rfl⟩:∃wo,wo=wr:=⟨_,rfl⟩
  by_cases hjl:j<3
  . have hjz:j<([(0:Int),0,0]).length:=by rw[hlz.out];exact hjl
    obtain⟨z,hz⟩:∃z,([(0:Int),0,0])[j]=z:=⟨_,rfl⟩
    have hzm:z∈[(0:Int),0,0]:=by rw[<-hz];exact List.getElem_mem _
    obtain⟨bq,oq,hbo,hc0⟩:=HRd.out j (.int .i64 z) (by rw[List.getElem?_map,List.getElem?_eq_getElem hjz,hz];rfl);cases hbo;rw[Nat.zero_add]at hc0;have hc:=(HB.out.cell (World.block_lt_of_cell? _ _ hc0)).trans hc0;have CZ:=zH (CI.out z hzm);have HS2:Hid (S++(zS z++dkSp)=vJ (([(0:Int),0,0]).take (j+1))):=zH (by rw[List.take_succ_eq_append_getElem hjz,qX,hz,HS.out]);have hzs:=ya z (h64.out z hzm).1 (h64.out z hzm).2;obtain⟨D,hD⟩:∃D,zS z=D:=⟨_,rfl⟩
    rw[hD]at hzs HS2 CZ;have e1:(D++dkSp).size=D.size+1:=zW _ _;have e2:(S++(D++dkSp)).size=S.size+(D.size+1):=by rw[zW,e1]
    have HE2:=zH e2;clear hz hc0 hD e1 e2;have k2:(j:Int)<(3:Int):=by omega
    go_wp2_with (go_at_call 16;(with_reducible refine(CZ.out _ HB.out).mono ?_);rintro e w9 ⟨rfl,hb9⟩)
    go_roundw
    case rel=>exact⟨j+1,S++(D++dkSp),by go_num,rfl,by omega,HS2,by have:=HE2.out;omega,zH (HB.out.trans (hb9.mono HB.out.size))⟩
    case measure=>simp[intOf];omega
  . obtain rfl:j=3:=by omega
    have HS2:Hid (S++dkDot=yx ([(0:Int),0,0])):=zH (by unfold yx;rw[HS.out,List.take_of_length_le (by rw[hlz.out];exact Nat.le_refl _)]);go_wp2_with fail
    go_ret2
    rw[<-HS2.out];exact⟨rfl,HBW.out.trans (HB.out.mono HBW.out.size)⟩
theorem pO{x b:Int}:x.tmod b=0↔x%b=0:=
 ⟨fun h=>Int.emod_eq_zero_of_dvd (Int.dvd_of_tmod_eq_zero h),fun h=>Int.tmod_eq_zero_of_dvd (Int.dvd_of_emod_eq_zero h)⟩
theorem KA(a b:Nat)(ha:a<=9999999)(hb:b<=9999999)(h1:1<=b)(g cap:Nat)(w:World)(hW:DkW w)(c0:w.cell? ⟨g,0,none⟩=some (.int .i64 (a:Int)))(c1:w.cell? ⟨g,1,none⟩=some (.int .i64 (b:Int))):
 Calls Tryz.prog 25 #[.string Cm.gcd.name,.slice (some ⟨g,0,none⟩) 2 cap] w (jr (jU a b) w):=by
 have CG:=zH fun W=>zcX (a:Int) b W (by omega) (by omega) (by omega) (by omega)
 have hz0:=VQ ha hb;have BS:=YK (a:Int) (b:Int) (by omega) (by omega) (by omega) (by omega) (by omega);have hze:=JH (a:=(a:Int)) (b:=(b:Int)) (by omega);have hne:∀l:Int,0<=l->l<qc (a:Int) b->(gI (a:Int) b-l*a)%b≠0:=fun l h0 h1=>zcf (by omega) h0 h1
 have hY:=BS.y;have hX0:=BS.x0;have hXm:=BS.xm;have hG1:=BS.g1;have hGm:=BS.gm;unfold jU Cm.name;obtain⟨X,hX⟩:∃X,qc (a:Int) b=X:=⟨_,rfl⟩
 obtain⟨Y,hYY⟩:∃Y,jp (a:Int) b=Y:=⟨_,rfl⟩
 obtain⟨G,hG⟩:∃G,gI (a:Int) b=G:=⟨_,rfl⟩
 rw[hX,hYY,hG]at hz0 hY;rw[hX]at hX0 hXm;rw[hG]at hG1 hGm CG;rw[hX,hG]at hne hze;rw[hX,hYY,hG];have h64:=zH hz0;have hlz:Hid ([X,Y,G].length=3):=zH rfl;have hsmL:3<=1000:=by omega
 have HNE:=zH hne;have HZE:=zH hze;have HYD:=zH hY;have hY64:=hz0 Y (by simp);have d1:((b:Int)==0)=false:=by rw[beq_eq_false_iff_ne];omega
 have d2:0<b:=h1;have d3:¬(b=0):=by omega
 have d4:decide (0<b)=true:=decide_eq_true h1;obtain⟨N,rfl⟩:∃N:Nat,X=N:=⟨X.toNat,by omega⟩
 clear hX hYY hG hz0 BS hze hne hY hX0;go_enter Tryz.func25,Tryz.ntmps25
 go_wp2_with fail
 go_quiet (fail)
 go_wp2_with fail
 (with_reducible refine(CG.out _).mono ?_);rintro e w2 ⟨rfl,rfl⟩
 obtain⟨W5,hW5⟩:∃W5,(w.drewN nq).alloc (.cells #[.int .i64 0,.int .i64 0,.int .i64 G] 3)=W5:=⟨_,rfl⟩
 have hb5:Below w.heap.size w W5:=by rw[<-hW5];exact(zg (Below.refl _ _) nq).alloc (Nat.le_refl _) _
 have hh5:W5.heap[w.heap.size]?=some (.cells #[.int .i64 0,.int .i64 0,.int .i64 G] 3 (0,0)):=by rw[<-hW5];exact heap_alloc_new (w.drewN nq) _
 have HH5:=zH hh5;have HB5:=zH hb5;clear hh5 hb5;go_wp2_with fail
 go_loopw [] (fun wr=>∃l:Nat,l<=N/\Hid (wr.heap[w.heap.size]?=some (.cells #[.int .i64 (l:Int),.int .i64 0,.int .i64 G] 3 (0,0)))/\Hid (Below w.heap.size w wr)) (fun wr=>((N:Int)-intOf ((wr.cell? ⟨w.heap.size,0,none⟩).getD undef)).toNat)
 case atStart=>exact⟨0,by omega,HH5,HB5⟩
 case round=>
  obtain⟨l,hl,HH,HB⟩:=hrel;obtain⟨wo,rfl⟩:∃wo,wo=wr:=⟨_,rfl⟩
  obtain⟨Pr,hPr⟩:∃Pr:Int,(l:Int)*(a:Int)=Pr:=⟨_,rfl⟩
  have hp0:0<=Pr:=by rw[<-hPr];exact Int.mul_nonneg (by omega) (by omega)
  have hp1:Pr<=10000000000000000:=by
   rw[<-hPr];have h5:(l:Int)*(a:Int)<=1000000000*10000000:=Int.mul_le_mul (by omega) (by omega) (by omega) (by omega);omega
  have wP:IntKind.i64.wrap ((l:Int)*(a:Int))=Pr:=by rw[hPr];exact IntWalk.i64_in _ (by omega)
  have wS:IntKind.i64.wrap (G-Pr)=G-Pr:=IntWalk.i64_in _ (by omega);have x0:=zd HH.out 0;simp only[List.getElem?_toArray,List.getElem?_cons_zero]at x0;obtain⟨f0,f1⟩:=zf2 HH.out;have x1:=zd HH.out 1;simp only[List.getElem?_toArray,List.getElem?_cons_zero,List.getElem?_cons_succ]at x1;obtain⟨Q,hQ⟩:∃Q,(G-Pr).tmod (b:Int)=Q:=⟨_,rfl⟩
  by_cases hlN:l<N
  . have hQ0:Q≠0:=by
     rw[<-hQ,<-hPr];intro h;exact HNE.out (l:Int) (by omega) (by omega) (pO.1 h)
    have hq1:(Q !=0)=true:=by simp;exact hQ0
    have HH2:Hid ((wo.setCell ⟨w.heap.size,0,none⟩ (.int .i64 ((l:Int)+1))).heap[w.heap.size]?=some (.cells #[.int .i64 (((l+1:Nat)):Int),.int .i64 0,.int .i64 G] 3 (0,0))):=zH (by rw[heap_set _ HH.out];rfl);have HB2:Hid (Below w.heap.size w (wo.setCell ⟨w.heap.size,0,none⟩ (.int .i64 ((l:Int)+1)))):=zH (zk HB.out (Nat.le_refl _) _);clear hPr;go_wp2_with fail
    go_roundw
    case rel=>exact⟨l+1,by omega,HH2,HB2⟩
    case measure=>
     have x2:=zd HH2.out 0;simp only[List.getElem?_toArray,List.getElem?_cons_zero]at x2;rw[x2,x0];simp only[Option.getD_some,intOf];omega
  . obtain rfl:l=N:=by omega
    have hQ0:Q=0:=by
     rw[<-hQ,<-hPr];exact pO.2 HZE.out
    have hD:(G-Pr).tdiv (b:Int)=Y:=by rw[<-hPr];exact HYD.out
    have wY:IntKind.i64.wrap Y=Y:=IntWalk.i64_in _ (by omega);subst hQ0;have hh6:(wo.setCell ⟨w.heap.size,1,none⟩ (.int .i64 Y)).heap[w.heap.size]?=some (.cells #[.int .i64 (l:Int),.int .i64 Y,.int .i64 G] 3 (0,0)):=by rw[heap_set _ HH.out];rfl
    have hb6:Below w.heap.size w (wo.setCell ⟨w.heap.size,1,none⟩ (.int .i64 Y)):=zk HB.out (Nat.le_refl _) _;obtain⟨W6,hW6⟩:∃W6,wo.setCell ⟨w.heap.size,1,none⟩ (.int .i64 Y)=W6:=⟨_,rfl⟩
    rw[hW6]at hh6 hb6;have hWD:Hid (DkW W6):=zH (hW.below hb6);have HRd:Hid (Reads W6 (some ⟨w.heap.size,0,none⟩) ([(l:Int),Y,G].map (Value.int .i64))):=zH (kP hh6);have HBW:=zH hb6;clear hh6 hb6 hPr HH HB HH5 HB5;have CI:=zH fun(z:Int) (hz:z∈[(l:Int),Y,G]) W (hb:Below W6.heap.size W6 W)=>qa z (h64.out z hz).1 (h64.out z hz).2 W (hWD.out.below hb)
    unfold zq at CI;go_wp2_with fail
    go_loopw [15,159] (fun sS sJ wr=>∃(j:Nat) (S:ByteArray),sJ=.int .i64 j/\sS=.string S/\j<=3/\Hid (S=vJ (([(l:Int),Y,G]).take j))/\S.size<=j*21/\Hid (Below W6.heap.size W6 wr)) (fun _ sJ _=>3-(intOf sJ).toNat)
    case atStart=>exact⟨0,ByteArray.empty,rfl,rfl,by omega,zH rfl,Nat.le_refl _,zH (Below.refl _ _)⟩
    case round=>
     obtain⟨j,S,rfl,rfl,hj,HS,hSz,HB⟩:=hrel;obtain⟨wo,rfl⟩:∃wo,wo=wr:=⟨_,rfl⟩
     by_cases hjl:j<3
     . have hjz:j<([(l:Int),Y,G]).length:=by rw[hlz.out];exact hjl
       obtain⟨z,hz⟩:∃z,([(l:Int),Y,G])[j]=z:=⟨_,rfl⟩
       have hzm:z∈[(l:Int),Y,G]:=by rw[<-hz];exact List.getElem_mem _
       obtain⟨bq,oq,hbo,hc0⟩:=HRd.out j (.int .i64 z) (by rw[List.getElem?_map,List.getElem?_eq_getElem hjz,hz];rfl);cases hbo;rw[Nat.zero_add]at hc0;have hc:=(HB.out.cell (World.block_lt_of_cell? _ _ hc0)).trans hc0;have CZ:=zH (CI.out z hzm);have HS2:Hid (S++(zS z++dkSp)=vJ (([(l:Int),Y,G]).take (j+1))):=zH (by rw[List.take_succ_eq_append_getElem hjz,qX,hz,HS.out]);have hzs:=ya z (h64.out z hzm).1 (h64.out z hzm).2;obtain⟨D,hD⟩:∃D,zS z=D:=⟨_,rfl⟩
       rw[hD]at hzs HS2 CZ;have e1:(D++dkSp).size=D.size+1:=zW _ _;have e2:(S++(D++dkSp)).size=S.size+(D.size+1):=by rw[zW,e1]
       have HE2:=zH e2;clear hz hc0 hD e1 e2;have k2:(j:Int)<(3:Int):=by omega
       go_wp2_with (go_at_call 16;(with_reducible refine(CZ.out _ HB.out).mono ?_);rintro e w9 ⟨rfl,hb9⟩)
       go_roundw
       case rel=>exact⟨j+1,S++(D++dkSp),by go_num,rfl,by omega,HS2,by have:=HE2.out;omega,zH (HB.out.trans (hb9.mono HB.out.size))⟩
       case measure=>simp[intOf];omega
     . obtain rfl:j=3:=by omega
       have HS2:Hid (S++dkDot=yx ([(l:Int),Y,G])):=zH (by unfold yx;rw[HS.out,List.take_of_length_le (by rw[hlz.out];exact Nat.le_refl _)]);go_wp2_with fail
       go_ret2
       rw[<-HS2.out];exact⟨rfl,HBW.out.trans (HB.out.mono HBW.out.size)⟩
theorem zdF(a b:Nat)(ha:a<=9999999)(hb:b<=9999999)(g cap:Nat)(w:World)(hW:DkW w)(c0:w.cell? ⟨g,0,none⟩=some (.int .i64 (a:Int)))(c1:w.cell? ⟨g,1,none⟩=some (.int .i64 (b:Int))):
 Calls Tryz.prog 25 #[.string Cm.gcd.name,.slice (some ⟨g,0,none⟩) 2 cap] w (jr (jU a b) w):=by
 rcases Nat.eq_zero_or_pos b with rfl|h
 . rcases Nat.eq_zero_or_pos a with rfl|h2
   . unfold jU;rw[show(((0:Nat):Int))=0 from rfl,QC.1,QC.2.1,QC.2.2];exact X3 g cap w hW c0 c1
   . unfold jU;rw[show(((0:Nat):Int))=0 from rfl,(Yn h2).1,(Yn h2).2.1,(Yn h2).2.2];exact Kz a ha h2 g cap w hW c0 c1
 . exact KA a b ha hb h g cap w hW c0 c1
theorem Z4(a:Nat)(h:a=0)(g cap:Nat)(w:World)(hW:DkW w)(c0:w.cell? ⟨g,0,none⟩=some (.int .i64 (a:Int))):
 Calls Tryz.prog 25 #[.string Cm.factor.name,.slice (some ⟨g,0,none⟩) 1 cap] w (jr (zt 1) w):=by
 have CR:=zH (zx 1 (by omega) (by omega) w hW);unfold zq at CR;subst h;unfold Cm.name;go_enter Tryz.func25,Tryz.ntmps25
 go_wp2_with fail
 (with_reducible refine CR.out.mono ?_);rintro e w2 ⟨rfl,hb2⟩
 go_wp2_with fail
 go_ret2
 exact⟨rfl,hb2⟩
theorem Ze(a:Nat)(h:1000000<a)(g cap:Nat)(w:World)(hW:DkW w)(c0:w.cell? ⟨g,0,none⟩=some (.int .i64 (a:Int))):
 Calls Tryz.prog 25 #[.string Cm.factor.name,.slice (some ⟨g,0,none⟩) 1 cap] w (jr (zt 1) w):=by
 have CR:=zH (zx 1 (by omega) (by omega) w hW);unfold zq at CR;have d1:(1000000:Int)<(a:Int):=by omega
 have d2:¬(a:Int)<1:=by omega
 unfold Cm.name;go_enter Tryz.func25,Tryz.ntmps25
 go_wp2_with fail
 (with_reducible refine CR.out.mono ?_);rintro e w2 ⟨rfl,hb2⟩
 go_wp2_with fail
 go_ret2
 exact⟨rfl,hb2⟩
theorem Xb(a:Nat)(h:2047<a)(g cap:Nat)(w:World)(hW:DkW w)(c0:w.cell? ⟨g,0,none⟩=some (.int .i64 (a:Int))):
 Calls Tryz.prog 25 #[.string Cm.code.name,.slice (some ⟨g,0,none⟩) 1 cap] w (jr (zt 1) w):=by
 have CR:=zH (zx 1 (by omega) (by omega) w hW);unfold zq at CR;have d1:(2047:Int)<(a:Int):=by omega
 unfold Cm.name;go_enter Tryz.func25,Tryz.ntmps25
 go_wp2_with fail
 (with_reducible refine CR.out.mono ?_);rintro e w2 ⟨rfl,hb2⟩
 go_wp2_with fail
 go_ret2
 exact⟨rfl,hb2⟩
theorem Xc(n:Nat)(h1:1<=n)(hn:n<=1000000)(g cap:Nat)(w:World)(hW:DkW w)(c0:w.cell? ⟨g,0,none⟩=some (.int .i64 (n:Int))):
 Calls Tryz.prog 25 #[.string Cm.factor.name,.slice (some ⟨g,0,none⟩) 1 cap] w (jr (yx (vA (zaY n))) w):=by
 have d1:¬(n:Int)<1:=by omega
 have d2:¬(1000000:Int)<(n:Int):=by omega
 unfold Cm.name;go_enter Tryz.func25,Tryz.ntmps25
 go_wp2_with fail
 go_loopw [6,10,11] (fun vo vm vd wr=>∃(m d:Nat) (l:List (Nat×Nat)),vm=.int .i64 m/\vd=.int .i64 d/\Hid (Fac n m d l)/\1<=m/\m<=1000000/\2<=d/\d<=1000001/\l.length+2<=d/\Hid (wr.ownsRow w.heap.size 3 1 vo (2*l.length) ((vA l).map (Value.int .i64)))/\Hid (Below w.heap.size w wr))
  (fun _ vm vd _=>(intOf vm).toNat+1-(intOf vd).toNat)
 case atStart=>exact⟨n,2,[],rfl,rfl,zH (Fac.start n h1),h1,hn,by omega,by omega,by simp,zH (World.ownsRow_nil _ _ _ _),zH (Below.refl _ _)⟩
 case round=>
  obtain⟨m,d,l,rfl,rfl,hF,hm1,hm2,hd1,hd2,hll,HO,HB⟩:=hrel;obtain⟨wo,rfl⟩:∃wo,wo=wr:=⟨_,rfl⟩
  by_cases hm:m=1
  . have em:(m:Int)=1:=by omega
    rw[em];subst hm;clear em;have hF1:=hF.out.last;have hll2:=Qc hF1 hn;have h64:=zH (VR hF1 hn);have hlz:Hid ((vA l).length=2*l.length):=zH (Xs l);have hsmL:2*l.length<=1000:=by omega
    obtain⟨LN,hLN⟩:∃LN,l.length=LN:=⟨_,rfl⟩
    rw[hLN]at HO hll2 hlz hsmL;obtain⟨aq,cq,rfl,hRq, -, -⟩:=zr HO.out;have HRd:=zH hRq;have HBW:=HB;have hWD:Hid (DkW wo):=zH (hW.below HB.out);have HEQ:Hid (zaY n=l):=zH (zbA hF1);clear hRq HO HB hF hF1 hll hLN;have CI:=zH fun(z:Int) (hz:z∈vA l) W (hb:Below wo.heap.size wo W)=>qa z (h64.out z hz).1 (h64.out z hz).2 W (hWD.out.below hb)
    unfold zq at CI;go_wp2_with fail
    go_loopw [15,159] (fun sS sJ wr=>∃(j:Nat) (S:ByteArray),sJ=.int .i64 j/\sS=.string S/\j<=2*LN/\Hid (S=vJ ((vA l).take j))/\S.size<=j*21/\Hid (Below wo.heap.size wo wr)) (fun _ sJ _=>2*LN-(intOf sJ).toNat)
    case atStart=>exact⟨0,ByteArray.empty,rfl,rfl,by omega,zH rfl,Nat.le_refl _,zH (Below.refl _ _)⟩
    case round=>
     obtain⟨j,S,rfl,rfl,hj,HS,hSz,HB⟩:=hrel;obtain⟨wo,rfl⟩:∃wo,wo=wr:=⟨_,rfl⟩
     by_cases hjl:j<2*LN
     . have hjz:j<(vA l).length:=by rw[hlz.out];exact hjl
       obtain⟨z,hz⟩:∃z,(vA l)[j]=z:=⟨_,rfl⟩
       have hzm:z∈vA l:=by rw[<-hz];exact List.getElem_mem _
       obtain⟨bq,oq,hbo,hc0⟩:=HRd.out j (.int .i64 z) (by rw[List.getElem?_map,List.getElem?_eq_getElem hjz,hz];rfl);subst hbo;have hc:=(HB.out.cell (World.block_lt_of_cell? _ _ hc0)).trans hc0;have CZ:=zH (CI.out z hzm);have HS2:Hid (S++(zS z++dkSp)=vJ ((vA l).take (j+1))):=zH (by rw[List.take_succ_eq_append_getElem hjz,qX,hz,HS.out]);have hzs:=ya z (h64.out z hzm).1 (h64.out z hzm).2;obtain⟨D,hD⟩:∃D,zS z=D:=⟨_,rfl⟩
       rw[hD]at hzs HS2 CZ;have e1:(D++dkSp).size=D.size+1:=zW _ _;have e2:(S++(D++dkSp)).size=S.size+(D.size+1):=by rw[zW,e1]
       have HE2:=zH e2;clear hz hc0 hD e1 e2;have k2:(j:Int)<(2*LN:Int):=by omega
       go_wp2_with (go_at_call 16;(with_reducible refine(CZ.out _ HB.out).mono ?_);rintro e w9 ⟨rfl,hb9⟩)
       go_roundw
       case rel=>exact⟨j+1,S++(D++dkSp),by go_num,rfl,by omega,HS2,by have:=HE2.out;omega,zH (HB.out.trans (hb9.mono HB.out.size))⟩
       case measure=>simp[intOf];omega
     . obtain rfl:j=2*LN:=by omega
       have HS2:Hid (S++dkDot=yx (vA l)):=zH (by unfold yx;rw[HS.out,List.take_of_length_le (by rw[hlz.out];exact Nat.le_refl _)]);go_wp2_with fail
       go_ret2
       rw[HEQ.out];rw[<-HS2.out];exact⟨rfl,HBW.out.trans (HB.out.mono HBW.out.size)⟩
  . have hm2':2<=m:=by omega
    have hdm:=hF.out.nod.ge hm2';have k1:(1:Int)<(m:Int):=by omega
    go_wp2_with fail
    go_loopw [10,12] (fun vm vk wi=>∃m2 k:Nat,vm=.int .i64 m2/\vk=.int .i64 k/\Hid (d^k*m2=m)/\1<=m2/\k+m2<=m/\wi=wo) (fun vm _ _=>(intOf vm).toNat)
    case atStart=>exact⟨m,0,rfl,rfl,by show _=_;simp,hm1,by omega,rfl⟩
    case round=>
     obtain⟨m2,k,rfl,rfl,hk,hm21,hkm,rfl⟩:=hrel;by_cases hdv:d∣m2
     . have ht:=ji m2 d hdv;have hk2:=zH (Y5 hk.out hdv);have hq1:1<=m2 / d:=Nat.div_pos (Nat.le_of_dvd (by omega) hdv) (by omega);have hq2:m2 / d<m2:=Nat.div_lt_self (by omega) (by omega);clear hdv;go_wp2_with fail
       go_roundw
       case rel=>exact⟨m2 / d,k+1,by go_num,by go_num,hk2,hq1,by omega,by trivial⟩
       case measure=>simp[intOf];omega
     . have ht:=km m2 d hdv;have HN:=zH hdv;clear hdv;by_cases hk0:k=0
       . subst hk0;have hmm:m2=m:=by have:=hk.out;simpa using this
         subst hmm;have hF3:=zH (hF.out.skip HN.out);go_wp2_with fail
         go_roundw
         case rel=>exact⟨m2,d+1,l,rfl,by go_num,hF3,hm1,hm2,by omega,by omega,by omega,HO,HB⟩
         case measure=>simp[intOf];omega
       . have hF3:=zH (hF.out.take (by omega) (by omega) hk.out HN.out);have hkp:(0:Int)<(k:Int):=by omega
         have hlf:Hid ((l++[(d,k)]).length=l.length+1):=zH (by simp);have hpw:Hid ((vA l).map (Value.int .i64)++[.int .i64 (d:Int),.int .i64 (k:Int)]=(vA (l++[(d,k)])).map (Value.int .i64)):=zH (by rw[VS,List.map_append];rfl);have hs2:=HB.out.size;obtain⟨LN,hLN⟩:∃LN,l.length=LN:=⟨_,rfl⟩
         rw[hLN]at HO hll;go_wp2_with (first
          |(at_builtin;go_must (refine Xr rfl (.tmp 101) (.tmp 104) 62 rfl w.heap.size 3 _ 8 Tryz.underlying62 yQ _ (2*LN) _ (by rfl) HO.out (.int .i64 (d:Int)) (.int .i64 (k:Int)) (by rfl) rfl rfl (by unfold maxLen;omega) (by omega) hs2 ?_);intro v5 w5 hown5 hb5;have HO5:Hid (w5.ownsRow w.heap.size 3 1 v5 (2*(l++[(d,k)]).length) ((vA (l++[(d,k)])).map (Value.int .i64))):=zH (by rw[<-hpw.out,hlf.out,hLN];exact hown5);have HB5:=zH hb5;clear hown5 hb5)
          |fail)
         go_roundw
         case rel=>exact⟨m2,d+1,l++[(d,k)],rfl,by go_num,hF3,hm21,by omega,by omega,by omega,by rw[hlf.out,hLN];omega,HO5,zH (HB.out.trans HB5.out)⟩
         case measure=>simp[intOf];omega
theorem X4(a b:Nat)(h:1000000<b)(g cap:Nat)(w:World)(hW:DkW w)(c0:w.cell? ⟨g,0,none⟩=some (.int .i64 (a:Int)))(c1:w.cell? ⟨g,1,none⟩=some (.int .i64 (b:Int))):
 Calls Tryz.prog 25 #[.string Cm.root.name,.slice (some ⟨g,0,none⟩) 2 cap] w (jr (zt 1) w):=by
 have CR:=zH (zx 1 (by omega) (by omega) w hW);unfold zq at CR;have d1:(1000000:Int)<(b:Int):=by omega
 unfold Cm.name;go_enter Tryz.func25,Tryz.ntmps25
 go_wp2_with fail
 (with_reducible refine CR.out.mono ?_);rintro e w2 ⟨rfl,hb2⟩
 go_wp2_with fail
 go_ret2
 exact⟨rfl,hb2⟩
theorem Xd(a b:Nat)(h:b<=1000000)(hp:prB b=false)(g cap:Nat)(w:World)(hW:DkW w)(c0:w.cell? ⟨g,0,none⟩=some (.int .i64 (a:Int)))(c1:w.cell? ⟨g,1,none⟩=some (.int .i64 (b:Int))):
 Calls Tryz.prog 25 #[.string Cm.root.name,.slice (some ⟨g,0,none⟩) 2 cap] w (jr (zt 1) w):=by
 have CR:=zH (zx 1 (by omega) (by omega) w hW);unfold zq at CR;have CP:=zH fun W=>Zt b W h
 rw[hp]at CP;have d1:¬(1000000:Int)<(b:Int):=by omega
 unfold Cm.name;go_enter Tryz.func25,Tryz.ntmps25
 go_wp2_with (go_at_call 43;(with_reducible refine(CP.out _).mono ?_);rintro e w9 ⟨rfl,rfl⟩)
 (with_reducible refine CR.out.mono ?_);rintro e w2 ⟨rfl,hb2⟩
 go_wp2_with fail
 go_ret2
 exact⟨rfl,hb2⟩
theorem Xe(a b:Nat)(ha:a<=9999999)(h:b<=1000000)(hp:prB b=true)(R:Int)(hR:pn (a:Int) b R)(d2:R<0)(g cap:Nat)(w:World)(hW:DkW w)(c0:w.cell? ⟨g,0,none⟩=some (.int .i64 (a:Int)))(c1:w.cell? ⟨g,1,none⟩=some (.int .i64 (b:Int))):
 Calls Tryz.prog 25 #[.string Cm.root.name,.slice (some ⟨g,0,none⟩) 2 cap] w (jr (zt 4) w):=by
 have CR:=zH fun W (hb:Below w.heap.size w W)=>zx 4 (by omega) (by omega) W (hW.below hb)
 unfold zq at CR;have CP:=zH fun W=>Zt b W h
 rw[hp]at CP;have hb1:1<=b:=by have:=(Yj.1 hp).1;omega
 have CQ:=zH fun W=>YH (a:Int) b W (by omega) (by omega) hb1 h R (zH hR)
 have d1:¬(1000000:Int)<(b:Int):=by omega
 unfold Cm.name;go_enter Tryz.func25,Tryz.ntmps25
 go_wp2_with (go_at_call 43;(with_reducible refine(CP.out _).mono ?_);rintro e w9 ⟨rfl,rfl⟩)
 go_quiet ((go_at_call 44;(first|exact qf (fun W=>CQ.out W)|exact yY (fun W=>CQ.out W))))
 have hb1:Below w.heap.size w (w.drewN nq):=zg (Below.refl _ _) nq;go_wp2_with fail
 (with_reducible refine(CR.out _ hb1).mono ?_);rintro e w2 ⟨rfl,hb2⟩
 go_wp2_with fail
 go_ret2
 exact⟨rfl,hb1.trans hb2⟩
theorem Xf(a b:Nat)(ha:a<=9999999)(h:b<=1000000)(hp:prB b=true)(R:Int)(hR:pn (a:Int) b R)(d2:¬R<0)(g cap:Nat)(w:World)(hW:DkW w)(c0:w.cell? ⟨g,0,none⟩=some (.int .i64 (a:Int)))(c1:w.cell? ⟨g,1,none⟩=some (.int .i64 (b:Int))):
 Calls Tryz.prog 25 #[.string Cm.root.name,.slice (some ⟨g,0,none⟩) 2 cap] w (jr (yx [R]) w):=by
 have hRb: -1<=R/\R<=1000000:=by
  rcases hR with⟨x,rfl,hx⟩|⟨rfl, -⟩
  . have:=hx.1;omega
  . omega
 have CP:=zH fun W=>Zt b W h
 rw[hp]at CP;have hb1:1<=b:=by have:=(Yj.1 hp).1;omega
 have CQ:=zH fun W=>YH (a:Int) b W (by omega) (by omega) hb1 h R (zH hR)
 have d1:¬(1000000:Int)<(b:Int):=by omega
 unfold Cm.name;go_enter Tryz.func25,Tryz.ntmps25
 go_wp2_with (go_at_call 43;(with_reducible refine(CP.out _).mono ?_);rintro e w9 ⟨rfl,rfl⟩)
 go_quiet ((go_at_call 44;(first|exact qf (fun W=>CQ.out W)|exact yY (fun W=>CQ.out W))))
 have h64:Hid (QR [R]):=zH (by intro z hz;simp at hz;omega);have hlz:Hid ([R].length=1):=zH rfl;have hsmL:1<=1000:=by omega
 obtain⟨W6,hW6⟩:∃W6,(w.drewN nq).alloc (.cells #[.int .i64 R] 3)=W6:=⟨_,rfl⟩
 have hb6:Below w.heap.size w W6:=by rw[<-hW6];exact(zg (Below.refl _ _) nq).alloc (Nat.le_refl _) _
 have hh6:W6.heap[w.heap.size]?=some (.cells #[.int .i64 R] 3 (0,0)):=by rw[<-hW6];exact heap_alloc_new (w.drewN nq) _
 have hWD:Hid (DkW W6):=zH (hW.below hb6);have HRd:Hid (Reads W6 (some ⟨w.heap.size,0,none⟩) ([R].map (Value.int .i64))):=zH (kP hh6);have HBW:=zH hb6;clear hh6 hb6;have CI:=zH fun(z:Int) (hz:z∈[R]) W (hb:Below W6.heap.size W6 W)=>qa z (h64.out z hz).1 (h64.out z hz).2 W (hWD.out.below hb)
 unfold zq at CI;go_wp2_with fail
 go_loopw [15,159] (fun sS sJ wr=>∃(j:Nat) (S:ByteArray),sJ=.int .i64 j/\sS=.string S/\j<=1/\Hid (S=vJ (([R]).take j))/\S.size<=j*21/\Hid (Below W6.heap.size W6 wr)) (fun _ sJ _=>1-(intOf sJ).toNat)
 case atStart=>exact⟨0,ByteArray.empty,rfl,rfl,by omega,zH rfl,Nat.le_refl _,zH (Below.refl _ _)⟩
 case round=>
  obtain⟨j,S,rfl,rfl,hj,HS,hSz,HB⟩:=hrel;obtain⟨wo,rfl⟩:∃wo,wo=wr:=⟨_,rfl⟩
  by_cases hjl:j<1
  . have hjz:j<([R]).length:=by rw[hlz.out];exact hjl
    obtain⟨z,hz⟩:∃z,([R])[j]=z:=⟨_,rfl⟩
    have hzm:z∈[R]:=by rw[<-hz];exact List.getElem_mem _
    obtain⟨bq,oq,hbo,hc0⟩:=HRd.out j (.int .i64 z) (by rw[List.getElem?_map,List.getElem?_eq_getElem hjz,hz];rfl);cases hbo;rw[Nat.zero_add]at hc0;have hc:=(HB.out.cell (World.block_lt_of_cell? _ _ hc0)).trans hc0;have CZ:=zH (CI.out z hzm);have HS2:Hid (S++(zS z++dkSp)=vJ (([R]).take (j+1))):=zH (by rw[List.take_succ_eq_append_getElem hjz,qX,hz,HS.out]);have hzs:=ya z (h64.out z hzm).1 (h64.out z hzm).2;obtain⟨D,hD⟩:∃D,zS z=D:=⟨_,rfl⟩
    rw[hD]at hzs HS2 CZ;have e1:(D++dkSp).size=D.size+1:=zW _ _;have e2:(S++(D++dkSp)).size=S.size+(D.size+1):=by rw[zW,e1]
    have HE2:=zH e2;clear hz hc0 hD e1 e2;have k2:(j:Int)<(1:Int):=by omega
    go_wp2_with (go_at_call 16;(with_reducible refine(CZ.out _ HB.out).mono ?_);rintro e w9 ⟨rfl,hb9⟩)
    go_roundw
    case rel=>exact⟨j+1,S++(D++dkSp),by go_num,rfl,by omega,HS2,by have:=HE2.out;omega,zH (HB.out.trans (hb9.mono HB.out.size))⟩
    case measure=>simp[intOf];omega
  . obtain rfl:j=1:=by omega
    have HS2:Hid (S++dkDot=yx ([R])):=zH (by unfold yx;rw[HS.out,List.take_of_length_le (by rw[hlz.out];exact Nat.le_refl _)]);go_wp2_with fail
    go_ret2
    rw[<-HS2.out];exact⟨rfl,HBW.out.trans (HB.out.mono HBW.out.size)⟩
theorem zcg(a b:Nat)(ha:a<=9999999)(g cap:Nat)(w:World)(hW:DkW w)(c0:w.cell? ⟨g,0,none⟩=some (.int .i64 (a:Int)))(c1:w.cell? ⟨g,1,none⟩=some (.int .i64 (b:Int))):
 Calls Tryz.prog 25 #[.string Cm.root.name,.slice (some ⟨g,0,none⟩) 2 cap] w (jr (kj a b) w):=by
 unfold kj;by_cases h:1000000<b
 . rw[if_pos (.inl h)];exact X4 a b h g cap w hW c0 c1
 . cases hp:prB b with
   |false=>
    rw[if_pos (.inr rfl)];exact Xd a b (by omega) hp g cap w hW c0 c1
   |true=>
    rw[if_neg (by simp;omega)];by_cases hr:KZ (a:Int) b<0
    . rw[if_pos hr];exact Xe a b ha (by omega) hp _ (Zr _ _) hr g cap w hW c0 c1
    . rw[if_neg hr];exact Xf a b ha (by omega) hp _ (Zr _ _) hr g cap w hW c0 c1
theorem JI(a:Nat)(g cap:Nat)(w:World)(hW:DkW w)(c0:w.cell? ⟨g,0,none⟩=some (.int .i64 (a:Int))):
 Calls Tryz.prog 25 #[.string Cm.factor.name,.slice (some ⟨g,0,none⟩) 1 cap] w (jr (ki a) w):=by
 unfold ki;by_cases h:a<1
 . rw[if_pos (.inl h)];exact Z4 a (by omega) g cap w hW c0
 . by_cases h2:1000000<a
   . rw[if_pos (.inr h2)];exact Ze a h2 g cap w hW c0
   . rw[if_neg (by omega)];exact Xc a (by omega) (by omega) g cap w hW c0
theorem KD(a:Nat)(h:a<=2047)(g cap:Nat)(w:World)(hW:DkW w)(c0:w.cell? ⟨g,0,none⟩=some (.int .i64 (a:Int))):
 Calls Tryz.prog 25 #[.string Cm.code.name,.slice (some ⟨g,0,none⟩) 1 cap] w (jr (yx [(jY a:Int)]) w):=by
 have d1:¬(2047:Int)<(a:Int):=by omega
 obtain⟨hx,hx2,hx3⟩:=zbm (d:=a) (by omega);have hup:∀j:Nat,j<32768->hsum j=0->jZ j=a->j=jY a:=by
  intro j h1 h2 h3;have:=zfW h1 h2;rw[h3]at this;exact this.symm
 obtain⟨H,hH⟩:∃H,jY a=H:=⟨_,rfl⟩
 rw[hH]at hx hx2 hx3 hup ⊢;have HX2:=zH hx2;have HX3:=zH hx3;have HUP:=zH hup;clear hx2 hx3 hup hH;have h64:Hid (QR [(H:Int)]):=zH (by intro z hz;simp at hz;omega);have hlz:Hid ([(H:Int)].length=1):=zH rfl;have hsmL:1<=1000:=by omega
 unfold Cm.name;go_enter Tryz.func25,Tryz.ntmps25
 go_wp2_with fail
 go_loopw [6,139] (fun vl vj wr=>∃(j:Nat) (vq:Value),vq=vl/\vj=.int .u16 j/\j<=32768/\Hid (if j<=H then vq=.slice none 0 0 else∃b,vq=.slice (some ⟨b,0,none⟩) 1 1/\Reads wr (some ⟨b,0,none⟩) ([(H:Int)].map (Value.int .i64)))/\Hid (Below w.heap.size w wr)) (fun _ vj _=>32768-(intOf vj).toNat)
 case atStart=>exact⟨0,_,rfl,rfl,by omega,zH (by rw[if_pos (Nat.zero_le _)]),zH (Below.refl _ _)⟩
 case round=>
  obtain⟨j,vl,rfl,rfl,hj,HV,HB⟩:=hrel;obtain⟨wo,rfl⟩:∃wo,wo=wr:=⟨_,rfl⟩
  by_cases hjl:j<32768
  . have CD:=zH fun W=>zaE j W (by omega)
    have CRW:=zH fun W=>Va j W (by omega)
    have hdb:=zdn j;have k1:(j:Int)<32768:=by omega
    have wj:IntKind.u16.wrap ((j:Int)+1)=(j:Int)+1:=IntWalk.u16_in _ (by omega);have wj2:IntKind.i64.wrap (j:Int)=(j:Int):=IntWalk.i64_in _ (by omega);have c0':wo.cell? ⟨g,0,none⟩=some (.int .i64 (a:Int)):=(HB.out.cell (World.block_lt_of_cell? _ _ c0)).trans c0;by_cases hs:hsum j=0
    . rw[decide_eq_true hs]at CRW;by_cases hjH:j=H
      . subst hjH;have wD:IntKind.i64.wrap (a:Int)=(a:Int):=IntWalk.i64_in _ (by omega);have hq:((a:Int)==(a:Int))=true:=by simp
        rw[HX3.out]at CD;clear hs;go_wp2_with fail
        go_quiet (first|(go_at_call 45;(first|exact qf (fun W=>CRW.out W)|exact yY (fun W=>CRW.out W)))|(go_at_call 46;(first|exact qf (fun W=>CD.out W)|exact yY (fun W=>CD.out W))))
        go_wp2_with fail
        have hbn:Below w.heap.size w ((wo.drewN nq).alloc (.cells #[.int .i64 (j:Int)] 3)):=(zg HB.out nq).alloc HB.out.size _;have hrn:Reads ((wo.drewN nq).alloc (.cells #[.int .i64 (j:Int)] 3)) (some ⟨wo.heap.size,0,none⟩) ([(j:Int)].map (Value.int .i64)):=kP (heap_alloc_new (wo.drewN nq) _)
        go_roundw
        case rel=>exact⟨j+1,_,rfl,by go_num,by omega,zH (by rw[if_neg (by omega)];exact⟨_,rfl,hrn⟩),zH hbn⟩
        case measure=>simp[intOf];omega
      . obtain⟨D,hD⟩:∃D,jZ j=D:=⟨_,rfl⟩
        rw[hD]at CD hdb;have hDa:D≠a:=fun e=>hjH (HUP.out j hjl hs (hD.trans e))
        have wD:IntKind.i64.wrap (D:Int)=(D:Int):=IntWalk.i64_in _ (by omega);have hq:((D:Int)==(a:Int))=false:=by rw[beq_eq_false_iff_ne];omega
        have HJH:=zH hjH;have HRN:Hid (∀n,Below w.heap.size w (wo.drewN n)):=zH fun n=>zg HB.out n
        have HVN:Hid (∀n,if j+1<=H then vl=.slice none 0 0 else∃b,vl=.slice (some ⟨b,0,none⟩) 1 1/\Reads (wo.drewN n) (some ⟨b,0,none⟩) ([(H:Int)].map (Value.int .i64))):=zH (by
         intro n;have:=HV.out;by_cases hle:j+1<=H
         . rw[if_pos hle];rwa [if_pos (by omega)]at this
         . rw[if_neg hle];rw[if_neg (by omega)]at this;obtain⟨b,h1,h2⟩:=this;exact⟨b,h1,h2.below (zg (Below.refl _ _) n)⟩)
        clear hs hD hjH;go_wp2_with fail
        go_quiet (first|(go_at_call 45;(first|exact qf (fun W=>CRW.out W)|exact yY (fun W=>CRW.out W)))|(go_at_call 46;(first|exact qf (fun W=>CD.out W)|exact yY (fun W=>CD.out W))))
        go_wp2_with fail
        go_roundw
        case rel=>exact⟨j+1,_,rfl,by go_num,by omega,zH (HVN.out _),zH (HRN.out _)⟩
        case measure=>simp[intOf];omega
    . rw[decide_eq_false hs]at CRW;have hjH:j≠H:=fun e=>hs (by rw[e];exact HX2.out)
      have HRN:Hid (∀n,Below w.heap.size w (wo.drewN n)):=zH fun n=>zg HB.out n
      have HVN:Hid (∀n,if j+1<=H then vl=.slice none 0 0 else∃b,vl=.slice (some ⟨b,0,none⟩) 1 1/\Reads (wo.drewN n) (some ⟨b,0,none⟩) ([(H:Int)].map (Value.int .i64))):=zH (by
       intro n;have:=HV.out;by_cases hle:j+1<=H
       . rw[if_pos hle];rwa [if_pos (by omega)]at this
       . rw[if_neg hle];rw[if_neg (by omega)]at this;obtain⟨b,h1,h2⟩:=this;exact⟨b,h1,h2.below (zg (Below.refl _ _) n)⟩)
      clear hs hjH CD hdb;go_wp2_with fail
      go_quiet (first|(go_at_call 45;(first|exact qf (fun W=>CRW.out W)|exact yY (fun W=>CRW.out W))))
      go_wp2_with fail
      go_roundw
      case rel=>exact⟨j+1,_,rfl,by go_num,by omega,zH (HVN.out _),zH (HRN.out _)⟩
      case measure=>simp[intOf];omega
  . have em:(j:Int)=32768:=by omega
    rw[em];obtain rfl:j=32768:=by omega
    clear em;have hv:=HV.out;rw[if_neg (by omega)]at hv;obtain⟨b,rfl,hRb⟩:=hv;have hWD:Hid (DkW wo):=zH (hW.below HB.out);have HRd:=zH hRb;have HBW:=HB;clear hRb HV HB;have CI:=zH fun(z:Int) (hz:z∈[(H:Int)]) W (hb:Below wo.heap.size wo W)=>qa z (h64.out z hz).1 (h64.out z hz).2 W (hWD.out.below hb)
    unfold zq at CI;go_wp2_with fail
    go_loopw [15,159] (fun sS sJ wr=>∃(j:Nat) (S:ByteArray),sJ=.int .i64 j/\sS=.string S/\j<=1/\Hid (S=vJ (([(H:Int)]).take j))/\S.size<=j*21/\Hid (Below wo.heap.size wo wr)) (fun _ sJ _=>1-(intOf sJ).toNat)
    case atStart=>exact⟨0,ByteArray.empty,rfl,rfl,by omega,zH rfl,Nat.le_refl _,zH (Below.refl _ _)⟩
    case round=>
     obtain⟨j,S,rfl,rfl,hj,HS,hSz,HB⟩:=hrel;obtain⟨wo,rfl⟩:∃wo,wo=wr:=⟨_,rfl⟩
     by_cases hjl:j<1
     . have hjz:j<([(H:Int)]).length:=by rw[hlz.out];exact hjl
       obtain⟨z,hz⟩:∃z,([(H:Int)])[j]=z:=⟨_,rfl⟩
       have hzm:z∈[(H:Int)]:=by rw[<-hz];exact List.getElem_mem _
       obtain⟨bq,oq,hbo,hc0⟩:=HRd.out j (.int .i64 z) (by rw[List.getElem?_map,List.getElem?_eq_getElem hjz,hz];rfl);cases hbo;rw[Nat.zero_add]at hc0;have hc:=(HB.out.cell (World.block_lt_of_cell? _ _ hc0)).trans hc0;have CZ:=zH (CI.out z hzm);have HS2:Hid (S++(zS z++dkSp)=vJ (([(H:Int)]).take (j+1))):=zH (by rw[List.take_succ_eq_append_getElem hjz,qX,hz,HS.out]);have hzs:=ya z (h64.out z hzm).1 (h64.out z hzm).2;obtain⟨D,hD⟩:∃D,zS z=D:=⟨_,rfl⟩
       rw[hD]at hzs HS2 CZ;have e1:(D++dkSp).size=D.size+1:=zW _ _;have e2:(S++(D++dkSp)).size=S.size+(D.size+1):=by rw[zW,e1]
       have HE2:=zH e2;clear hz hc0 hD e1 e2;have k2:(j:Int)<(1:Int):=by omega
       go_wp2_with (go_at_call 16;(with_reducible refine(CZ.out _ HB.out).mono ?_);rintro e w9 ⟨rfl,hb9⟩)
       go_roundw
       case rel=>exact⟨j+1,S++(D++dkSp),by go_num,rfl,by omega,HS2,by have:=HE2.out;omega,zH (HB.out.trans (hb9.mono HB.out.size))⟩
       case measure=>simp[intOf];omega
     . obtain rfl:j=1:=by omega
       have HS2:Hid (S++dkDot=yx ([(H:Int)])):=zH (by unfold yx;rw[HS.out,List.take_of_length_le (by rw[hlz.out];exact Nat.le_refl _)]);go_wp2_with fail
       go_ret2
       rw[<-HS2.out];exact⟨rfl,HBW.out.trans (HB.out.mono HBW.out.size)⟩
theorem zch(a:Nat)(g cap:Nat)(w:World)(hW:DkW w)(c0:w.cell? ⟨g,0,none⟩=some (.int .i64 (a:Int))):
 Calls Tryz.prog 25 #[.string Cm.code.name,.slice (some ⟨g,0,none⟩) 1 cap] w (jr (po a) w):=by
 unfold po;by_cases h:2047<a
 . rw[if_pos h];exact Xb a h g cap w hW c0
 . rw[if_neg h];exact KD a (by omega) g cap w hW c0
theorem vh(c:ByteArray)(v:Value)(w:World)(h:NotComp c):
 Calls Tryz.prog 25 #[.string c,v] w fun e w'=>e=.returned (.tuple #[.string ⟨#[]⟩,.bool false])/\w=w':=by
 obtain⟨h1,h2,h3,h4⟩:=h;go_enter Tryz.func25,Tryz.ntmps25
 go_wp2_with fail
 go_ret2
 exact⟨rfl,rfl⟩
end Go.Proofs.YtmgfbmkfomebcaaGreatDoor
