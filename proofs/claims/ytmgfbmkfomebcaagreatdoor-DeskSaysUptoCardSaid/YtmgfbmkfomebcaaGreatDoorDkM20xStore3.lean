/- package store: newest. -/
import Derived.Test.YtmgfbmkfomebcaaGreatDoorDkM15
import Derived.Test.YtmgfbmkfomebcaaGreatDoorDkM16
import Derived.Test.YtmgfbmkfomebcaaGreatDoorDkM14xPiece7
set_option linter.unusedVariables false
set_option linter.unusedSimpArgs false
set_option maxRecDepth 100000
set_option maxHeartbeats 8000000
namespace Go.Proofs.YtmgfbmkfomebcaaGreatDoor
open Go.RowKit
theorem Qk:yb Tryz.prog 9 (.string ByteArray.empty) 1 16:=yf (by kernel_rfl) rfl (by omega)
def stV(a:Nat):List Value:=[.int .i64 (a:Int),.int .i64 0]
def qL(l:List Nat):List Value:=l.flatMap stV
theorem Ke(l:List Nat)(a:Nat):qL (l++[a])=qL l++stV a:=by simp[qL]
theorem K4{l:List Nat}{j a:Nat}(h:l[j]?=some a):(qL l)[j*2]?=some (.int .i64 (a:Int))/\(qL l)[j*2+1]?=some (.int .i64 0):=by
 induction l generalizing j with
 |nil=>simp at h
 |cons x t ih=>
  have e:qL (x::t)=stV x++qL t:=by simp[qL]
  have h4:(stV x).length=2:=rfl;cases j with
  |zero=>simp at h;subst h;exact⟨rfl,rfl⟩
  |succ j=>
   obtain⟨h1,h2⟩:=ih (by simpa using h);rw[e];exact⟨by rw[List.getElem?_append_right (by rw[h4];omega),h4,show(j+1)*2-2=j*2 by omega,h1],by rw[List.getElem?_append_right (by rw[h4];omega),h4,show(j+1)*2+1-2=j*2+1 by omega,h2]⟩
theorem zcV{w:World}{ao:Option Addr}{l:List Nat}(h:Reads w ao (qL l)){k a:Nat}(hk:l[k]?=some a):
 ∃b o,ao=some ⟨b,o,none⟩/\w.cell? ⟨b,o+k*2,none⟩=some (.int .i64 (a:Int))/\w.cell? ⟨b,o+k*2+1,none⟩=some (.int .i64 0):=by
 obtain⟨g1,g2⟩:=K4 hk;obtain⟨b,o,rfl,c1⟩:=h _ _ g1;obtain⟨b2,o2,e2,c2⟩:=h _ _ g2;cases e2;exact⟨b,o,rfl,c1,by rw[Nat.add_assoc];exact c2⟩
def zbk(r:Best)(w:World)(e:Ending)(w':World):Prop:=
 e=.returned (.tuple #[.agg #[.int .i64 (r.1:Int),.int .i64 0],.string r.2.1,.bool r.2.2])/\Below w.heap.size w w'
theorem jx(a b:Nat):zas (a:Int) 0 (b:Int) 0=decide (b<a):=by
 unfold zas;simp
def qS(st:St)(key:Nat)(U:List Nat)(j:Nat):List Nat:=(U.take j).flatMap fun i=>(st.kp i key).map (·.1)
theorem pp(st:St)(key:Nat){U:List Nat}{j i:Nat}(h:U[j]?=some i):qS st key U (j+1)=qS st key U j++(st.kp i key).map (·.1):=by
 unfold qS;rw[qF h,List.flatMap_append];simp
theorem zbM{st:St}{B:Nat}(key:Nat)(hB:∀i,(st.kp i key).length<=B)(U:List Nat)(j:Nat):(qS st key U j).length<=j*B:=by
 induction j with
 |zero=>simp[qS]
 |succ j ih=>
  rw[Nat.succ_mul];cases h:U[j]? with
  |none=>
   have e:qS st key U (j+1)=qS st key U j:=by
    unfold qS;rw[List.getElem?_eq_none_iff]at h;rw[List.take_of_length_le h,List.take_of_length_le (by omega)]
   rw[e];omega
  |some i=>
   rw[pp st key h,List.length_append,List.length_map];have:=hB i;omega
theorem K5{st:St}(hok:Okst st)(key:Nat)(U:List Nat)(j:Nat):(qS st key U j).length<=j*1000000:=zbM key (fun i=>hok.len i key) U j
def qC(st:St)(key a:Nat)(U:List Nat)(j:Nat)(x:Nat):Value:=.string (if x∈U.take j then vu (st.kp x key) a else ByteArray.empty)
theorem pT(st:St)(key a:Nat){U:List Nat}{j i:Nat}(h:U[j]?=some i)(x:Nat):(if x=i then Value.string (vu (st.kp i key) a) else qC st key a U j x)=qC st key a U (j+1) x:=by
 unfold qC;rw[qF h];by_cases hx:x=i
 . subst hx;rw[if_pos rfl,if_pos (by simp)]
 . rw[if_neg hx];by_cases h2:x∈U.take j
   . rw[if_pos h2,if_pos (by simp[h2])]
   . rw[if_neg h2,if_neg (by simp[h2,hx])]
theorem Yr(n:Nat)(st:St)(key a:Nat):zX n (qC st key a (ups n st) (ups n st).length)=(kv n st key a).map Value.string:=by
 unfold kv;rw[zaB];apply kT;intro j hj;unfold qC;rw[List.take_length];cases hd:st.dn j with
 |true=>rw[if_neg (by rw[vP,hd];simp),if_pos rfl]
 |false=>rw[if_pos (by rw[vP];exact⟨hj,hd⟩),if_neg (by simp)]
theorem K6{n k:Nat}{st:St}{key:Nat}{b a:Nat}{t:ByteArray}(h:¬b<a):qP n k st key (b,t,true) a=(b,t,true):=if_pos ⟨rfl,by show a<=b;omega⟩
theorem Ql{n k:Nat}{st:St}{key:Nat}{acc:Best}{a:Nat}(h:acc.2.2=false\/acc.1<a){S:ByteArray}(hj:JoinIs (kv n st key a) n (k:Int) S 0):qP n k st key acc a=(a,S,true):=by
 unfold qP;obtain⟨h1,h2⟩:=Ju hj;rw[if_neg (by rintro⟨h3,h4⟩;rcases h with h|h;rw[h]at h3;cases h3;omega),if_pos h2,h1]
theorem Yh{n k:Nat}{st:St}{key:Nat}{acc:Best}{a:Nat}{S:ByteArray}{E:Nat}(hE:E≠0)(hj:JoinIs (kv n st key a) n (k:Int) S E):qP n k st key acc a=acc:=by
 unfold qP;obtain⟨h1,h2⟩:=Ju hj;by_cases g:acc.2.2=true/\a<=acc.1
 . rw[if_pos g]
 . rw[if_neg g,if_neg (by rw[h2];exact hE)]
theorem Kf{w:World}{base:Nat}{Av:Nat->Prop}{n k wr r b nb:Nat}{V:Nat->Nat->Value}{st:St}(key:Nat)(hkey:key<3)(hk1:1<=k)(hkn:k<=n)(hn:n<=10)(h:Shf w base Av n k wr r b nb V st):
 Calls Tryz.prog 130 #[.pointer (some ⟨b,0,none⟩),.int .i64 (key:Int)] w (zbk (newest n k st key) w):=by
 obtain⟨W1,hW1⟩:∃W1,w.alloc (.cells #[.int .i64 0,.int .i64 0] 68)=W1:=⟨_,rfl⟩
 have hbel:Below w.heap.size w W1:=by rw[<-hW1];exact zc _ _
 have hres:W1.heap[w.heap.size]?=some (.cells #[.int .i64 0,.int .i64 0] 68 (0,0)):=by rw[<-hW1];exact heap_alloc_new w _
 have hsz:W1.heap.size=w.heap.size+1:=by rw[<-hW1];simp
 have hS1:=h.below hbel;have CU:Hid (∀W,Below W1.heap.size W1 W->Calls Tryz.prog 127 #[.pointer (some ⟨b,0,none⟩)] W (kr (ups n st) W)):=zH fun W hb=>pj hn (hS1.below hb)
 unfold kr at CU;have HS:Hid (∀W,Below W1.heap.size W1 W->Shf W base Av n k wr r b nb V st):=zH fun W hb=>hS1.below hb
 have HOK:=zH h.ok;have hul:=kz n st;have HUM:Hid (∀i,i∈ups n st->i<n):=zH fun i hi=>(vP.1 hi).1
 have HNW:Hid (newest n k st key=(pX n st key).foldl (qP n k st key) (0,ByteArray.empty,false)):=zH rfl;have HST:Hid (pX n st key=qS st key (ups n st) (ups n st).length):=zH (by unfold pX qS;rw[List.take_length]);have HDONE:=zH (Yr n st key);obtain⟨NW,hNW⟩:∃NW,newest n k st key=NW:=⟨_,rfl⟩
 rw[hNW]at HNW ⊢;obtain⟨U,hU⟩:∃U,ups n st=U:=⟨_,rfl⟩
 rw[hU]at CU hul HUM HST HDONE;obtain⟨u,hu⟩:∃u,U.length=u:=⟨_,rfl⟩
 rw[hu]at CU hul HST HDONE;have HUL:=zH hu;have HB0:=zH hbel;have HRES:=zH hres;have HSZ:=zH hsz;obtain⟨gb,hgb⟩:∃gb,W1.heap.size=gb:=⟨_,rfl⟩
 have HGB:=zH hgb;clear h hbel hres hsz hS1 hU hu hNW hgb;go_enter Tryz.func130,Tryz.ntmps130
 go_wp2_with fail
 (with_reducible refine(CU.out _ (Below.refl _ _)).mono ?_)
 rintro e w1 ⟨ao1,cap1,rfl,hown1,hb1⟩;have HB1:Hid (Below gb W1 w1):=zH (by rw[<-HGB.out];exact hb1);obtain⟨ao1',cap1',hv,hR1,_,_⟩:=zr hown1;cases hv;have HR1:=zH hR1;obtain⟨gs,hgs⟩:∃gs,w1.heap.size=gs:=⟨_,rfl⟩
 have HGS:=zH hgs;have HS1:Hid (∀W,Below gs w1 W->Shf W base Av n k wr r b nb V st):=zH fun W hb=>HS.out W (hb1.trans (hb.mono (by rw[<-hgs];exact hb1.size)))
 have CU1:=zH (fun W (hb:Below gs w1 W)=>CU.out W (hb1.trans (hb.mono (by rw[<-hgs];exact hb1.size))));clear hown1 hb1 hR1 hgs CU HS hW1;go_wp2_with fail
 go_loopw [7,25] (fun vo vj wr=>∃j:Nat,vj=.int .i64 j/\j<=u/\Hid (wr.ownsRow gs 68 2 vo (qS st key U j).length (qL (qS st key U j)))/\Hid (Below gs w1 wr)) (fun _ vj _=>u-(intOf vj).toNat)
 case atStart=>exact⟨0,rfl,by omega,zH (World.ownsRow_nil _ _ _ _),zH (Below.refl _ _)⟩
 case round=>
  obtain⟨j,rfl,hj,HO,HB⟩:=hrel;obtain⟨wo,rfl⟩:∃wo,wo=wr:=⟨_,rfl⟩
  have HBg:Hid (Below w1.heap.size w1 wo):=zH (by rw[HGS.out];exact HB.out);by_cases hju:j<u
  . obtain⟨i,hi⟩:∃i,U[j]?=some i:=⟨U[j]'(by rw[HUL.out];exact hju),List.getElem?_eq_getElem _⟩
    have hin:=HUM.out i (List.mem_of_getElem? hi);obtain⟨bu,ou,hra,xu⟩:=(HR1.out.below HBg.out) j _ (yN hi);cases hra;have HI:=zH hi;have hS:=HS1.out _ HB.out;have x4:=hS.cells.2.2.2.2.1;obtain⟨ak,ck,hvk,hRk,hnk⟩:=hS.reads hin hkey;have xk:=hS.kpc hin hkey;rw[hvk]at xk;obtain⟨lk,hlk⟩:∃lk,(st.kp i key).length=lk:=⟨_,rfl⟩
    have hlk6:=HOK.out.len i key;rw[hlk]at xk hlk6;have HLK:=zH hlk;have HVK:Hid (V i key=.slice ak lk ck):=zH (by rw[<-hlk];exact hvk);have hsl:=K5 HOK.out key U j;have i0:(0:Int)<=(i:Int):=by omega
    have i1:(i:Int)<(n:Int):=by omega
    have y0:(0:Int)<=(key:Int):=by omega
    have y1:(key:Int)<3:=by omega
    have hj10:j<=10:=by omega
    obtain⟨ls,hls⟩:∃ls,(qS st key U j).length=ls:=⟨_,rfl⟩
    rw[hls]at HO hsl;have hls7:ls<=10000000:=by omega
    have HLS:=zH hls;clear hi hvk hRk hlk hnk hsl hls hS;go_wp2_with fail
    go_loopw [7,40] (fun vo vq wr=>∃q:Nat,vq=.int .i64 q/\q<=lk/\Hid (wr.ownsRow gs 68 2 vo (ls+q) (qL (qS st key U j++((st.kp i key).take q).map (·.1))))/\Hid (Below gs w1 wr)) (fun _ vq _=>lk-(intOf vq).toNat)
    case atStart=>exact⟨0,rfl,by omega,zH (by simpa using HO.out),HB⟩
    case round=>
     clear HO HB HBg;obtain⟨q,rfl,hq,HO,HB⟩:=hrel;obtain⟨wq,rfl⟩:∃wq,wq=wr:=⟨_,rfl⟩
     have HBg:Hid (Below w1.heap.size w1 wq):=zH (by rw[HGS.out];exact HB.out);by_cases hql:q<lk
     . obtain⟨ak',ck',hvk',hRk,_⟩:=(HS1.out _ HB.out).reads hin hkey;rw[HVK.out]at hvk';cases hvk';obtain⟨bk,ok,hrk,z0,z1,z2⟩:=y9 hRk (k:=q) (by rw[HLK.out];exact hql);cases hrk;obtain⟨x,hx⟩:∃x,(st.kp i key)[q]'(by rw[HLK.out];exact hql)=x:=⟨_,rfl⟩
       have HTK:Hid ((st.kp i key).take (q+1)=(st.kp i key).take q++[x]):=zH (by rw[List.take_succ_eq_append_getElem (by rw[HLK.out];exact hql),hx]);rw[hx]at z0 z2;obtain⟨a,s⟩:=x;obtain⟨W2,hW2⟩:∃W2,wq.alloc (.cells #[.int .i64 (a:Int),.int .i64 0,.string s] 106)=W2:=⟨_,rfl⟩
       have hb2:Below wq.heap.size wq W2:=by rw[<-hW2];exact zc _ _
       have n0:W2.cell? ⟨wq.heap.size,0,none⟩=some (.int .i64 (a:Int)):=by rw[<-hW2];simp[World.cell?_alloc_new]
       have n1:W2.cell? ⟨wq.heap.size,1,none⟩=some (.int .i64 0):=by rw[<-hW2];simp[World.cell?_alloc_new]
       have HOx:=zH (zi HO.out hb2);have HBx:Hid (Below gs w1 W2):=zH (HB.out.trans (hb2.mono (by rw[<-HGS.out];exact HBg.out.size)));clear hx hb2 hRk;go_wp2_with (first
        |(at_builtin;go_loud (refine yr rfl (.tmp 44) (.tmp 47) 211 rfl gs 68 _ 2 16 Tryz.underlying211 zcr _ _ _ (by rfl) HOx.out [.int .i64 (a:Int),.int .i64 0] (by rfl) rfl (by intro u hu;simp at hu;rcases hu with rfl|rfl<;>rfl) (by unfold maxLen;omega) (by omega) (by rw[<-HGS.out];exact HBx.out.size) ?_);intro v5 w5 hown5 hgr5 hb5;have HO5:Hid (w5.ownsRow gs 68 2 v5 (ls+(q+1)) (qL (qS st key U j++((st.kp i key).take (q+1)).map (·.1)))):=zH (by rw[HTK.out,List.map_append,<-List.append_assoc];rw[List.map_cons,List.map_nil,Ke];exact hown5);have HB5:=zH (HBx.out.trans hb5);clear hown5 hgr5 hb5)
        |fail)
       go_roundw
       case rel=>exact⟨q+1,by go_num,by omega,HO5,HB5⟩
       case measure=>simp[intOf];omega
     . obtain rfl:lk=q:=by omega
       have HO9:Hid (wq.ownsRow gs 68 2 u7 (qS st key U (j+1)).length (qL (qS st key U (j+1)))):=zH (by
        have e:=HO.out;rw[List.take_of_length_le (by rw[HLK.out];exact Nat.le_refl _),<-pp st key HI.out]at e;have e2:(qS st key U (j+1)).length=ls+lk:=by rw[pp st key HI.out,List.length_append,List.length_map,HLK.out,HLS.out]
        rw[e2];exact e)
       go_wp2_with fail
       go_roundw
       case rel=>exact⟨j+1,by go_num,by omega,HO9,HB⟩
       case measure=>simp[intOf];omega
  . obtain rfl:u=j:=by omega
    obtain⟨S,hS⟩:∃S,pX n st key=S:=⟨_,rfl⟩
    have HSS:Hid (qS st key U u=S):=zH (by rw[<-HST.out,hS]);rw[hS]at HNW;rw[HSS.out]at HO;obtain⟨ls,hls⟩:∃ls,S.length=ls:=⟨_,rfl⟩
    rw[hls]at HO;have hls7:ls<=10000000:=by
     have:=K5 HOK.out key U u;rw[HSS.out,hls]at this;omega
    have HLS:=zH hls;obtain⟨aS,cS,rfl,hRS,_,_⟩:=zr HO.out;have HRS:=zH hRS;obtain⟨W3,hW3⟩:∃W3,wo.alloc (.cells #[.int .i64 0,.int .i64 0] 68)=W3:=⟨_,rfl⟩
    obtain⟨B2,hB2⟩:∃B2,wo.heap.size=B2:=⟨_,rfl⟩
    have hb3:Below B2 wo W3:=by rw[<-hW3,<-hB2];exact zc _ _
    have h3:W3.heap[B2]?=some (.cells #[.int .i64 0,.int .i64 0] 68 (0,0)):=by rw[<-hW3,<-hB2];exact heap_alloc_new wo _
    have HB3:=zH hb3;have HH3:=zH h3;have HBB:=zH hB2;have HGB2:Hid (gs<=B2):=zH (by rw[<-HGS.out,<-hB2];exact HBg.out.size);clear hS hls hRS hb3 h3 HST HO;go_wp2_with fail
    clear hB2 hW3;go_loopw [13,14,53] (fun vt vf vj wr=>∃(j b1:Nat) (t1:ByteArray) (f1:Bool),vj=.int .i64 j/\j<=ls/\vt=.string t1/\vf=.bool f1/\Hid ((S.take j).foldl (qP n k st key) (0,ByteArray.empty,false)=(b1,t1,f1))/\Hid (wr.heap[B2]?=some (.cells #[.int .i64 (b1:Int),.int .i64 0] 68 (0,0)))/\Hid (Below B2 wo wr)) (fun _ _ vj _=>ls-(intOf vj).toNat)
    case atStart=>exact⟨0,0,ByteArray.empty,false,rfl,by omega,rfl,rfl,zH rfl,HH3,HB3⟩
    case round=>
     clear HB3 HH3;obtain⟨j,b1,t1,f1,rfl,hj2,rfl,rfl,HF,HH,HB4⟩:=hrel;obtain⟨wl,rfl⟩:∃wl,wl=wr:=⟨_,rfl⟩
     have HB4':Hid (Below gs w1 wl):=zH (HB.out.trans (HB4.out.mono HGB2.out));have HBs:Hid (B2<=wl.heap.size):=zH (by rw[<-HBB.out];exact(HBB.out ▸ HB4.out).size);by_cases hjl:j<ls
     . obtain⟨a,ha⟩:∃a,S[j]?=some a:=⟨S[j]'(by rw[HLS.out];exact hjl),List.getElem?_eq_getElem _⟩
       obtain⟨bs,os,hra,x0,x1⟩:=zcV (HRS.out.below (HBB.out.symm ▸ HB4.out)) ha;cases hra;have HA:=zH ha;have HFS:=zH (jb (qP n k st key) (0,ByteArray.empty,false) ha);obtain⟨W4,hW4⟩:∃W4,wl.alloc (.cells #[.int .i64 (a:Int),.int .i64 0] 68)=W4:=⟨_,rfl⟩
       have hb4:Below wl.heap.size wl W4:=by rw[<-hW4];exact zc _ _
       have n0:W4.cell? ⟨wl.heap.size,0,none⟩=some (.int .i64 (a:Int)):=by rw[<-hW4];simp[World.cell?_alloc_new]
       have n1:W4.cell? ⟨wl.heap.size,1,none⟩=some (.int .i64 0):=by rw[<-hW4];simp[World.cell?_alloc_new]
       have hh4:W4.heap[B2]?=some (.cells #[.int .i64 (b1:Int),.int .i64 0] 68 (0,0)):=by rw[<-hW4];exact za _ _ HH.out
       obtain⟨m0,m1⟩:=zc2 hh4;rw[<-hW4]at m0 m1;have HB44:=zH hb4;have HH4:=zH hh4;have HSl:Hid (wl.heap.size<W4.heap.size):=zH (by rw[<-hW4];simp);have HSE:Hid (W4.heap.size=wl.heap.size+1):=zH (by rw[<-hW4];simp);have HW4:=zH hW4;clear ha hb4 hh4 hW4;cases f1 with
       |true=>
        have CN:=zH (fun W=>QT (a:Int) 0 (b1:Int) 0 W);rw[jx]at CN;by_cases hba:b1<a
        . have hd:decide (b1<a)=true:=decide_eq_true hba;rw[hd]at CN;have HBA:Hid ((((b1,t1,true):Best)).2.2=false\/b1<a):=zH (.inr hba);clear hba hd;go_wp2_with fail
          (with_reducible refine(CN.out _).mono ?_)
          rintro e w5 ⟨rfl,hb5⟩;rw[HW4.out]at hb5;have HB5:Hid (Below wl.heap.size wl w5):=zH (HB44.out.trans (hb5.mono (Nat.le_of_lt HSl.out)));have HB6:Hid (Below gs w1 w5):=zH (HB4'.out.trans (HB5.out.mono (by rw[<-HGS.out];exact(HGS.out.symm ▸ HB4'.out).size)));have hS5:=HS1.out _ HB6.out;have q0:=(hb5.cell (p:=⟨wl.heap.size,0,none⟩) HSl.out).trans n0;have q1:=(hb5.cell (p:=⟨wl.heap.size,1,none⟩) HSl.out).trans n1;have x4:=hS5.cells.2.2.2.2.1;have HH5:Hid (w5.heap[B2]?=some (.cells #[.int .i64 (b1:Int),.int .i64 0] 68 (0,0))):=zH ((hb5.block B2 (Array.getElem?_eq_some_iff.1 HH4.out).1).trans HH4.out);have HS45:Hid (W4.heap.size<=w5.heap.size):=zH hb5.size;have HQ0:=zH q0;have HQ1:=zH q1;have HS5:=zH hS5;clear hb5 hS5 q0 q1 x0 x1 n0 n1 m0 m1 CN;go_wp2_with (first
           |(at_make;go_loud (refine qh rfl _ _ 22 rfl w5.heap.size 9 _ 16 Tryz.underlying22 Qk rfl _ _ _ _ n (by rfl) (by rfl) rfl rfl (by omega) (by unfold maxLen;omega) (Nat.le_refl _) ?_);intro w6 hown6 hg6)
           |fail)
          have HSW:Hid (wl.heap.size<w5.heap.size):=zH (Nat.lt_of_lt_of_le HSl.out HS45.out);obtain⟨G,hG⟩:∃G,w5.heap.size=G:=⟨_,rfl⟩
          rw[hG];have hown6:Own w6 w5.heap.size 9 G n n (fun _=>.string ByteArray.empty):=by rw[<-hG];rw[hG]at hown6;exact hG ▸ hown6
          clear hG;have HO6:=zH hown6;have HB56:Hid (Below w5.heap.size w5 w6):=zH (zQ hg6 (Nat.le_refl _) (fun k hk=>by cases hk));have HB7:Hid (Below gs w1 w6):=zH (HB6.out.trans (HB56.out.mono (by rw[<-HGS.out];exact(HGS.out.symm ▸ HB6.out).size)));have HGl:Hid (G<w6.heap.size):=zH hown6.lt.2;clear hown6 hg6;go_wp2_with fail
          (with_reducible refine(CU1.out _ HB7.out).mono ?_)
          rintro e w7 ⟨ao7,cap7,rfl,hown7,hb7⟩;have HO7:Hid (Own w7 w5.heap.size 9 G n n (qC st key a U 0)):=zH ((HO6.out.below hb7).congr fun j _=>by unfold qC;simp);have HU7:=zH hown7;have HB57:Hid (Below w5.heap.size w5 w7):=zH (HB56.out.trans (hb7.mono HB56.out.size));clear hown7 hb7;go_wp2_with fail
          go_loopw [73] (fun vq wr=>∃q:Nat,vq=.int .i64 q/\q<=u/\Hid (Own wr w5.heap.size 9 G n n (qC st key a U q))/\Hid (wr.ownsRow w6.heap.size 3 1 (.slice ao7 u cap7) u (zZ U))/\Hid (Below w5.heap.size w5 wr)) (fun vq _=>u-(intOf vq).toNat)
          case atStart=>exact⟨0,rfl,by omega,HO7,HU7,HB57⟩
          case round=>
           clear HO7 HU7 HB57;obtain⟨q,rfl,hq,HOq,HUq,HBq⟩:=hrel;obtain⟨wq,rfl⟩:∃wq,wq=wr:=⟨_,rfl⟩
           have HBq1:Hid (Below gs w1 wq):=zH (HB6.out.trans (HBq.out.mono (by rw[<-HGS.out];exact(HGS.out.symm ▸ HB6.out).size)));by_cases hqu:q<u
           . obtain⟨i,hi⟩:∃i,U[q]?=some i:=⟨U[q]'(by rw[HUL.out];exact hqu),List.getElem?_eq_getElem _⟩
             have hin:=HUM.out i (List.mem_of_getElem? hi);obtain⟨bu,ou,hra,xu⟩:=(zF HUq.out) q _ (yN hi);cases hra;have HI:=zH hi;have hSq:=HS1.out _ HBq1.out;have x4:=hSq.cells.2.2.2.2.1;obtain⟨ak,ck,hvk,hRk,hnk⟩:=hSq.reads hin hkey;have xk:=hSq.kpc hin hkey;rw[hvk]at xk;have q0:=(HBq.out.cell (p:=⟨wl.heap.size,0,none⟩) HSW.out).trans HQ0.out;have q1:=(HBq.out.cell (p:=⟨wl.heap.size,1,none⟩) HSW.out).trans HQ1.out;obtain⟨lk,hlk⟩:∃lk,(st.kp i key).length=lk:=⟨_,rfl⟩
             have hlk6:=HOK.out.len i key;rw[hlk]at xk hlk6;have CF:Hid (∀W,Below wq.heap.size wq W->Calls Tryz.prog 150 #[.slice ak lk ck,.agg #[.int .i64 (a:Int),.int .i64 0]] W (pb (vu (st.kp i key) a) W)):=zH fun W hb=>Xj (st.kp i key) lk a ak ck W hlk (by omega) (zH (hRk.below hb))
             unfold pb at CF;obtain⟨PK,hPK⟩:∃PK,vu (st.kp i key) a=PK:=⟨_,rfl⟩
             rw[hPK]at CF;have HPK:=zH hPK;have hgl:=HOq.out.lt;have pc:=HOq.out.cell hin;have pf:=HOq.out.frozen i;have i0:(0:Int)<=(i:Int):=by omega
             have i1:(i:Int)<(n:Int):=by omega
             have y0:(0:Int)<=(key:Int):=by omega
             have y1:(key:Int)<3:=by omega
             have HLX:Hid (b<wq.heap.size/\nb<wq.heap.size/\wl.heap.size<wq.heap.size):=zH ⟨hSq.blt,hSq.nodes.lt.2,Nat.lt_of_lt_of_le HSW.out HBq.out.size⟩;have HNE:Hid (b≠G/\nb≠G/\wl.heap.size≠G):=zH (by
              have h1:=HS5.out.blt;have h2:=HS5.out.nodes.lt.2;have h3:=HSW.out;refine⟨?_,?_,?_⟩<;>omega)
             clear hi hvk hRk hlk hnk hPK hSq;go_wp2_with fail
             go_region_held3 (fun w'=>w'.cell? ⟨b,4,none⟩=some (.slice (some ⟨nb,0,none⟩) n n)/\w'.cell? ⟨nb,i*4+1+key,none⟩=some (.slice ak lk ck)/\w'.cell? ⟨wl.heap.size,0,none⟩=some (.int .i64 (a:Int))/\w'.cell? ⟨wl.heap.size,1,none⟩=some (.int .i64 0)) (first|exact⟨(hb9.cell (p:=⟨b,4,none⟩) HLX.out.1).trans x4,(hb9.cell (p:=⟨nb,i*4+1+key,none⟩) HLX.out.2.1).trans xk,(hb9.cell (p:=⟨wl.heap.size,0,none⟩) HLX.out.2.2).trans q0,(hb9.cell (p:=⟨wl.heap.size,1,none⟩) HLX.out.2.2).trans q1⟩|exact⟨z7 HNE.out.1 ((hb9.cell (p:=⟨b,4,none⟩) HLX.out.1).trans x4),z7 HNE.out.2.1 ((hb9.cell (p:=⟨nb,i*4+1+key,none⟩) HLX.out.2.1).trans xk),z7 HNE.out.2.2 ((hb9.cell (p:=⟨wl.heap.size,0,none⟩) HLX.out.2.2).trans q0),z7 HNE.out.2.2 ((hb9.cell (p:=⟨wl.heap.size,1,none⟩) HLX.out.2.2).trans q1)⟩|go_keep)
              (first|(go_at_call 150;(with_reducible refine(CF.out _ (by first|exact Below.refl _ _|exact zb (Below.refl _ _))).mono ?_);rintro e w9 ⟨b9,rfl,hb9⟩;have pc9:=(hb9.cell (p:=⟨G,i,none⟩) hgl.2).trans pc;have pf9:=(hb9.frozen (p:=⟨G,i,none⟩) hgl.2).trans pf))
             all_goals
              have HB9:Hid (Below wq.heap.size wq w9):=zH (by first|exact hb9|exact(zb (Below.refl _ _)).trans hb9);have A9:=(HOq.out.below HB9.out).store i (.string PK);have HOn:Hid (Own (w9.setCell ⟨G,i,none⟩ (.string PK)) w5.heap.size 9 G n n (qC st key a U (q+1))):=zH (A9.1.congr fun x _=>by rw[<-HPK.out];exact pT st key a HI.out x);have HUn:=zH ((zi HUq.out HB9.out).kept A9.2 (.inr fun e=>by have:=(HUq.out.lt _ e).1;have:=HGl.out;omega));have HBn:Hid (Below w5.heap.size w5 (w9.setCell ⟨G,i,none⟩ (.string PK))):=zH (zk (HBq.out.trans (HB9.out.mono HBq.out.size)) HOq.out.lt.1 _);clear hb9 A9 pc9 pf9;go_wp2_with fail
              go_roundw
              case rel=>exact⟨q+1,by go_num,by omega,HOn,HUn,HBn⟩
              case measure=>simp[intOf];omega
           . obtain rfl:u=q:=by omega
             have hSq:=HS1.out _ HBq1.out;have c1:=hSq.cells.2.1;have CJ:=zH (Xg (kv n st key a) n (some ⟨G,0,none⟩) n (k:Int) wq ⟨pz _ _ _ _,by omega,fun s hs=>by
              unfold kv qD at hs;obtain⟨x,_,rfl⟩:=List.mem_map.1 hs;cases st.dn x with
              |true=>simp
              |false=>
               have:=pw (l:=st.kp x key) (a:=a) (m:=65) (fun y hy=>(HOK.out.rng x key y hy).2.2.2);show(vu (st.kp x key) a).size<=_;omega,by rw[<-HDONE.out a];exact HOq.out.reads⟩)
             unfold jq at CJ;clear hSq;go_wp2_with fail
             (with_reducible refine CJ.out.mono ?_)
             rintro e w10 ⟨S10,E10,hJ,rfl,hb10⟩;have HJ:=zH hJ;have HB10:Hid (Below w5.heap.size w5 w10):=zH (HBq.out.trans (hb10.mono HBq.out.size));have HH10:Hid (w10.heap[B2]?=some (.cells #[.int .i64 (b1:Int),.int .i64 0] 68 (0,0))):=zH ((HB10.out.block B2 (Array.getElem?_eq_some_iff.1 HH5.out).1).trans HH5.out);have HBx:Hid (Below B2 wo w10):=zH (HB4.out.trans ((HB5.out.trans (HB10.out.mono (Nat.le_of_lt HSW.out))).mono HBs.out));have q0:=(HB10.out.cell (p:=⟨wl.heap.size,0,none⟩) HSW.out).trans HQ0.out;have q1:=(HB10.out.cell (p:=⟨wl.heap.size,1,none⟩) HSW.out).trans HQ1.out;clear hb10 hJ CJ;by_cases hE:E10=0
             . subst hE;have HFn:Hid ((S.take (j+1)).foldl (qP n k st key) (0,ByteArray.empty,false)=(a,S10,true)):=zH (by rw[HFS.out,HF.out];exact Ql HBA.out HJ.out);obtain⟨m0,m1⟩:=zc2 HH10.out;obtain⟨fr0,fr1⟩:=zf2 HH10.out;have HHn:Hid (((w10.setCell ⟨B2,0,none⟩ (.int .i64 (a:Int))).setCell ⟨B2,1,none⟩ (.int .i64 0)).heap[B2]?=some (.cells #[.int .i64 (a:Int),.int .i64 0] 68 (0,0))):=zH (by rw[heap_set _ (heap_set _ HH10.out)];rfl);have HBn:Hid (Below B2 wo ((w10.setCell ⟨B2,0,none⟩ (.int .i64 (a:Int))).setCell ⟨B2,1,none⟩ (.int .i64 0))):=zH (zk (zk HBx.out (Nat.le_refl _) _) (Nat.le_refl _) _);go_wp2_with fail
               go_roundw
               case rel=>exact⟨j+1,a,S10,true,by go_num,by omega,rfl,rfl,HFn,HHn,HBn⟩
               case measure=>simp[intOf];omega
             . have t0:((E10:Int)==0)=false:=by simp;omega
               have HFn:Hid ((S.take (j+1)).foldl (qP n k st key) (0,ByteArray.empty,false)=(b1,t1,true)):=zH (by rw[HFS.out,HF.out];exact Yh hE HJ.out);clear hE;go_wp2_with fail
               go_roundw
               case rel=>exact⟨j+1,b1,t1,true,by go_num,by omega,rfl,rfl,HFn,HH10,HBx⟩
               case measure=>simp[intOf];omega
        . have hd:decide (b1<a)=false:=decide_eq_false hba;rw[hd]at CN;have HBA:=zH hba;clear hba hd;go_wp2_with fail
          (with_reducible refine(CN.out _).mono ?_)
          rintro e w5 ⟨rfl,hb5⟩;rw[HW4.out]at hb5;have HF5:Hid ((S.take (j+1)).foldl (qP n k st key) (0,ByteArray.empty,false)=(b1,t1,true)):=zH (by rw[HFS.out,HF.out];exact K6 HBA.out);have HH5:Hid (w5.heap[B2]?=some (.cells #[.int .i64 (b1:Int),.int .i64 0] 68 (0,0))):=zH ((hb5.block B2 (Array.getElem?_eq_some_iff.1 HH4.out).1).trans HH4.out);have HB5:Hid (Below B2 wo w5):=zH (HB4.out.trans ((HB44.out.trans (hb5.mono (Nat.le_of_lt HSl.out))).mono HBs.out));clear hb5;go_wp2_with fail
          go_roundw
          case rel=>exact⟨j+1,b1,t1,true,by go_num,by omega,rfl,rfl,HF5,HH5,HB5⟩
          case measure=>simp[intOf];omega
       |false=>
        have HBA:Hid ((((b1,t1,false):Best)).2.2=false\/b1<a):=zH (.inl rfl);have HB5:Hid (Below wl.heap.size wl W4):=zH HB44.out;have HB6:Hid (Below gs w1 W4):=zH (HB4'.out.trans (HB5.out.mono (by rw[<-HGS.out];exact(HGS.out.symm ▸ HB4'.out).size)));have hS5:=HS1.out _ HB6.out;have q0:=n0;have q1:=n1;have x4:=hS5.cells.2.2.2.2.1;rw[<-HW4.out]at x4;have HH5:Hid (W4.heap[B2]?=some (.cells #[.int .i64 (b1:Int),.int .i64 0] 68 (0,0))):=zH HH4.out;have HS45:Hid (W4.heap.size<=W4.heap.size):=zH (Nat.le_refl _);have HQ0:=zH q0;have HQ1:=zH q1;have HS5:=zH hS5;clear hS5 q0 q1 n0 n1 m0 m1;go_wp2_with (first
         |(at_make;go_loud (refine qh rfl _ _ 22 rfl W4.heap.size 9 _ 16 Tryz.underlying22 Qk rfl _ _ _ _ n (by rfl) (by rfl) rfl rfl (by omega) (by unfold maxLen;omega) (by rw[HW4.out];exact Nat.le_refl _) ?_);intro w6 hown6 hg6)
         |fail)
        have HSW:Hid (wl.heap.size<W4.heap.size):=zH (Nat.lt_of_lt_of_le HSl.out HS45.out);rw[HW4.out]at hown6 hg6;clear x0 x1;obtain⟨G,hG⟩:∃G,wl.heap.size+1=G:=⟨_,rfl⟩
        rw[hG];have hown6:Own w6 W4.heap.size 9 G n n (fun _=>.string ByteArray.empty):=by rw[<-hG,<-HSE.out];exact hown6
        clear hG;have HO6:=zH hown6;have HB56:Hid (Below W4.heap.size W4 w6):=zH (zQ hg6 (Nat.le_refl _) (fun k hk=>by cases hk));have HB7:Hid (Below gs w1 w6):=zH (HB6.out.trans (HB56.out.mono (by rw[<-HGS.out];exact(HGS.out.symm ▸ HB6.out).size)));have HGl:Hid (G<w6.heap.size):=zH hown6.lt.2;clear hown6 hg6;go_wp2_with fail
        (with_reducible refine(CU1.out _ HB7.out).mono ?_)
        rintro e w7 ⟨ao7,cap7,rfl,hown7,hb7⟩;have HO7:Hid (Own w7 W4.heap.size 9 G n n (qC st key a U 0)):=zH ((HO6.out.below hb7).congr fun j _=>by unfold qC;simp);have HU7:=zH hown7;have HB57:Hid (Below W4.heap.size W4 w7):=zH (HB56.out.trans (hb7.mono HB56.out.size));clear hown7 hb7;go_wp2_with fail
        go_loopw [73] (fun vq wr=>∃q:Nat,vq=.int .i64 q/\q<=u/\Hid (Own wr W4.heap.size 9 G n n (qC st key a U q))/\Hid (wr.ownsRow w6.heap.size 3 1 (.slice ao7 u cap7) u (zZ U))/\Hid (Below W4.heap.size W4 wr)) (fun vq _=>u-(intOf vq).toNat)
        case atStart=>exact⟨0,rfl,by omega,HO7,HU7,HB57⟩
        case round=>
         clear HO7 HU7 HB57;obtain⟨q,rfl,hq,HOq,HUq,HBq⟩:=hrel;obtain⟨wq,rfl⟩:∃wq,wq=wr:=⟨_,rfl⟩
         have HBq1:Hid (Below gs w1 wq):=zH (HB6.out.trans (HBq.out.mono (by rw[<-HGS.out];exact(HGS.out.symm ▸ HB6.out).size)));by_cases hqu:q<u
         . obtain⟨i,hi⟩:∃i,U[q]?=some i:=⟨U[q]'(by rw[HUL.out];exact hqu),List.getElem?_eq_getElem _⟩
           have hin:=HUM.out i (List.mem_of_getElem? hi);obtain⟨bu,ou,hra,xu⟩:=(zF HUq.out) q _ (yN hi);cases hra;have HI:=zH hi;have hSq:=HS1.out _ HBq1.out;have x4:=hSq.cells.2.2.2.2.1;obtain⟨ak,ck,hvk,hRk,hnk⟩:=hSq.reads hin hkey;have xk:=hSq.kpc hin hkey;rw[hvk]at xk;have q0:=(HBq.out.cell (p:=⟨wl.heap.size,0,none⟩) HSW.out).trans HQ0.out;have q1:=(HBq.out.cell (p:=⟨wl.heap.size,1,none⟩) HSW.out).trans HQ1.out;obtain⟨lk,hlk⟩:∃lk,(st.kp i key).length=lk:=⟨_,rfl⟩
           have hlk6:=HOK.out.len i key;rw[hlk]at xk hlk6;have CF:Hid (∀W,Below wq.heap.size wq W->Calls Tryz.prog 150 #[.slice ak lk ck,.agg #[.int .i64 (a:Int),.int .i64 0]] W (pb (vu (st.kp i key) a) W)):=zH fun W hb=>Xj (st.kp i key) lk a ak ck W hlk (by omega) (zH (hRk.below hb))
           unfold pb at CF;obtain⟨PK,hPK⟩:∃PK,vu (st.kp i key) a=PK:=⟨_,rfl⟩
           rw[hPK]at CF;have HPK:=zH hPK;have hgl:=HOq.out.lt;have pc:=HOq.out.cell hin;have pf:=HOq.out.frozen i;have i0:(0:Int)<=(i:Int):=by omega
           have i1:(i:Int)<(n:Int):=by omega
           have y0:(0:Int)<=(key:Int):=by omega
           have y1:(key:Int)<3:=by omega
           have HLX:Hid (b<wq.heap.size/\nb<wq.heap.size/\wl.heap.size<wq.heap.size):=zH ⟨hSq.blt,hSq.nodes.lt.2,Nat.lt_of_lt_of_le HSW.out HBq.out.size⟩;have HNE:Hid (b≠G/\nb≠G/\wl.heap.size≠G):=zH (by
            have h1:=HS5.out.blt;have h2:=HS5.out.nodes.lt.2;have h3:=HSW.out;refine⟨?_,?_,?_⟩<;>omega)
           clear hi hvk hRk hlk hnk hPK hSq;go_wp2_with fail
           go_region_held3 (fun w'=>w'.cell? ⟨b,4,none⟩=some (.slice (some ⟨nb,0,none⟩) n n)/\w'.cell? ⟨nb,i*4+1+key,none⟩=some (.slice ak lk ck)/\w'.cell? ⟨wl.heap.size,0,none⟩=some (.int .i64 (a:Int))/\w'.cell? ⟨wl.heap.size,1,none⟩=some (.int .i64 0)) (first|exact⟨(hb9.cell (p:=⟨b,4,none⟩) HLX.out.1).trans x4,(hb9.cell (p:=⟨nb,i*4+1+key,none⟩) HLX.out.2.1).trans xk,(hb9.cell (p:=⟨wl.heap.size,0,none⟩) HLX.out.2.2).trans q0,(hb9.cell (p:=⟨wl.heap.size,1,none⟩) HLX.out.2.2).trans q1⟩|exact⟨z7 HNE.out.1 ((hb9.cell (p:=⟨b,4,none⟩) HLX.out.1).trans x4),z7 HNE.out.2.1 ((hb9.cell (p:=⟨nb,i*4+1+key,none⟩) HLX.out.2.1).trans xk),z7 HNE.out.2.2 ((hb9.cell (p:=⟨wl.heap.size,0,none⟩) HLX.out.2.2).trans q0),z7 HNE.out.2.2 ((hb9.cell (p:=⟨wl.heap.size,1,none⟩) HLX.out.2.2).trans q1)⟩|go_keep)
            (first|(go_at_call 150;(with_reducible refine(CF.out _ (by first|exact Below.refl _ _|exact zb (Below.refl _ _))).mono ?_);rintro e w9 ⟨b9,rfl,hb9⟩;have pc9:=(hb9.cell (p:=⟨G,i,none⟩) hgl.2).trans pc;have pf9:=(hb9.frozen (p:=⟨G,i,none⟩) hgl.2).trans pf))
           all_goals
            have HB9:Hid (Below wq.heap.size wq w9):=zH (by first|exact hb9|exact(zb (Below.refl _ _)).trans hb9);have A9:=(HOq.out.below HB9.out).store i (.string PK);have HOn:Hid (Own (w9.setCell ⟨G,i,none⟩ (.string PK)) W4.heap.size 9 G n n (qC st key a U (q+1))):=zH (A9.1.congr fun x _=>by rw[<-HPK.out];exact pT st key a HI.out x);have HUn:=zH ((zi HUq.out HB9.out).kept A9.2 (.inr fun e=>by have:=(HUq.out.lt _ e).1;have:=HGl.out;omega));have HBn:Hid (Below W4.heap.size W4 (w9.setCell ⟨G,i,none⟩ (.string PK))):=zH (zk (HBq.out.trans (HB9.out.mono HBq.out.size)) HOq.out.lt.1 _);clear hb9 A9 pc9 pf9;go_wp2_with fail
            go_roundw
            case rel=>exact⟨q+1,by go_num,by omega,HOn,HUn,HBn⟩
            case measure=>simp[intOf];omega
         . obtain rfl:u=q:=by omega
           have hSq:=HS1.out _ HBq1.out;have c1:=hSq.cells.2.1;have CJ:=zH (Xg (kv n st key a) n (some ⟨G,0,none⟩) n (k:Int) wq ⟨pz _ _ _ _,by omega,fun s hs=>by
            unfold kv qD at hs;obtain⟨x,_,rfl⟩:=List.mem_map.1 hs;cases st.dn x with
            |true=>simp
            |false=>
             have:=pw (l:=st.kp x key) (a:=a) (m:=65) (fun y hy=>(HOK.out.rng x key y hy).2.2.2);show(vu (st.kp x key) a).size<=_;omega,by rw[<-HDONE.out a];exact HOq.out.reads⟩)
           unfold jq at CJ;clear hSq;go_wp2_with fail
           (with_reducible refine CJ.out.mono ?_)
           rintro e w10 ⟨S10,E10,hJ,rfl,hb10⟩;have HJ:=zH hJ;have HB10:Hid (Below W4.heap.size W4 w10):=zH (HBq.out.trans (hb10.mono HBq.out.size));have HH10:Hid (w10.heap[B2]?=some (.cells #[.int .i64 (b1:Int),.int .i64 0] 68 (0,0))):=zH ((HB10.out.block B2 (Array.getElem?_eq_some_iff.1 HH5.out).1).trans HH5.out);have HBx:Hid (Below B2 wo w10):=zH (HB4.out.trans ((HB5.out.trans (HB10.out.mono (Nat.le_of_lt HSW.out))).mono HBs.out));have q0:=(HB10.out.cell (p:=⟨wl.heap.size,0,none⟩) HSW.out).trans HQ0.out;have q1:=(HB10.out.cell (p:=⟨wl.heap.size,1,none⟩) HSW.out).trans HQ1.out;clear hb10 hJ CJ;by_cases hE:E10=0
           . subst hE;have HFn:Hid ((S.take (j+1)).foldl (qP n k st key) (0,ByteArray.empty,false)=(a,S10,true)):=zH (by rw[HFS.out,HF.out];exact Ql (.inl rfl) HJ.out);obtain⟨m0,m1⟩:=zc2 HH10.out;obtain⟨fr0,fr1⟩:=zf2 HH10.out;have HHn:Hid (((w10.setCell ⟨B2,0,none⟩ (.int .i64 (a:Int))).setCell ⟨B2,1,none⟩ (.int .i64 0)).heap[B2]?=some (.cells #[.int .i64 (a:Int),.int .i64 0] 68 (0,0))):=zH (by rw[heap_set _ (heap_set _ HH10.out)];rfl);have HBn:Hid (Below B2 wo ((w10.setCell ⟨B2,0,none⟩ (.int .i64 (a:Int))).setCell ⟨B2,1,none⟩ (.int .i64 0))):=zH (zk (zk HBx.out (Nat.le_refl _) _) (Nat.le_refl _) _);go_wp2_with fail
             go_roundw
             case rel=>exact⟨j+1,a,S10,true,by go_num,by omega,rfl,rfl,HFn,HHn,HBn⟩
             case measure=>simp[intOf];omega
           . have t0:((E10:Int)==0)=false:=by simp;omega
             have HFn:Hid ((S.take (j+1)).foldl (qP n k st key) (0,ByteArray.empty,false)=(b1,t1,false)):=zH (by rw[HFS.out,HF.out];exact Yh hE HJ.out);clear hE;go_wp2_with fail
             go_roundw
             case rel=>exact⟨j+1,b1,t1,false,by go_num,by omega,rfl,rfl,HFn,HH10,HBx⟩
             case measure=>simp[intOf];omega
     . obtain rfl:ls=j:=by omega
       have HN:Hid (NW=(b1,t1,f1)):=zH (by rw[HNW.out,<-HF.out,List.take_of_length_le (by rw[HLS.out];exact Nat.le_refl _)]);have hrb:w.heap.size<gb:=by rw[<-HGB.out,HSZ.out];omega
       have HBa:Hid (Below gb W1 wl):=zH (HB1.out.trans (HB4'.out.mono (by rw[<-HGS.out];have hz:=HB1.out.size;rw[HGB.out]at hz;exact hz)));have hres:wl.heap[w.heap.size]?=some (.cells #[.int .i64 0,.int .i64 0] 68 (0,0)):=(HBa.out.block _ hrb).trans HRES.out;obtain⟨r0,r1⟩:=zc2 hres;obtain⟨m0,m1⟩:=zc2 HH.out;obtain⟨fr0,fr1⟩:=zf2 hres;have h2:=heap_set (.int .i64 0) (j:=1) (heap_set (.int .i64 (b1:Int)) (j:=0) hres);have s0:=zd h2 0;have s1:=zd h2 1;have HBz:Hid (Below w.heap.size w ((wl.setCell ⟨w.heap.size,0,none⟩ (.int .i64 (b1:Int))).setCell ⟨w.heap.size,1,none⟩ (.int .i64 0))):=zH (zk (zk (HB0.out.trans (HBa.out.mono (Nat.le_of_lt hrb))) (Nat.le_refl _) _) (Nat.le_refl _) _);have s0':((wl.setCell ⟨w.heap.size,0,none⟩ (.int .i64 (b1:Int))).setCell ⟨w.heap.size,1,none⟩ (.int .i64 0)).cell? ⟨w.heap.size,0,none⟩=some (.int .i64 (b1:Int)):=by rw[s0];rfl
       have s1':((wl.setCell ⟨w.heap.size,0,none⟩ (.int .i64 (b1:Int))).setCell ⟨w.heap.size,1,none⟩ (.int .i64 0)).cell? ⟨w.heap.size,1,none⟩=some (.int .i64 0):=by rw[s1];rfl
       clear h2 s0 s1 hrb hres;go_wp2_with fail
       refine bodyPost_ret (v:=.tuple #[.agg #[.int .i64 (b1:Int),.int .i64 0],.string t1,.bool f1]) (by simp[results,Tryz.results130,go_sem,s0',s1'];try rfl) rfl ?_;exact⟨by rw[HN.out],HBz.out⟩
end Go.Proofs.YtmgfbmkfomebcaaGreatDoor
