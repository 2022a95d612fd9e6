/- A piece is turned: the list and the store. -/
import Derived.Test.YtmgfbmkfomebcaaGreatDoorDkM24
import Derived.Test.YtmgfbmkfomebcaaGreatDoorDkM18
import Derived.Test.YtmgfbmkfomebcaaGreatDoorDkM15
import Derived.Deep.RegionHeld3
set_option linter.unusedVariables false
set_option linter.unusedSimpArgs false
set_option maxRecDepth 100000
set_option maxHeartbeats 8000000
namespace Go.Proofs.YtmgfbmkfomebcaaGreatDoor
open Go.RowKit
def qA(M key b:Nat)(x:It):It:=if x.1=M/\x.2.1=key/\x.2.2.1=b then(x.1,x.2.1,x.2.2.1,vU x.2.2.2) else x
def qH(M key b j:Nat)(l:List It):List It:=(l.take j).map (qA M key b)++l.drop j
theorem zaS(M key b:Nat)(l:List It):qH M key b 0 l=l:=by unfold qH;simp
theorem VJ(M key b j:Nat)(l:List It):(qH M key b j l).length=l.length:=by unfold qH;simp;omega
theorem QJ(M key b:Nat){l:List It}{j:Nat}{x:It}(h:l[j]?=some x):(qH M key b j l)[j]?=some x:=by
 obtain⟨hj,he⟩:=List.getElem?_eq_some_iff.1 h;unfold qH;rw[List.getElem?_append_right (by simp;omega),List.getElem?_drop];simp only[List.length_map,List.length_take];rw[show j+(j-min j l.length)=j by omega];exact h
theorem Xh(M key b:Nat){l:List It}{j:Nat}{x:It}(h:l[j]?=some x):qH M key b (j+1) l=(qH M key b j l).set j (qA M key b x):=by
 obtain⟨hj,he⟩:=List.getElem?_eq_some_iff.1 h;unfold qH;apply List.ext_getElem?;intro q;rw[List.getElem?_set];by_cases hq:j=q
 . subst hq;rw[if_pos rfl,if_pos (by simp;omega),List.getElem?_append_left (by simp;omega),List.getElem?_map,List.getElem?_take,if_pos (by omega),h];rfl
 . rw[if_neg hq];by_cases h2:q<j
   . rw[List.getElem?_append_left (by simp;omega),List.getElem?_append_left (by simp;omega),List.getElem?_map,List.getElem?_map,List.getElem?_take,List.getElem?_take,if_pos (by omega),if_pos h2]
   . rw[List.getElem?_append_right (by simp;omega),List.getElem?_append_right (by simp;omega),List.getElem?_drop,List.getElem?_drop]
     congr 1
     simp;omega
theorem zcm(M key b:Nat){l:List It}{j u0 u1 c:Nat}{s:ByteArray}(h:l[j]?=some (u0,u1,c,s))(h1:u0=M)(h2:u1=key)(h3:c=b):qH M key b (j+1) l=(qH M key b j l).set j (u0,u1,c,vU s):=by
 rw[Xh M key b h];unfold qA;rw[if_pos ⟨h1,h2,h3⟩]
theorem Xi(M key b:Nat){l:List It}{j u0 u1 c:Nat}{s:ByteArray}(h:l[j]?=some (u0,u1,c,s))(hn:¬(u0=M/\u1=key/\c=b)):qH M key b (j+1) l=qH M key b j l:=by
 rw[Xh M key b h];unfold qA;rw[if_neg hn];apply List.ext_getElem?;intro q;rw[List.getElem?_set];by_cases hq:j=q
 . subst hq;rw[if_pos rfl,QJ M key b h];simp[VJ,(List.getElem?_eq_some_iff.1 h).1]
 . rw[if_neg hq]
theorem zcn{n D M key:Nat}{All:List It}{st:St}(h:Shl n D All st)(hM:M<n)(hkey:key<3){j u0 u1 c:Nat}{s:ByteArray}(hx:All[j]?=some (u0,u1,c,s))(h1:u0=M)(h2:u1=key):5<=s.size/\s.size<=65:=by
 have hm:((c,s):Kp)∈zP All M key:=by
  unfold zP;refine List.mem_map.2 ⟨(u0,u1,c,s),List.mem_filter.2 ⟨List.mem_of_getElem? hx,?_⟩,rfl⟩;unfold atB;simp[h1,h2]
 rw[h.kp M key hM hkey]at hm;exact(h.ok.rng M key _ hm).2.2
theorem zeZ{s:ByteArray}(h:1<=s.size):yi [zJ s 0 ^^^ 1]++s.extract 1 s.size=vU s:=by
 have hb:=(Kc (zJ s 0) (yH s 0)).2;have hz:(yi [zJ s 0 ^^^ 1]++s.extract 1 s.size).size=s.size:=by
  rw[ByteArray.size_append,yX,ByteArray.size_extract];simp;omega
 unfold vU;refine((zaC hz (fun k hk=>?_)).2 (fun k hk=>?_)).symm
 . show(if k=0 then zJ s 0 ^^^ 1 else zJ s k)<256
   split
   . exact hb
   . exact yH _ _
 . show(if k=0 then zJ s 0 ^^^ 1 else zJ s k)=_;by_cases h0:k=0
   . rw[if_pos h0,h0,zbf (by rw[yX];simp),zcB (by simp) (by intro c hc;simp at hc;rw[hc];exact hb)];rfl
   . rw[if_neg h0];have e1:(yi [zJ s 0 ^^^ 1]).size=1:=by rw[yX];rfl
     have hd:(yi [zJ s 0 ^^^ 1]++s.extract 1 s.size).data=(yi [zJ s 0 ^^^ 1]).data++(s.extract 1 s.size).data:=ByteArray.data_append;have hd2:(s.extract 1 s.size).data=s.data.extract 1 s.size:=ByteArray.data_extract;have e2:(yi [zJ s 0 ^^^ 1]).data.size=1:=e1;have hks:k<s.data.size:=hk;have q1:(yi [zJ s 0 ^^^ 1]++s.extract 1 s.size).data[k]?=s.data[k]? :=by
      rw[hd,Array.getElem?_append_right (by omega),e2,hd2,Array.getElem?_extract];have hs2:s.size=s.data.size:=rfl;rw[if_pos (by omega),show 1+(k-1)=k by omega]
     show(s.data.toList.getD k 0).toNat=((yi [zJ s 0 ^^^ 1]++s.extract 1 s.size).data.toList.getD k 0).toNat
     rw[List.getD_eq_getElem?_getD,List.getD_eq_getElem?_getD,Array.getElem?_toList,Array.getElem?_toList,q1]
theorem zdI{L:List Kp}{lq:Nat}{x:Kp}(hl:L.length=lq+1)(hx:L[lq]?=some x):L.getLastD (0,ByteArray.empty)=x:=by
 have hne:L≠[]:=by intro e;rw[e]at hl;cases hl
 rw[List.getLastD_eq_getLast?,List.getLast?_eq_getElem?,hl];rw[show lq+1-1=lq by omega,hx];rfl
theorem ze0{L:List Kp}(hs:L.Pairwise (fun x y=>x.1<y.1)){lq b:Nat}{s:ByteArray}(hl:L.length=lq+1)(hx:L[lq]?=some (b,s)):L.map (fun x=>if x.1=b then(x.1,vU x.2) else x)=j9 L:=by
 have hla:=zdI hl hx;have hsn:=Q4 (l:=L) (by omega);unfold j9;rw[hla]at hsn ⊢;obtain⟨d,hd⟩:∃d,L.dropLast=d:=⟨_,rfl⟩
 rw[hd]at hsn ⊢;rw[<-hsn]at hs ⊢;rw[List.map_append];rw[List.pairwise_append]at hs
 congr 1
 . conv=>rhs;rw[<-List.map_id d]
   apply List.map_congr_left;intro x hxm;have:=hs.2.2 x hxm (b,s) (by simp);have hne:x.1≠b:=by
    intro e;rw[e]at this;exact Nat.lt_irrefl _ this
   rw[if_neg hne];rfl
 . simp
theorem zco(M key b:Nat)(l:List It):qH M key b l.length l=l.map (qA M key b):=by unfold qH;simp
theorem JN(M key b:Nat)(l:List It)(i' key':Nat):zP (l.map (qA M key b)) i' key'=if i'=M/\key'=key then(zP l M key).map (fun x=>if x.1=b then(x.1,vU x.2) else x) else zP l i' key':=by
 have h1:∀x:It,(qA M key b x).1=x.1/\(qA M key b x).2.1=x.2.1:=fun x=>by unfold qA;split<;>exact⟨rfl,rfl⟩
 unfold zP;rw[List.filter_map];have e1:(atB i' key'∘qA M key b)=atB i' key':=by
  funext x
  show atB i' key' (qA M key b x)=atB i' key' x;unfold atB;rw[(h1 x).1,(h1 x).2]
 rw[e1,List.map_map];by_cases h:i'=M/\key'=key
 . rw[if_pos h,h.1,h.2,List.map_map];apply List.map_congr_left;intro x hx;have ha:=(List.mem_filter.1 hx).2;unfold atB at ha;simp at ha;show(qA M key b x).2.2=if x.2.2.1=b then(x.2.2.1,vU x.2.2.2) else x.2.2
   unfold qA;by_cases hb:x.2.2.1=b
   . rw[if_pos ⟨ha.1,ha.2,hb⟩,if_pos hb]
   . rw[if_neg (fun h=>hb h.2.2),if_neg hb]
 . rw[if_neg h];apply List.map_congr_left;intro x hx;have ha:=(List.mem_filter.1 hx).2;unfold atB at ha;simp at ha;show(qA M key b x).2.2=x.2.2;unfold qA;rw[if_neg (fun h2=>h ⟨ha.1.symm.trans h2.1,ha.2.symm.trans h2.2.1⟩)]
theorem Shl.rot{n D M key b lq:Nat}{All:List It}{st:St}{s:ByteArray}(h:Shl n D All st)(hM:M<n)(hkey:key<3)(hl:(st.kp M key).length=lq+1)(hx:(st.kp M key)[lq]?=some (b,s)):
 Shl n D (All.map (qA M key b)) (st.set M key (j9 (st.kp M key))):=by
 refine⟨fun i' key' hi hk'=>?_,h.dn,h.d,fun x hx=>?_,h.ok.rot M key (by omega)⟩
 . rw[JN];by_cases hh:i'=M/\key'=key
   . rw[if_pos hh,hh.1,hh.2,St.set_at,h.kp M key hM hkey,ze0 (h.ok.srt M key) hl hx]
   . rw[if_neg hh,St.set_far _ _ (by omega)];exact h.kp i' key' hi hk'
 . obtain⟨y,hy,rfl⟩:=List.mem_map.1 hx;have h1:=h.it y hy;unfold qA
   split<;>exact h1
theorem QK{α:Type}{l:List α}{i:Nat}{v:α}(h:l[i]?=some v):l.set i v=l:=by
 obtain⟨hi,he⟩:=List.getElem?_eq_some_iff.1 h;rw[<-he];exact List.set_getElem_self hi
theorem KF{l:List It}{j u0 u1 c:Nat}{s s':ByteArray}(h:l[j]?=some (u0,u1,c,s)):(ze l).set (j*5+4) (.string s')=ze (l.set j (u0,u1,c,s')):=by
 have g:=je h;rw[jW _ (List.getElem?_eq_some_iff.1 h).1];have g0:(ze l)[j*5]?=some (.int .i64 (u0:Int)):=g 0 (by omega);have g1:(ze l)[j*5+1]?=some (.int .i64 (u1:Int)):=g 1 (by omega);have g2:(ze l)[j*5+2]?=some (.int .i64 (c:Int)):=g 2 (by omega);have g3:(ze l)[j*5+3]?=some (.int .i64 0):=g 3 (by omega);simp only;rw[QK g0,QK g1,QK g2,QK g3]
theorem ze1{w:World}{base e size n cap b o:Nat}{xs:List Value}(h:w.ownsRow base e size (.slice (some ⟨b,o,none⟩) n cap) n xs):o=0/\base<=b:=by
 rcases h.2 with⟨hv,_⟩|⟨g,c',cur,hv,hb,_⟩
 . cases hv
 . cases hv;exact⟨rfl,hb⟩
theorem zeS{n D k wr0 r:Nat}{All:List It}{st:St}(key:Nat)(hkey:key<3)(m:Int)(text:ByteArray)(ht:text.size<=9223372036854775807)(hk1:1<=k)(hkn:k<=n)(hn:n<=10)(h:Shl n D All st)(ao:Option Addr)(ca:Nat)(w:World)(hR:Reads w ao (ze All))(hnone:ao=none->All.length=0/\ca=0):
 Calls Tryz.prog 26 #[.agg (shC n k wr0 r D st.wr (.slice ao All.length ca)),deedV 7 (key:Int) m text] w (yo n k wr0 r ao (doF n k wr0 r st 7 (key:Int) m text) w):=by
 obtain⟨la,hla⟩:∃la,All.length=la:=⟨_,rfl⟩
 obtain⟨mw,hmw⟩:∃mw,st.wr=mw:=⟨_,rfl⟩
 rw[hla,hmw];have hl3:la<=30000000:=by rw[<-hla];exact h.len hn
 obtain⟨W1,hW1⟩:∃W1,(((w.alloc (.cells (shC n k wr0 r D mw (.slice ao la ca)) 41)).alloc (.cells #[.int .i64 7,.int .i64 (key:Int),.int .i64 m,.string text] 66)).alloc (.cells #[.int .i64 0,.int .i64 0,.int .i64 0,.int .i64 0,.int .u16 0,.int .i64 0,.slice none 0 0] 41)).alloc (.cells #[.string ⟨#[]⟩,.int .i64 0,.int .i64 0,.int .i64 0] 70)=W1:=⟨_,rfl⟩
 have hb0:=zc w (.cells (shC n k wr0 r D mw (.slice ao la ca)) 41);have hb1:Below w.heap.size w W1:=by rw[<-hW1];exact((hb0.alloc (by simp) _).alloc (by simp;omega) _).alloc (by simp;omega) _
 have hx1:W1.heap[w.heap.size]?=some (.cells (shC n k wr0 r D mw (.slice ao la ca)) 41 (0,0)):=by rw[<-hW1];exact za _ _ (za _ _ (za _ _ (heap_alloc_new w _)))
 have hd1:W1.heap[w.heap.size+1]?=some (.cells #[.int .i64 7,.int .i64 (key:Int),.int .i64 m,.string text] 66 (0,0)):=by rw[<-hW1];exact za _ _ (za _ _ (zl _ _ _ (by simp)))
 have hz1:W1.heap[w.heap.size+2]?=some (.cells #[.int .i64 0,.int .i64 0,.int .i64 0,.int .i64 0,.int .u16 0,.int .i64 0,.slice none 0 0] 41 (0,0)):=by rw[<-hW1];exact za _ _ (zl _ _ _ (by simp))
 have ht1:W1.heap[w.heap.size+3]?=some (.cells #[.string ⟨#[]⟩,.int .i64 0,.int .i64 0,.int .i64 0] 70 (0,0)):=by rw[<-hW1];exact zl _ _ _ (by simp)
 have hs1:W1.heap.size=w.heap.size+4:=by rw[<-hW1];simp
 have HB1:=zH hb1;have HX1:=zH hx1;have HD1:=zH hd1;have HZ1:=zH hz1;have HT1:=zH ht1;have HS1:=zH hs1;have HLA:=zH hla;have HMW:=zH hmw;have HR:=zH hR;have HNO:=zH hnone;have HSH:=zH h;clear h hb0 hb1 hx1 hd1 hz1 ht1 hs1 hla hmw hR hnone;have hmm:=@run_makeMap Tryz.prog;obtain⟨v1,v2,v3,v4,Wm,r1,r2,r3,r4,r5,r6,hbm⟩:=qN Tryz.underlying103 Tryz.underlying3 Tryz.zeroValue4 W1 7;have HBM:=zH hbm;have HB:=zH (HB1.out.trans (hbm.mono HB1.out.size));have HX:=zH ((hbm.block w.heap.size (by have:=HS1.out;omega)).trans HX1.out);have HDd:=zH ((hbm.block (w.heap.size+1) (by have:=HS1.out;omega)).trans HD1.out);have HZ:=zH ((hbm.block (w.heap.size+2) (by have:=HS1.out;omega)).trans HZ1.out);have HT:=zH ((hbm.block (w.heap.size+3) (by have:=HS1.out;omega)).trans HT1.out);have HSZ:Hid (w.heap.size+4<=Wm.heap.size):=zH (by have:=hbm.size;have:=HS1.out;omega);have HRm:Hid (Reads Wm ao (ze All)):=zH (HR.out.below HB.out);clear hbm;obtain⟨x0,x1,x2,x3,x4,x5,x6⟩:=zc7 HX.out;obtain⟨d0,d1,d2,d3⟩:=zc4 HDd.out;obtain⟨bz0,bz1,bz2,bz3,bz4,bz5,bz6⟩:=zc7 HZ.out;obtain⟨cz0,cz1,cz2,cz3⟩:=zc4 HT.out;obtain⟨fb0,fb1,fb2,fb3,fb4,fb5,fb6⟩:=zf7 HZ.out;obtain⟨fc0,fc1,fc2,fc3⟩:=zf4 HT.out;rw[show pa 7=true from rfl]at r6;have t3:decide ((key:Int)<0)=false:=decide_eq_false (by omega);have t4:decide ((2:Int)<(key:Int))=false:=decide_eq_false (by omega);have t4':decide (2<key)=false:=decide_eq_false (by omega);have HDO:Hid (doF n k wr0 r st 7 (key:Int) m text=((atF n st 7 key m).1,Tl.no,(atF n st 7 key m).2)):=zH (by
  unfold doF;rw[if_neg (by unfold jl;simp;omega),if_neg (by decide),if_neg (by decide),if_neg (by decide),if_neg (by decide),Int.toNat_natCast])
 by_cases g1:m<0
 . have HF:Hid (doF n k wr0 r st 7 (key:Int) m text=(st,Tl.no,1)):=zH (by rw[HDO.out];unfold atF;rw[if_pos (.inl g1)]);have t1:decide (m<0)=true:=decide_eq_true g1;clear g1;obtain⟨qq1,qq2⟩:=zD (A:=w.heap.size+2) (B:=w.heap.size+3) (by omega) HZ.out HT.out (.int .i64 (n:Int)) (.int .i64 (k:Int)) (.int .i64 (wr0:Int)) (.int .i64 (r:Int)) (.int .u16 (D:Int)) (.int .i64 (mw:Int)) (.slice ao la ca) (.string ⟨#[]⟩) (.int .i64 0) (.int .i64 0) (.int .i64 0);obtain⟨y0,y1,y2,y3,y4,y5,y6⟩:=zc7 qq1;obtain⟨z0,z1,z2,z3⟩:=zc4 qq2;clear qq1 qq2;have HBZ:=zH (zn (zj HB.out (show w.heap.size<=w.heap.size+2 by omega) (.int .i64 (n:Int)) (.int .i64 (k:Int)) (.int .i64 (wr0:Int)) (.int .i64 (r:Int)) (.int .u16 (D:Int)) (.int .i64 (mw:Int)) (.slice ao la ca)) (show w.heap.size<=w.heap.size+3 by omega) (.string ⟨#[]⟩) (.int .i64 0) (.int .i64 0) (.int .i64 0));go_enter Tryz.func26,Tryz.ntmps26
   go_wp2_with fail
   refine bodyPost_ret (v:=.tuple #[.agg (shC n k wr0 r D mw (.slice ao la ca)),.agg #[.string ⟨#[]⟩,.int .i64 0,.int .i64 0,.int .i64 0],.int .i64 1]) (by simp[results,Tryz.results26,go_sem,y0,y1,y2,y3,y4,y5,y6,z0,z1,z2,z3];try rfl) rfl ?_;rw[HF.out];exact⟨D,All,ao,ca,by rw[HLA.out,HMW.out];rfl,HSH.out,HR.out.below HBZ.out,HNO.out,.inl rfl,HBZ.out⟩
 have t1:decide (m<0)=false:=decide_eq_false g1;by_cases g2:(n:Int)<=m
 . have HF:Hid (doF n k wr0 r st 7 (key:Int) m text=(st,Tl.no,1)):=zH (by rw[HDO.out];unfold atF;rw[if_pos (.inr g2)]);have t2:decide ((n:Int)<=m)=true:=decide_eq_true g2;clear g1 g2;obtain⟨qq1,qq2⟩:=zD (A:=w.heap.size+2) (B:=w.heap.size+3) (by omega) HZ.out HT.out (.int .i64 (n:Int)) (.int .i64 (k:Int)) (.int .i64 (wr0:Int)) (.int .i64 (r:Int)) (.int .u16 (D:Int)) (.int .i64 (mw:Int)) (.slice ao la ca) (.string ⟨#[]⟩) (.int .i64 0) (.int .i64 0) (.int .i64 0);obtain⟨y0,y1,y2,y3,y4,y5,y6⟩:=zc7 qq1;obtain⟨z0,z1,z2,z3⟩:=zc4 qq2;clear qq1 qq2;have HBZ:=zH (zn (zj HB.out (show w.heap.size<=w.heap.size+2 by omega) (.int .i64 (n:Int)) (.int .i64 (k:Int)) (.int .i64 (wr0:Int)) (.int .i64 (r:Int)) (.int .u16 (D:Int)) (.int .i64 (mw:Int)) (.slice ao la ca)) (show w.heap.size<=w.heap.size+3 by omega) (.string ⟨#[]⟩) (.int .i64 0) (.int .i64 0) (.int .i64 0));go_enter Tryz.func26,Tryz.ntmps26
   go_wp2_with fail
   refine bodyPost_ret (v:=.tuple #[.agg (shC n k wr0 r D mw (.slice ao la ca)),.agg #[.string ⟨#[]⟩,.int .i64 0,.int .i64 0,.int .i64 0],.int .i64 1]) (by simp[results,Tryz.results26,go_sem,y0,y1,y2,y3,y4,y5,y6,z0,z1,z2,z3];try rfl) rfl ?_;rw[HF.out];exact⟨D,All,ao,ca,by rw[HLA.out,HMW.out];rfl,HSH.out,HR.out.below HBZ.out,HNO.out,.inl rfl,HBZ.out⟩
 obtain⟨M,rfl⟩:∃M:Nat,m=M:=⟨m.toNat,by omega⟩
 have hMn:M<n:=by omega
 have t2:decide ((n:Int)<=(M:Int))=false:=decide_eq_false g2;have t2':decide (n<=M)=false:=decide_eq_false (by omega);have HAT:Hid (atF n st 7 key (M:Int)=YY st key M):=zH (by
  unfold atF;rw[if_neg (by omega),if_neg (by decide),if_neg (by decide),if_neg (by decide),if_pos rfl,Int.toNat_natCast])
 clear g1 g2;have m0:(0:Int)<=(M:Int):=by omega
 have m1:(M:Int)<=16:=by omega
 have CK:=zH (vK n k wr0 r D mw ao la ca All M key Wm HLA.out hl3 HRm);unfold kH at CK;rw[HSH.out.kp M key hMn hkey]at CK;have hl6:=HSH.out.ok.len M key;have HSRT:=zH (HSH.out.ok.srt M key);have HROT:Hid (YY st key M=if(st.kp M key).length=0 then(st,4) else(st.set M key (j9 (st.kp M key)),0)):=zH rfl;have HLKE:Hid (∃L,st.kp M key=L):=zH ⟨_,rfl⟩;obtain⟨L,hL⟩:=HLKE.out;have HKE:=zH hL;rw[hL]at CK hl6 HSRT HROT;obtain⟨lk,hlk⟩:∃lk,L.length=lk:=⟨_,rfl⟩
 rw[hlk]at CK hl6 HROT;have HLK:=zH hlk;clear hL hlk;go_enter Tryz.func26,Tryz.ntmps26
 go_wp2_with fail
 (with_reducible refine CK.out.mono ?_)
 rintro e w6 ⟨a6,c6,rfl,ho6,hb6⟩;have HB6:=zH hb6;have HR6:Hid (Reads w6 a6 (zw L)):=zH (zF ho6);have HX6:=zH ((hb6.block w.heap.size (by have:=HSZ.out;omega)).trans HX.out);have HD6:=zH ((hb6.block (w.heap.size+1) (by have:=HSZ.out;omega)).trans HDd.out);have HZ6:=zH ((hb6.block (w.heap.size+2) (by have:=HSZ.out;omega)).trans HZ.out);have HT6:=zH ((hb6.block (w.heap.size+3) (by have:=HSZ.out;omega)).trans HT.out);have HBw6:Hid (Below w.heap.size w w6):=zH (HB.out.trans (hb6.mono HB.out.size));have HSZ6:Hid (w.heap.size+4<=w6.heap.size):=zH (by have:=hb6.size;have:=HSZ.out;omega);clear ho6 hb6 CK x0 x1 x2 x3 x4 x5 x6 d0 d1 d2 d3 bz0 bz1 bz2 bz3 bz4 bz5 bz6 cz0 cz1 cz2 cz3 fb0 fb1 fb2 fb3 fb4 fb5 fb6 fc0 fc1 fc2 fc3 r1 r2 r3 r4 r5 r6 hmm;obtain⟨x0,x1,x2,x3,x4,x5,x6⟩:=zc7 HX6.out;obtain⟨d0,d1,d2,d3⟩:=zc4 HD6.out;obtain⟨bz0,bz1,bz2,bz3,bz4,bz5,bz6⟩:=zc7 HZ6.out;obtain⟨cz0,cz1,cz2,cz3⟩:=zc4 HT6.out;obtain⟨fb0,fb1,fb2,fb3,fb4,fb5,fb6⟩:=zf7 HZ6.out;obtain⟨fc0,fc1,fc2,fc3⟩:=zf4 HT6.out;by_cases g0:lk=0
 . have HF:Hid (doF n k wr0 r st 7 (key:Int) (M:Int) text=(st,Tl.no,4)):=zH (by rw[HDO.out,HAT.out,HROT.out,if_pos g0]);have t5:((lk:Int)==0)=true:=by simp;omega
   clear g0;obtain⟨qq1,qq2⟩:=zD (A:=w.heap.size+2) (B:=w.heap.size+3) (by omega) HZ6.out HT6.out (.int .i64 (n:Int)) (.int .i64 (k:Int)) (.int .i64 (wr0:Int)) (.int .i64 (r:Int)) (.int .u16 (D:Int)) (.int .i64 (mw:Int)) (.slice ao la ca) (.string ⟨#[]⟩) (.int .i64 0) (.int .i64 0) (.int .i64 0);obtain⟨y0,y1,y2,y3,y4,y5,y6⟩:=zc7 qq1;obtain⟨z0,z1,z2,z3⟩:=zc4 qq2;clear qq1 qq2;have HBZ:=zH (zn (zj HBw6.out (show w.heap.size<=w.heap.size+2 by omega) (.int .i64 (n:Int)) (.int .i64 (k:Int)) (.int .i64 (wr0:Int)) (.int .i64 (r:Int)) (.int .u16 (D:Int)) (.int .i64 (mw:Int)) (.slice ao la ca)) (show w.heap.size<=w.heap.size+3 by omega) (.string ⟨#[]⟩) (.int .i64 0) (.int .i64 0) (.int .i64 0));go_wp2_with fail
   refine bodyPost_ret (v:=.tuple #[.agg (shC n k wr0 r D mw (.slice ao la ca)),.agg #[.string ⟨#[]⟩,.int .i64 0,.int .i64 0,.int .i64 0],.int .i64 4]) (by simp[results,Tryz.results26,go_sem,y0,y1,y2,y3,y4,y5,y6,z0,z1,z2,z3];try rfl) rfl ?_;rw[HF.out];exact⟨D,All,ao,ca,by rw[HLA.out,HMW.out];rfl,HSH.out,HR.out.below HBZ.out,HNO.out,.inl rfl,HBZ.out⟩
 obtain⟨lq,rfl⟩:∃lq,lk=lq+1:=⟨lk-1,by omega⟩
 have t5:((((lq+1:Nat)):Int)==0)=false:=by simp;omega
 have t5':((lq:Int)+1==0)=false:=by simp;omega
 have e6:(((lq+1:Nat)):Int)-1=(lq:Int):=by omega
 have e6':(lq:Int)+1-1=(lq:Int):=by omega
 have e7:(((lq+1:Nat)):Int)=(lq:Int)+1:=by omega
 obtain⟨bk,ok,hrk,z0,z1,z2⟩:=y9 HR6.out (k:=lq) (by rw[HLK.out];omega);cases hrk;obtain⟨x,hx⟩:∃x,L[lq]'(by rw[HLK.out];omega)=x:=⟨_,rfl⟩
 have HXL:Hid (L[lq]?=some x):=zH (by rw[List.getElem?_eq_getElem (by rw[HLK.out];omega),hx]);rw[hx]at z0 z2;obtain⟨b,s⟩:=x;obtain⟨W7,hW7⟩:∃W7,w6.alloc (.cells #[.int .i64 (b:Int),.int .i64 0,.string s] 106)=W7:=⟨_,rfl⟩
 have hb7:Below w6.heap.size w6 W7:=by rw[<-hW7];exact zc _ _
 obtain⟨B9,hB9⟩:∃B9,w6.heap.size=B9:=⟨_,rfl⟩
 have HH7:Hid (W7.heap[B9]?=some (.cells #[.int .i64 (b:Int),.int .i64 0,.string s] 106 (0,0))):=zH (by rw[<-hW7,<-hB9];exact heap_alloc_new _ _);have HX7:=zH ((hb7.block w.heap.size (by have:=HSZ6.out;omega)).trans HX6.out);have HD7:=zH ((hb7.block (w.heap.size+1) (by have:=HSZ6.out;omega)).trans HD6.out);have HZ7:=zH ((hb7.block (w.heap.size+2) (by have:=HSZ6.out;omega)).trans HZ6.out);have HT7:=zH ((hb7.block (w.heap.size+3) (by have:=HSZ6.out;omega)).trans HT6.out);have HBw7:Hid (Below w.heap.size w W7):=zH (HBw6.out.trans (hb7.mono HBw6.out.size));obtain⟨zz,hzz⟩:∃zz,W7.heap.size=zz:=⟨_,rfl⟩
 have HZZ:=zH hzz;have hBz:B9<zz:=by rw[<-hzz,<-hW7,<-hB9];simp
 have hSz:w.heap.size+4<=B9:=by rw[<-hB9];exact HSZ6.out
 have CC:=zH (kK All la ao ca W7.heap.size W7 hl3 HLA.out (by have h1:=HNO.out;rw[HLA.out]at h1;exact h1) (zH (HR.out.below HBw7.out)) (Nat.le_refl _));unfold Ys at CC;have y6:=zd HX7.out 6;simp only[List.getElem?_toArray,List.getElem?_cons_zero,List.getElem?_cons_succ]at y6;clear hx hb7 g0 hzz;go_wp2_with fail
 (with_reducible refine CC.out.mono ?_)
 clear hW7 hB9 y6 x0 x1 x2 x3 x4 x5 x6 d0 d1 d2 d3 bz0 bz1 bz2 bz3 bz4 bz5 bz6 cz0 cz1 cz2 cz3 fb0 fb1 fb2 fb3 fb4 fb5 fb6 fc0 fc1 fc2 fc3 z0 z1 z2;rintro e w7 ⟨a7,c7,rfl,ho7,hb7⟩;rw[HZZ.out]at ho7 hb7;have HX8:=zH ((hb7.block w.heap.size (by omega)).trans HX7.out);have y6:=zd HX8.out 6;simp only[List.getElem?_toArray,List.getElem?_cons_zero,List.getElem?_cons_succ]at y6;have fy6:=zm HX8.out 6;obtain⟨W9,hW9⟩:∃W9,(w7.setCell ⟨w.heap.size,6,none⟩ (.slice a7 la c7))=W9:=⟨_,rfl⟩
 have HX9:Hid (W9.heap[w.heap.size]?=some (.cells (shC n k wr0 r D mw (.slice a7 la c7)) 41 (0,0))):=zH (by rw[<-hW9,heap_set _ HX8.out];rfl);have hfar:∀g,g<zz->g≠w.heap.size->W9.heap[g]?=W7.heap[g]? :=fun g h1 h2=>by rw[<-hW9,zf _ (by omega)];exact hb7.block g h1
 have HD9:=zH ((hfar (w.heap.size+1) (by omega) (by omega)).trans HD7.out);have HZ9:=zH ((hfar (w.heap.size+2) (by omega) (by omega)).trans HZ7.out);have HT9:=zH ((hfar (w.heap.size+3) (by omega) (by omega)).trans HT7.out);have HH9:=zH ((hfar B9 (by omega) (by omega)).trans HH7.out);have HB9w:Hid (Below w.heap.size w W9):=zH (by rw[<-hW9];exact zk (HBw7.out.trans (hb7.mono (by omega))) (Nat.le_refl _) _);have HO9:Hid (W9.ownsRow zz 108 5 (.slice a7 la c7) la (ze All)):=zH (by rw[<-hW9];exact ho7.kept (zO _ _ _ _) (.inr (fun h=>by have:=(ho7.lt _ h).1;omega)));have HZ:Hid (zz<=W9.heap.size):=zH (by rw[<-HZZ.out,<-hW9];simpa using hb7.size);have n6:=zd HX9.out 6;simp only[List.getElem?_toArray,List.getElem?_cons_zero,List.getElem?_cons_succ]at n6;clear ho7 hb7 hfar CC;go_wp2_with fail
 clear hW9 y6 fy6 n6;go_loopw [127] (fun vj wr=>∃j:Nat,vj=.int .i64 j/\j<=la/\Hid (wr.ownsRow zz 108 5 (.slice a7 la c7) la (ze (qH M key b j All)))/\Hid (Below zz W9 wr)) (fun vj _=>la-(intOf vj).toNat)
 case atStart=>exact⟨0,rfl,by omega,zH (by rw[zaS];exact HO9.out),zH (Below.refl _ _)⟩
 case round=>
  clear HO9;obtain⟨j,rfl,hj,HO,HBj⟩:=hrel;obtain⟨wq,rfl⟩:∃wq,wq=wr:=⟨_,rfl⟩
  by_cases hjl:j<la
  . obtain⟨x,hx⟩:∃x,All[j]?=some x:=⟨All[j]'(by rw[HLA.out];exact hjl),List.getElem?_eq_getElem _⟩
    have HXj:=zH hx;obtain⟨ba,oa,hra,z0,z1,z2,z3,z4⟩:=ke (zF HO.out) (QJ M key b hx);cases hra;have hit:=HSH.out.it x (List.mem_of_getElem? hx);obtain⟨u0,u1,c,s2⟩:=x;have HDq:=zH ((HBj.out.block (w.heap.size+1) (by omega)).trans HD9.out);have HXq:=zH ((HBj.out.block w.heap.size (by omega)).trans HX9.out);have HHq:=zH ((HBj.out.block B9 hBz).trans HH9.out);have hzq:zz<=wq.heap.size:=Nat.le_trans HZ.out HBj.out.size;obtain⟨W4,hW4⟩:∃W4,wq.alloc (.cells #[.int .i64 (u0:Int),.int .i64 (u1:Int),.int .i64 (c:Int),.int .i64 0,.string s2] 108)=W4:=⟨_,rfl⟩
    have hba0:=(HO.out.lt ba rfl).1;have hbl0:=(HO.out.lt ba rfl).2;obtain⟨B4,hB4⟩:∃B4,wq.heap.size=B4:=⟨_,rfl⟩
    have HN4:Hid (B4≠ba):=zH (by omega);have hb4:Below wq.heap.size wq W4:=by rw[<-hW4];exact zc _ _
    have HI4:Hid (W4.heap[B4]?=some (.cells #[.int .i64 (u0:Int),.int .i64 (u1:Int),.int .i64 (c:Int),.int .i64 0,.string s2] 108 (0,0))):=zH (by rw[<-hW4,<-hB4];exact heap_alloc_new _ _);have HD4:=zH ((hb4.block (w.heap.size+1) (by omega)).trans HDq.out);have HX4:=zH ((hb4.block w.heap.size (by omega)).trans HXq.out);have HH4:=zH ((hb4.block B9 (by omega)).trans HHq.out);have HO4:Hid (W4.ownsRow zz 108 5 (.slice (some ⟨ba,oa,none⟩) la c7) la (ze (qH M key b j All))):=zH (zi HO.out hb4);have HB4:Hid (Below zz W9 W4):=zH (HBj.out.trans (hb4.mono hzq));obtain⟨v0,v1,v2,v3,i4⟩:=zc5 HI4.out;have d1:=zd HD4.out 1;have d2:=zd HD4.out 2;obtain⟨k0,k1⟩:=zc2 HH4.out;have x6:=zd HX4.out 6;simp only[List.getElem?_toArray,List.getElem?_cons_zero,List.getElem?_cons_succ]at d1 d2 x6;clear hx hb4;by_cases q1:u0=M
    . have t6:((u0:Int)==(M:Int))=true:=by simp;omega
      by_cases q2:u1=key
      . have t7:((u1:Int)==(key:Int))=true:=by simp;omega
        by_cases q3:c=b
        . have t8:((c:Int)==(b:Int))=true:=by simp;omega
          have HT1:=zH (zcm M key b HXj.out q1 q2 q3);have hsz:=zH (zcn HSH.out hMn hkey HXj.out q1 q2);clear q1 q2 q3;go_wp2_with fail
          clear hW4 hB4;obtain⟨hoa,hba⟩:=ze1 HO4.out;subst hoa;have hs5:=hsz.out;have hs0:0<s2.size:=by omega
          have hs1:(1:Int)<=(s2.size:Int):=by omega
          have hs1':1<=s2.size:=by omega
          obtain⟨bb,hbb⟩:∃bb,zJ s2 0=bb:=⟨_,rfl⟩
          have hb2:s2[0].toNat=bb:=by rw[<-hbb];exact yT s2 0 hs0
          have hb3:(s2.data[0]'(by have:s2.size=s2.data.size:=rfl;omega)).toNat=bb:=hb2;obtain⟨y,hy⟩:∃y,bb ^^^ 1=y:=⟨_,rfl⟩
          have hfl:=Kc bb (by rw[<-hbb];exact yH _ _);rw[hy]at hfl;have e8:=hfl.1;have hy2:=hfl.2;have HFL:Hid (yi [y]++s2.extract 1 s2.size=vU s2):=zH (by rw[<-hy,<-hbb];exact zeZ hs1');have KC:(convert 113 9 (.slice (some ⟨W4.heap.size,0,none⟩) 1 1)).run Tryz.prog (W4.alloc (.cells #[.int .u8 (y:Int)] 5))=.ok (.string (yi [y])) (W4.alloc (.cells #[.int .u8 (y:Int)] 5)):=qO [y] (some ⟨W4.heap.size,0,none⟩) 1 _ (by intro c hc;simp at hc;omega) (fun h=>by cases h) (yK W4 _ _);have KC2:(convert 113 9 (.slice (some ⟨W4.heap.size,0,none⟩) 1 1)).run Tryz.prog (W4.alloc (.cells #[.int .u8 (y:Int)] 5)).drew=.ok (.string (yi [y])) (W4.alloc (.cells #[.int .u8 (y:Int)] 5)).drew:=qO [y] (some ⟨W4.heap.size,0,none⟩) 1 _ (by intro c hc;simp at hc;omega) (fun h=>by cases h) (yK W4 _ _);have hys:(yi [y]).size=1:=by rw[yX];rfl
          obtain⟨Y,hY⟩:∃Y,yi [y]=Y:=⟨_,rfl⟩
          rw[hY]at KC KC2 hys HFL;have hbl:Below W4.heap.size W4 (W4.alloc (.cells #[.int .u8 (y:Int)] 5)):=zc _ _;have HOa:=zH (zi HO4.out hbl);have hln:(qH M key b j All).length=la:=by rw[VJ];exact HLA.out
          have pc:(W4.alloc (.cells #[.int .u8 (y:Int)] 5)).cell? ⟨ba,j*5+4,none⟩=some (.string s2):=(World.ownsRow.cellAt HOa.out (j*5+4) (by omega)).trans (je (QJ M key b HXj.out) 4 (by omega));have pf:(W4.alloc (.cells #[.int .u8 (y:Int)] 5)).frozen? ⟨ba,j*5+4,none⟩=false:=World.ownsRow.frozenAt HOa.out _;have pc2:(W4.alloc (.cells #[.int .u8 (y:Int)] 5)).cell? ⟨ba,j*5+2+2,none⟩=some (.string s2):=pc;have pf2:(W4.alloc (.cells #[.int .u8 (y:Int)] 5)).frozen? ⟨ba,j*5+2+2,none⟩=false:=pf;have hez:(s2.extract 1 s2.size).size=s2.size-1:=by rw[ByteArray.size_extract];omega
          have hsum:¬(9223372036854775807<1+(s2.size-1)):=by omega
          have hlt4:ba<W4.heap.size:=(HO4.out.lt ba rfl).2;have x6a:=(hbl.cell (p:=⟨w.heap.size,6,none⟩) (by show w.heap.size<W4.heap.size;omega)).trans x6;have i4a:=(hbl.cell (p:=⟨B4,4,none⟩) (World.block_lt_of_cell? W4 _ i4)).trans i4;have HNE:Hid (w.heap.size≠ba/\B4≠ba):=zH ⟨by omega,HN4.out⟩;have j0:(0:Int)<=(j:Int):=by omega
          have j1:(j:Int)<(la:Int):=by omega
          have A9:=World.ownsRow.stored HO4.out (j*5+4) (.string (vU s2));have HO9:Hid ((((W4.setCell ⟨ba,j*5+2+2,none⟩ (.string (Y++s2.extract 1 s2.size))).alloc (.cells #[.int .u8 (y:Int)] 5)).drew).ownsRow zz 108 5 (.slice (some ⟨ba,0,none⟩) la c7) la (ze (qH M key b (j+1) All))):=zH (by
           rw[HFL.out,HT1.out,<-KF (QJ M key b HXj.out)];exact zi (zi A9.1 (zc _ _)) (yc _ _ 1))
          have HB9:Hid (Below zz W9 (((W4.setCell ⟨ba,j*5+2+2,none⟩ (.string (Y++s2.extract 1 s2.size))).alloc (.cells #[.int .u8 (y:Int)] 5)).drew)):=zH (zb ((zk HB4.out hba _).alloc (by have h1:=(zk (j:=j*5+2+2) (Below.refl zz W4) hba (.string (Y++s2.extract 1 s2.size))).size;have h2:=hlt4;omega) _));clear hbb hy hY hfl A9 hbl hln;go_wp2_with fail
          go_region
          all_goals
           go_wp2_with fail
           go_roundw
           case rel=>exact⟨j+1,by go_num,by omega,HO9,HB9⟩
           case measure=>simp[intOf];omega
        . have t8:((c:Int)==(b:Int))=false:=by simp;omega
          have HT1:=zH (Xi M key b HXj.out (fun h=>q3 h.2.2));have HO5:Hid (W4.ownsRow zz 108 5 (.slice (some ⟨ba,oa,none⟩) la c7) la (ze (qH M key b (j+1) All))):=zH (by rw[HT1.out];exact HO4.out);clear q1 q2 q3;go_wp2_with fail
          clear hW4 hB4
          go_roundw
          case rel=>exact⟨j+1,by go_num,by omega,HO5,HB4⟩
          case measure=>simp[intOf];omega
      . have t7:((u1:Int)==(key:Int))=false:=by simp;omega
        have HT1:=zH (Xi M key b HXj.out (fun h=>q2 h.2.1));have HO5:Hid (W4.ownsRow zz 108 5 (.slice (some ⟨ba,oa,none⟩) la c7) la (ze (qH M key b (j+1) All))):=zH (by rw[HT1.out];exact HO4.out);clear q1 q2;go_wp2_with fail
        clear hW4 hB4
        go_roundw
        case rel=>exact⟨j+1,by go_num,by omega,HO5,HB4⟩
        case measure=>simp[intOf];omega
    . have t6:((u0:Int)==(M:Int))=false:=by simp;omega
      have HT1:=zH (Xi M key b HXj.out (fun h=>q1 h.1));have HO5:Hid (W4.ownsRow zz 108 5 (.slice (some ⟨ba,oa,none⟩) la c7) la (ze (qH M key b (j+1) All))):=zH (by rw[HT1.out];exact HO4.out);clear q1;go_wp2_with fail
      clear hW4 hB4
      go_roundw
      case rel=>exact⟨j+1,by go_num,by omega,HO5,HB4⟩
      case measure=>simp[intOf];omega
  . obtain rfl:la=j:=by omega
    have hll:qH M key b la All=All.map (qA M key b):=by rw[<-HLA.out];exact zco _ _ _ _
    have HF:Hid (doF n k wr0 r st 7 (key:Int) (M:Int) text=(st.set M key (j9 L),Tl.no,0)):=zH (by rw[HDO.out,HAT.out,HROT.out,if_neg (by omega)]);have HSN:Hid (Shl n D (All.map (qA M key b)) (st.set M key (j9 L))):=zH (by
     have h1:=HSH.out.rot (lq:=lq) (b:=b) (s:=s) hMn hkey (by rw[HKE.out];exact HLK.out) (by rw[HKE.out];exact HXL.out);rw[HKE.out]at h1;exact h1)
    have HO10:Hid (wq.ownsRow zz 108 5 (.slice a7 la c7) la (ze (All.map (qA M key b)))):=zH (by rw[<-hll];exact HO.out);have HLN:Hid ((All.map (qA M key b)).length=la):=zH (by rw[List.length_map];exact HLA.out);have HR10:Hid (Reads wq a7 (ze (All.map (qA M key b)))):=zH (zF HO10.out);have HN10:=zH (Q8 HO10.out).2;have HXq:=zH ((HBj.out.block w.heap.size (by omega)).trans HX9.out);have HZq:=zH ((HBj.out.block (w.heap.size+2) (by omega)).trans HZ9.out);have HTq:=zH ((HBj.out.block (w.heap.size+3) (by omega)).trans HT9.out);have HBq:Hid (Below w.heap.size w wq):=zH (HB9w.out.trans (HBj.out.mono (by omega)));clear hll;obtain⟨xn0,xn1,xn2,xn3,xn4,xn5,xn6⟩:=zc7 HXq.out;obtain⟨bz0,bz1,bz2,bz3,bz4,bz5,bz6⟩:=zc7 HZq.out;obtain⟨cz0,cz1,cz2,cz3⟩:=zc4 HTq.out;obtain⟨fb0,fb1,fb2,fb3,fb4,fb5,fb6⟩:=zf7 HZq.out;obtain⟨fc0,fc1,fc2,fc3⟩:=zf4 HTq.out;obtain⟨qq1,qq2⟩:=zD (A:=w.heap.size+2) (B:=w.heap.size+3) (by omega) HZq.out HTq.out (.int .i64 (n:Int)) (.int .i64 (k:Int)) (.int .i64 (wr0:Int)) (.int .i64 (r:Int)) (.int .u16 (D:Int)) (.int .i64 (mw:Int)) (.slice a7 la c7) (.string ⟨#[]⟩) (.int .i64 0) (.int .i64 0) (.int .i64 0);obtain⟨y0,y1,y2,y3,y4,y5,y6⟩:=zc7 qq1;obtain⟨z0,z1,z2,z3⟩:=zc4 qq2;clear qq1 qq2;have HBZ:=zH (zn (zj HBq.out (show w.heap.size<=w.heap.size+2 by omega) (.int .i64 (n:Int)) (.int .i64 (k:Int)) (.int .i64 (wr0:Int)) (.int .i64 (r:Int)) (.int .u16 (D:Int)) (.int .i64 (mw:Int)) (.slice a7 la c7)) (show w.heap.size<=w.heap.size+3 by omega) (.string ⟨#[]⟩) (.int .i64 0) (.int .i64 0) (.int .i64 0));have HFS0:=zH (zn (zj (Below.refl 0 wq) (Nat.zero_le (w.heap.size+2)) (.int .i64 (n:Int)) (.int .i64 (k:Int)) (.int .i64 (wr0:Int)) (.int .i64 (r:Int)) (.int .u16 (D:Int)) (.int .i64 (mw:Int)) (.slice a7 la c7)) (Nat.zero_le (w.heap.size+3)) (.string ⟨#[]⟩) (.int .i64 0) (.int .i64 0) (.int .i64 0)).size;go_wp2_with fail
    refine bodyPost_ret (v:=.tuple #[.agg (shC n k wr0 r D mw (.slice a7 la c7)),.agg #[.string ⟨#[]⟩,.int .i64 0,.int .i64 0,.int .i64 0],.int .i64 0]) (by simp[results,Tryz.results26,go_sem,y0,y1,y2,y3,y4,y5,y6,z0,z1,z2,z3];try rfl) rfl ?_;rw[HF.out];refine⟨D,All.map (qA M key b),a7,c7,?_,HSN.out,pE HZq.out HTq.out HR10.out (fun b o c h1 h2 hc=>zV (a0:=.string ⟨#[]⟩) (a1:=.int .i64 0) (a2:=.int .i64 0) (a3:=.int .i64 0) h2 (zR (a0:=.int .i64 (n:Int)) (a1:=.int .i64 (k:Int)) (a2:=.int .i64 (wr0:Int)) (a3:=.int .i64 (r:Int)) (a4:=.int .u16 (D:Int)) (a5:=.int .i64 (mw:Int)) (a6:=.slice a7 la c7) h1 hc)),fun h0=>?_,.inr fun a ha=>?_,HBZ.out⟩
    . show _=Ending.returned (.tuple #[.agg (shC n k wr0 r D st.wr (.slice a7 (All.map (qA M key b)).length c7)),_,_]);rw[HLN.out,HMW.out];rfl
    . have:=HN10.out.1 h0;rw[HLN.out];exact this
    . have h1:=HN10.out.2 a ha;exact⟨by omega,Nat.lt_of_lt_of_le h1.2 HFS0.out⟩
end Go.Proofs.YtmgfbmkfomebcaaGreatDoor
