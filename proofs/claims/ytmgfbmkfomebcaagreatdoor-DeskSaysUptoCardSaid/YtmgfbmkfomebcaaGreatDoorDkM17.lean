/- package store: torn. -/
import Derived.Test.YtmgfbmkfomebcaaGreatDoorDkM15
import Derived.Test.YtmgfbmkfomebcaaGreatDoorDkM16
import Derived.Test.YtmgfbmkfomebcaaGreatDoorDkM7
import Derived.Test.YtmgfbmkfomebcaaGreatDoorDkM8
import Derived.Deep.RegionHeld
import Derived.Deep.RegionLaw
set_option linter.unusedVariables false
set_option linter.unusedSimpArgs false
set_option maxRecDepth 100000
set_option maxHeartbeats 8000000
namespace Go.Proofs.YtmgfbmkfomebcaaGreatDoor
open Go.RowKit
theorem zdZ(x c d:Value)(W:World):(callFunc 129 #[x,c,d]).run Tryz.prog W=.ok (.enter 129 #[x,c,d]) W:=by kernel_rfl
theorem zd0{w:World}{base:Nat}{Av:Nat->Prop}{n k wr r b nb:Nat}{V:Nat->Nat->Value}{st:St}(i key B2 B3:Nat)(hi:i<n)(hkey:key<3)(hn:n<=10)(h:Shf w base Av n k wr r b nb V st)
 (c2:w.cell? ⟨B2,0,none⟩=some (.pointer (some ⟨b,0,none⟩)))(c3:w.cell? ⟨B3,1,none⟩=some (.int .i64 (key:Int))):
 Calls Tryz.prog 129 #[.int .i64 (i:Int),.pointer (some ⟨B2,0,none⟩),.pointer (some ⟨B3,0,none⟩)] w fun e w'=>e=.returned (.bool (decide (8<=(st.kp i key).length)))/\∃q,w'=w.drewN q:=by
 have x4:=h.cells.2.2.2.2.1;obtain⟨ak,ck,hvk,_,_⟩:=h.reads hi hkey;have xk:=h.kpc hi hkey;rw[hvk]at xk;have hl:=h.ok.len i key;obtain⟨lk,hlk⟩:∃lk,(st.kp i key).length=lk:=⟨_,rfl⟩
 rw[hlk]at xk hl ⊢;have i0:(0:Int)<=(i:Int):=by omega
 have i1:(i:Int)<(n:Int):=by omega
 have y0:(0:Int)<=(key:Int):=by omega
 have y1:(key:Int)<3:=by omega
 obtain⟨t,ht⟩:∃t,decide (8<=lk)=t:=⟨_,rfl⟩
 have ht':decide ((8:Int)<=(lk:Int))=t:=by rw[<-ht];exact decide_eq_decide.2 (by omega)
 rw[ht];clear h hvk hlk;go_enter Tryz.func129,Tryz.ntmps129
 go_wp2_with fail
 go_quiet (fail)
 go_wp2_with fail
 go_ret
 exact⟨qi (by first|rfl|assumption|simp_all),_,rfl⟩
theorem J6{w w1 w2:World}{r:Option Nat}(h:w.grownBy w1 r)(h2:w1.grownBy w2 r):w.grownBy w2 r:=
 ⟨h2.os.trans h.os,h2.tape.trans h.tape,h2.output.trans h.output,Nat.le_trans h.size h2.size,fun k hk hne=>(h2.block k (Nat.lt_of_lt_of_le hk h.size) hne).trans (h.block k hk hne)⟩
theorem Z9{w w':World}(h:Below w.heap.size w w')(r:Option Nat):w.grownBy w' r:=⟨h.os,h.tape,h.output,h.size,fun k hk _=>h.block k hk⟩
theorem qJ{P:Program}{W:World}{ops:Array Oper}{o:Oper}{a:Act}{K:Act->World->Prop}{Q:Exit->Act->World->Prop}{E:Prop}(hgd:o.guard=none)(s x:Operand)(t:TypeId)
 (ho:o.op=.call {callee:=.builtin .append,args:=#[s,x],argTypes:=#[t,t]})
 (base:Nat)(e:TypeId)(z:Value)(size bytes:Nat)(ht:P.underlying t=some (.slice e))(hE:yb P e z size bytes)
 (v:Value)(n:Nat)(xs:List Value)(hs:a.eval s=v)(w0:World)(hown:w0.ownsRow base e size v n xs)
 (hbs:base<=w0.heap.size)(hW:Below w0.heap.size w0 W)
 (q:Nat)(us:Array Value)(hx:a.eval x=.slice (some ⟨q,0,none⟩) 1 1)(hq:W.heap[q]?=some (.cells us e))(hlen:us.size=size)(h1:∀u∈us.toList,u.oneCell'=true)
 (h63:n+1<=maxLen)(hbytes:(n+1)*bytes<=140737488355328)
 (h:∀g cap w',w'.ownsRow base e size (.slice (some ⟨g,0,none⟩) (n+1) cap) (n+1) (xs++us.toList)->w0.grownBy w' v.ownBlock->(v.ownBlock=some g\/w0.heap.size<=g)->K (a.put o.dst (.slice (some ⟨g,0,none⟩) (n+1) cap)) w'):
 if Region.wanted o (yielded ops a.tmps)=true then Oper.wp P o a W K Q else E:=by
 obtain⟨i,hi,hz,hsize,hby,hzs,hsz1⟩:=hE;have hownW:=zi hown hW;refine step_append_lies W hgd s x t ho base e i z size bytes ht hi hz hsize hby hzs hsz1 v n xs hs hownW ⟨q,0,none⟩ 1 1 us.toList hx (by simp[hlen]) (World.news_of_block hq) h1 (by omega) h63 hbytes (Nat.le_trans hbs hW.size) W.heap.size rfl ?_;intro g cap w' hown' hgr hat hlt;refine h g cap w' hown' (J6 (Z9 hW _) hgr) ?_;rcases hat with e|e
 . exact .inl e
 . exact .inr (by rw[e];exact hW.size)
theorem QN{a k key:Nat}{text:ByteArray}(hs:text.size<=60)(hk:1<=k)(ha:1<=a):∀(U:List Nat) (st:St),U.Nodup->Okst st->a<=st.wr->(∀i∈U,∀x∈st.kp i key,x.1<a)->Okst (U.foldl (qo a k text key) st)/\(U.foldl (qo a k text key) st).wr=st.wr/\(∀i,i∉U->(U.foldl (qo a k text key) st).kp i key=st.kp i key)
 |[],st,_,h,_,_=>⟨h,rfl,fun _ _=>rfl⟩
 |i::t,st,hu,h,h2,hlt=>by
  rw[List.nodup_cons]at hu;have h3:=QN (key:=key) hs hk ha t (qo a k text key st i) hu.2 (h.torn i key a (hlt i (by simp)) ha h2 (kM _ _ _ hs hk)) h2 (fun j hj x hx=>by
   have hne:j≠i:=fun e=>hu.1 (e ▸ hj)
   have e:(qo a k text key st i).kp j key=st.kp j key:=St.set_far _ _ (.inl hne);rw[e]at hx;exact hlt j (by simp[hj]) x hx)
  refine⟨h3.1,h3.2.1,fun j hj=>?_⟩;rw[List.foldl_cons,h3.2.2 j (fun h=>hj (by simp[h]))];exact St.set_far _ _ (.inl (fun e=>hj (by simp[e])))
theorem Qu{w:World}{base e size:Nat}{ao:Option Addr}{n m cap:Nat}{xs:List Value}(h:w.ownsRow base e size (.slice ao n cap) m xs):n<=cap/\cap<=maxLen:=by
 rcases h.2 with⟨hv,_⟩|⟨g,c,cur,hv,_,_,h1,h2,_⟩
 . cases hv;exact⟨Nat.le_refl _,by unfold maxLen;omega⟩
 . cases hv;exact⟨h1,h2⟩
theorem zaH{w:World}{base:Nat}{Av:Nat->Prop}{n k wr0 r b nb:Nat}{V:Nat->Nat->Value}{st:St}(kind:Int)(key:Nat)(m:Int)(text:ByteArray)(hkey:key<3)(ht:text.size<=9223372036854775807)(hk1:1<=k)(hkn:k<=n)(hn:n<=10)(h:Shf w base Av n k wr0 r b nb V st):
 Calls Tryz.prog 94 #[.pointer (some ⟨b,0,none⟩),deedV kind (key:Int) m text] w (kJ base Av n k wr0 r b nb (vT n k wr0 st key m text) w):=by
 obtain⟨W1,hW1⟩:∃W1,((w.alloc (.cells #[.pointer (some ⟨b,0,none⟩)] 29)).alloc (.cells #[.int .i64 kind,.int .i64 (key:Int),.int .i64 m,.string text] 66)).alloc (.cells #[.string ⟨#[]⟩,.int .i64 0,.int .i64 0,.int .i64 0] 70)=W1:=⟨_,rfl⟩
 have hb00:Below w.heap.size w (w.alloc (.cells #[.pointer (some ⟨b,0,none⟩)] 29)):=zc _ _;have hb1:Below w.heap.size w W1:=by rw[<-hW1];exact(hb00.alloc (by simp) _).alloc (by simp;omega) _
 have hp1:W1.heap[w.heap.size]?=some (.cells #[.pointer (some ⟨b,0,none⟩)] 29 (0,0)):=by rw[<-hW1];exact za _ _ (za _ _ (heap_alloc_new w _))
 have hd1:W1.heap[w.heap.size+1]?=some (.cells #[.int .i64 kind,.int .i64 (key:Int),.int .i64 m,.string text] 66 (0,0)):=by rw[<-hW1];exact za _ _ (zl _ _ _ (by simp))
 have hr1:W1.heap[w.heap.size+2]?=some (.cells #[.string ⟨#[]⟩,.int .i64 0,.int .i64 0,.int .i64 0] 70 (0,0)):=by rw[<-hW1];exact zl _ _ _ (by simp)
 have hsz1:W1.heap.size=w.heap.size+3:=by rw[<-hW1];simp
 have p0:=zd hp1 0;have d1:=zd hd1 1;have d2:=zd hd1 2;have d3:=zd hd1 3;simp only[List.getElem?_toArray,List.getElem?_cons_zero,List.getElem?_cons_succ]at p0 d1 d2 d3;have CS:=zH (ZK text ht hk1 hkn hn (h.below hb1));unfold KQ at CS;have HS:=zH h;have HB1:=zH hb1;have HP1:=zH hp1;have HD1:=zH hd1;have HR1:=zH hr1;have HZ1:=zH hsz1;have HAV:Hid (∀g,Av g->g≠w.heap.size+2):=zH fun g hg=>by have:=h.avlt g hg;omega
 have HBS:Hid (base<=w.heap.size+2):=zH (by have:=h.hb;have:=h.blt;omega);obtain⟨E,hE⟩:∃E,qM n wr0 st text=E:=⟨_,rfl⟩
 have HE:=zH hE;rw[hE]at CS;have HEND:Hid (∀w2,Below w.heap.size w w2->w.heap.size+3<=w2.heap.size->(((∃V',Shf ((((w2.setCell ⟨w.heap.size+2,0,none⟩ (.string ⟨#[]⟩)).setCell ⟨w.heap.size+2,1,none⟩ (.int .i64 0)).setCell ⟨w.heap.size+2,2,none⟩ (.int .i64 0)).setCell ⟨w.heap.size+2,3,none⟩ (.int .i64 0)) base Av n k wr0 r b nb V' st)/\Kept Av base w ((((w2.setCell ⟨w.heap.size+2,0,none⟩ (.string ⟨#[]⟩)).setCell ⟨w.heap.size+2,1,none⟩ (.int .i64 0)).setCell ⟨w.heap.size+2,2,none⟩ (.int .i64 0)).setCell ⟨w.heap.size+2,3,none⟩ (.int .i64 0))))):=zH fun w2 hb hz=>
  Qm (HS.out.wide hb) (HS.out.kept hb) (fun x hx=>WideA.old hx) (WideA.new (by omega) (by omega)) HAV.out HBS.out _ _ _ _
 clear h hb00 hb1 hp1 hd1 hr1 hsz1 hE;go_enter Tryz.func94,Tryz.ntmps94
 go_wp2_with fail
 (with_reducible refine CS.out.mono ?_)
 clear hW1;rintro e w2 (⟨hne,rfl,hb2⟩|⟨h0,g,rfl,hown2,hb2⟩)
 . have r2:=(hb2.block (w.heap.size+2) (by rw[HZ1.out];omega)).trans HR1.out;obtain⟨r0,r1,r2',r3⟩:=zc4 r2;obtain⟨f0,f1,f2,f3⟩:=zf4 r2;have t0:((E:Int)!=0)=true:=by simp;omega
   have HB2:Hid (Below w.heap.size w w2):=zH (HB1.out.trans (hb2.mono HB1.out.size));have HNE:=zH hne;obtain⟨tc0,tc1,tc2,tc3⟩:=yg r2 (.string ⟨#[]⟩) (.int .i64 0) (.int .i64 0) (.int .i64 0);have HD:=zH (HEND.out w2 HB2.out (by have:=hb2.size;have:=HZ1.out;omega));clear r2 hb2 hne;go_wp2_with fail
   refine bodyPost_ret (v:=.tuple #[.agg #[.string ⟨#[]⟩,.int .i64 0,.int .i64 0,.int .i64 0],.int .i64 (E:Nat)]) (by simp[results,Tryz.results94,go_sem,tc0,tc1,tc2,tc3];try rfl) rfl ?_;have hF:vT n k wr0 st key m text=(st,Tl.no,E):=by unfold vT;rw[if_pos (by rw[HE.out];exact HNE.out),HE.out]
   rw[hF];exact⟨rfl,HD.out⟩
 have HB2:Hid (Below w.heap.size w w2):=zH (HB1.out.trans (hb2.mono HB1.out.size));have HB12:=zH hb2;have HE0:Hid (qM n wr0 st text=0):=zH (by rw[HE.out];exact h0);have HPC:=zH hown2;have p0:=zd ((hb2.block w.heap.size (by rw[HZ1.out];omega)).trans HP1.out) 0;simp only[List.getElem?_toArray,List.getElem?_cons_zero]at p0;have CU:=zH (pj hn (HS.out.below HB2.out));unfold kr at CU;have HUM:Hid (∀i,i∈ups n st->i<n/\st.dn i=false):=zH fun i hi=>vP.1 hi
 have HND:Hid (ups n st).Nodup:=zH (vS _ _);have hul:=kz n st;obtain⟨U,hU⟩:∃U,ups n st=U:=⟨_,rfl⟩
 rw[hU]at CU HUM hul HND;obtain⟨u,hu⟩:∃u,U.length=u:=⟨_,rfl⟩
 rw[hu]at CU hul;have HU:=zH hU;have HUL:=zH hu;clear h0 hown2 hb2 hU hu CS;go_wp2_with fail
 (with_reducible refine CU.out.mono ?_)
 rintro e w3 ⟨ao3,cap3,rfl,hown3,hb3⟩;have HB3:Hid (Below w.heap.size w w3):=zH (HB2.out.trans (hb3.mono HB2.out.size));have hz3:w.heap.size+3<=w3.heap.size:=by have:=hb3.size;have:=HB12.out.size;have:=HZ1.out;omega
 have HZ3:=zH hz3;have hb13:Below W1.heap.size W1 w3:=HB12.out.trans (hb3.mono HB12.out.size);have HP3:=zH ((hb13.block w.heap.size (by rw[HZ1.out];omega)).trans HP1.out);have HD3:=zH ((hb13.block (w.heap.size+1) (by rw[HZ1.out];omega)).trans HD1.out);have HR3:=zH ((hb13.block (w.heap.size+2) (by rw[HZ1.out];omega)).trans HR1.out);have HPC3:=zH (HPC.out.below hb3);have d1:=zd HD3.out 1;have d2:=zd HD3.out 2;obtain⟨r0,r1,r2',r3⟩:=zc4 HR3.out;simp only[List.getElem?_toArray,List.getElem?_cons_zero,List.getElem?_cons_succ]at d1 d2;obtain⟨f0,f1,f2,f3⟩:=zf4 HR3.out;have HOU:=zH hown3;have hcap:=(Qu hown3).1;have hcap2:=(Qu hown3).2;clear CU hown3 hb3 hb13 p0 d3 HPC;by_cases g0:m<0\/(u:Int)<m
 . have hF:Hid (vT n k wr0 st key m text=(st,Tl.no,1)):=zH (by unfold vT;rw[if_neg (by rw[HE0.out];simp),HU.out,HUL.out,if_pos g0]);obtain⟨tc0,tc1,tc2,tc3⟩:=yg HR3.out (.string ⟨#[]⟩) (.int .i64 0) (.int .i64 0) (.int .i64 0);have HD:=zH (HEND.out w3 HB3.out hz3);by_cases g1:m<0
   . have t1:decide (m<0)=true:=decide_eq_true g1;clear g0 g1;go_wp2_with fail
     refine bodyPost_ret (v:=.tuple #[.agg #[.string ⟨#[]⟩,.int .i64 0,.int .i64 0,.int .i64 0],.int .i64 1]) (by simp[results,Tryz.results94,go_sem,tc0,tc1,tc2,tc3];try rfl) rfl ?_;rw[hF.out];exact⟨rfl,HD.out⟩
   . have t1:decide (m<0)=false:=decide_eq_false g1;have t2:decide ((u:Int)<m)=true:=decide_eq_true (by omega);clear g0 g1;go_wp2_with fail
     refine bodyPost_ret (v:=.tuple #[.agg #[.string ⟨#[]⟩,.int .i64 0,.int .i64 0,.int .i64 0],.int .i64 1]) (by simp[results,Tryz.results94,go_sem,tc0,tc1,tc2,tc3];try rfl) rfl ?_;rw[hF.out];exact⟨rfl,HD.out⟩
 obtain⟨M,rfl⟩:∃M:Nat,m=M:=⟨m.toNat,by omega⟩
 have hMu:M<=u:=by omega
 have t1:decide ((M:Int)<0)=false:=decide_eq_false (by omega);have t2:decide ((u:Int)<(M:Int))=false:=decide_eq_false (by omega);have t2':decide (u<M)=false:=decide_eq_false (by omega);have m0:(0:Int)<=(M:Int):=by omega
 have m1:(M:Int)<=(cap3:Int):=by omega
 have m1':M<=cap3:=by omega
 clear g0;have HRU:=zH (zF HOU.out);have HLT3:Hid (∀a,ao3=some a->w.heap.size<=a.block/\a.block<w3.heap.size):=zH fun a ha=>by
  have h1:=HOU.out.lt a.block (by rw[ha];rfl);have h2:=HB2.out.size;omega
 have HUT:Hid (∀i∈U.take M,i<n):=zH fun i hi=>(HUM.out i (List.mem_of_mem_take hi)).1
 obtain⟨UM,hUM⟩:∃UM,U.take M=UM:=⟨_,rfl⟩
 have hML:UM.length=M:=by rw[<-hUM,List.length_take];have:=HUL.out;omega
 have HRM:Hid (Reads w3 ao3 ((UM.map fun a:Nat=>(a:Int)).map (Value.int .i64))):=zH (by
  intro j v hv;apply HRU.out j v;rw[<-hUM]at hv;unfold zZ;rw[List.getElem?_map]at hv ⊢;rw[List.getElem?_map,List.getElem?_take]at hv
  split at hv
  . cases hu:U[j]? with
    |none=>rw[hu]at hv;cases hv
    |some a=>rw[hu]at hv;simpa using hv
  . cases hv)
 have CF:=QA 129 (.pointer (some ⟨w.heap.size,0,none⟩)) (.pointer (some ⟨w.heap.size+1,0,none⟩)) (fun x W=>zdZ x _ _ W) (fun x=>decide (8<=(st.kp x.toNat key).length)) (UM.map fun a:Nat=>(a:Int)) ao3 cap3 w3 (by rw[List.length_map,hML];omega) HRM (zH fun x hx q=>by
  obtain⟨i,hi,rfl⟩:=List.mem_map.1 hx;have hin:=HUT.out i (by rw[hUM];exact hi);have h1:=zd0 (w:=w3.drewN q) i key w.heap.size (w.heap.size+1) hin hkey hn (HS.out.below (zg HB3.out q)) (by
   show w3.cell? _=_;rw[zd HP3.out];rfl) (by
   show w3.cell? _=_;rw[zd HD3.out];rfl)
  exact h1)
 rw[List.length_map,hML,List.any_map]at CF;have HCF:=zH CF;have HML:=zH hML;have HUMT:=zH hUM;have HF0:Hid (vT n k wr0 st key (M:Int) text=if UM.any (fun i=>decide (8<=(st.kp i key).length))=true then(st,Tl.no,11) else(UM.foldl (qo (st.wr+1) k text key) st.up1,⟨ByteArray.empty,st.wr+1,0⟩,0)):=zH (by
  unfold vT;rw[if_neg (by rw[HE0.out];simp),HU.out,HUL.out,if_neg (by omega)];rw[Int.toNat_natCast,hUM])
 obtain⟨t,htt⟩:∃t,UM.any (fun i=>decide (8<=(st.kp i key).length))=t:=⟨_,rfl⟩
 have e9:UM.any ((fun x:Int=>decide (8<=(st.kp x.toNat key).length))∘fun a:Nat=>(a:Int))=t:=by rw[<-htt];rfl
 rw[e9]at HCF;rw[htt]at HF0;clear CF hML hUM htt e9;go_wp2_with fail
 (with_reducible refine HCF.out.mono ?_)
 rintro e w4 ⟨rfl,q4,rfl⟩;cases t with
 |true=>
  have hF:Hid (vT n k wr0 st key (M:Int) text=(st,Tl.no,11)):=zH (by rw[HF0.out,if_pos rfl]);have HR4:Hid ((w3.drewN q4).heap[w.heap.size+2]?=some (.cells #[.string ⟨#[]⟩,.int .i64 0,.int .i64 0,.int .i64 0] 70 (0,0))):=zH HR3.out;obtain⟨W4,hW4⟩:∃W4,w3.drewN q4=W4:=⟨_,rfl⟩
  have HD:=zH (HEND.out (w3.drewN q4) (zg HB3.out q4) hz3);rw[hW4]at HR4 HD ⊢;clear hW4 r0 r1 r2' r3 f0 f1 f2 f3;obtain⟨r0,r1,r2',r3⟩:=zc4 HR4.out;obtain⟨f0,f1,f2,f3⟩:=zf4 HR4.out;obtain⟨tc0,tc1,tc2,tc3⟩:=yg HR4.out (.string ⟨#[]⟩) (.int .i64 0) (.int .i64 0) (.int .i64 0);go_wp2_with fail
  refine bodyPost_ret (v:=.tuple #[.agg #[.string ⟨#[]⟩,.int .i64 0,.int .i64 0,.int .i64 0],.int .i64 11]) (by simp[results,Tryz.results94,go_sem,tc0,tc1,tc2,tc3];try rfl) rfl ?_;rw[hF.out];exact⟨rfl,HD.out⟩
 |false=>
  have hF:Hid (vT n k wr0 st key (M:Int) text=(UM.foldl (qo (st.wr+1) k text key) st.up1,⟨ByteArray.empty,st.wr+1,0⟩,0)):=zH (by rw[HF0.out,if_neg (by simp)]);obtain⟨W4,hW4⟩:∃W4,w3.drewN q4=W4:=⟨_,rfl⟩
  have HB34:Hid (Below w3.heap.size w3 W4):=zH (by rw[<-hW4];exact yc _ _ q4);have HB4:Hid (Below w.heap.size w W4):=zH (HB3.out.trans (HB34.out.mono HB3.out.size));have hz34:W4.heap.size=w3.heap.size:=by rw[<-hW4];rfl
  rw[hW4];obtain⟨ht60,_,hwr⟩:=Vy HE0.out;have HW4:=zH (HS.out.wide HB4.out);have HK4:=zH (HS.out.kept HB4.out);have hP5:=HW4.out.put_wr hwr;obtain⟨W5,hW5⟩:∃W5,W4.setCell ⟨b,5,none⟩ (.int .i64 ((st.wr+1:Nat):Int))=W5:=⟨_,rfl⟩
  have c5:=HW4.out.cells.2.2.2.2.2;have fb5:=HW4.out.frozen 5;rw[hW5]at hP5;have x5:=hP5.1.cells.2.2.2.2.2;have HP5:=zH hP5;have HOKU:=zH (HS.out.ok.up1 hwr);have HT60:=zH ht60;have hw6:=HS.out.ok.w6;obtain⟨A,hA⟩:∃A,st.wr+1=A:=⟨_,rfl⟩
  have hA6:A<=1000000:=by omega
  have wadd:((st.wr:Nat):Int)+1=(A:Int):=by omega
  have x5':W5.cell? ⟨b,5,none⟩=some (.int .i64 (A:Int)):=by rw[x5];rw[<-hA];rfl
  rw[hA]at hW5 hF;have HA:=zH hA;have hAP:WideA Av w.heap.size W4.heap.size w.heap.size:=WideA.new (Nat.le_refl _) (by omega);have hAD:WideA Av w.heap.size W4.heap.size (w.heap.size+1):=WideA.new (by omega) (by omega);have hAR:WideA Av w.heap.size W4.heap.size (w.heap.size+2):=WideA.new (by omega) (by omega);have hAG:WideA Av w.heap.size W4.heap.size g:=WideA.new (by have:=HPC3.out.lt;have:=HZ1.out;omega) (by have:=HPC3.out.lt;omega);have hAU:∀a,ao3=some a->WideA Av w.heap.size W4.heap.size a.block:=fun a ha=>WideA.new (HLT3.out a ha).1 (by have:=(HLT3.out a ha).2;omega)
  have p4:W4.cell? ⟨w.heap.size,0,none⟩=some (.pointer (some ⟨b,0,none⟩)):=by rw[<-hW4];show w3.cell? _=_;rw[zd HP3.out];rfl
  have p5:=hP5.2.cell hAP p4;obtain⟨W6,hW6⟩:∃W6,W5.alloc (.cells #[.int .i64 (A:Int),.int .i64 0] 68)=W6:=⟨_,rfl⟩
  have hb56:Below W5.heap.size W5 W6:=by rw[<-hW6];exact zc _ _
  have hat6:W6.heap[W5.heap.size]?=some (.cells #[.int .i64 (A:Int),.int .i64 0] 68 (0,0)):=by rw[<-hW6];exact heap_alloc_new _ _
  have hz6:W6.heap.size=W5.heap.size+1:=by rw[<-hW6];simp
  have HS6:=zH (hP5.1.wide hb56);have hk46:Kept (WideA Av w.heap.size W4.heap.size) base W4 W6:=hP5.2.trans (hP5.1.kept hb56);have HK6:Hid (Kept Av base w W6):=zH (HK4.out.trans (hk46.narrow fun x hx=>WideA.old hx));have hb4:=fun(gg:Nat) (hh:WideA Av w.heap.size W4.heap.size gg)=>hk46.blk gg hh
  have HP6:Hid (W6.heap[w.heap.size]?=some (.cells #[.pointer (some ⟨b,0,none⟩)] 29 (0,0))):=zH ((hb4 _ hAP).trans (by rw[<-hW4];exact HP3.out));have HD6:Hid (W6.heap[w.heap.size+1]?=some (.cells #[.int .i64 kind,.int .i64 (key:Int),.int .i64 (M:Int),.string text] 66 (0,0))):=zH ((hb4 _ hAD).trans (by rw[<-hW4];exact HD3.out));have HR6:Hid (W6.heap[w.heap.size+2]?=some (.cells #[.string ⟨#[]⟩,.int .i64 0,.int .i64 0,.int .i64 0] 70 (0,0))):=zH ((hb4 _ hAR).trans (by rw[<-hW4];exact HR3.out));have HG6:Hid (∀i,i<n->W6.cell? ⟨g,i,none⟩=some (.string (pcs text k i))):=zH fun i hi=>hk46.cell hAG ((HB34.out.cell (p:=⟨g,i,none⟩) HPC3.out.lt.2).trans (HPC3.out.cell hi))
  have HRU6:Hid (Reads W6 ao3 (zZ UM)):=zH (by
   have h1:Reads W4 ao3 (zZ UM):=by
    have h2:=HRM.out.below HB34.out;unfold zZ;rw[List.map_map]at h2;exact h2
   exact hk46.reads hAU h1)
  have HAT6:=zH hat6;have HXP:Hid (WideA (WideA Av w.heap.size W4.heap.size) W5.heap.size W6.heap.size w.heap.size):=zH (WideA.old hAP);have HXD:Hid (WideA (WideA Av w.heap.size W4.heap.size) W5.heap.size W6.heap.size (w.heap.size+1)):=zH (WideA.old hAD);have HXR:Hid (WideA (WideA Av w.heap.size W4.heap.size) W5.heap.size W6.heap.size (w.heap.size+2)):=zH (WideA.old hAR);have HXG:Hid (WideA (WideA Av w.heap.size W4.heap.size) W5.heap.size W6.heap.size g):=zH (WideA.old hAG);have HXT:Hid (WideA (WideA Av w.heap.size W4.heap.size) W5.heap.size W6.heap.size W5.heap.size):=zH (WideA.new (Nat.le_refl _) (by omega));have HXU:Hid (∀a,ao3=some a->WideA (WideA Av w.heap.size W4.heap.size) W5.heap.size W6.heap.size a.block):=zH fun a ha=>WideA.old (hAU a ha)
  have HOA:Hid (∀x,Av x->WideA (WideA Av w.heap.size W4.heap.size) W5.heap.size W6.heap.size x):=zH fun x hx=>WideA.old (WideA.old hx)
  obtain⟨Ax,hAx⟩:∃Ax,WideA (WideA Av w.heap.size W4.heap.size) W5.heap.size W6.heap.size=Ax:=⟨_,rfl⟩
  rw[hAx]at HS6 HXP HXD HXR HXG HXT HXU HOA;have HW5:=zH hW5;have HW6:=zH hW6;clear hW4 hP5 x5 hb56 hat6 hk46 hb4 hAP hAD hAR hAG hAU hAx ht60 hwr hw6 HEND HCF hA;clear r0 r1 r2' r3 f0 f1 f2 f3 hW6;go_wp2_with fail
  rw[HW6.out];clear hW5;go_loopw [59] (fun vj wr=>∃(j:Nat) (V':Nat->Nat->Value),vj=.int .i64 j/\j<=M/\Hid (Shf wr base Ax n k wr0 r b nb V' ((UM.take j).foldl (qo A k text key) st.up1))/\Hid (Kept Ax base W6 wr)) (fun vj _=>M-(intOf vj).toNat)
  case atStart=>exact⟨0,V,rfl,by omega,HS6,zH (Kept.refl _ _ _)⟩
  case round=>
   clear HS6;obtain⟨j,V',rfl,hj,HSj,HKj⟩:=hrel;obtain⟨wq,rfl⟩:∃wq,wq=wr:=⟨_,rfl⟩
   by_cases hju:j<M
   . obtain⟨i,hi⟩:∃i,UM[j]?=some i:=⟨UM[j]'(by rw[HML.out];exact hju),List.getElem?_eq_getElem _⟩
     have hin:=HUT.out i (by rw[HUMT.out];exact List.mem_of_getElem? hi);obtain⟨bu,ou,hra,xu⟩:=(HKj.out.reads HXU.out HRU6.out) j _ (yN hi);cases hra;have HFN:=zH (jb (qo A k text key) st.up1 hi);have hndM:UM.Nodup:=by rw[<-HUMT.out];exact HND.out.sublist (List.take_sublist _ _)
     have hOKj:=QN (a:=A) (k:=k) (key:=key) (text:=text) HT60.out hk1 (by have:=HA.out;omega) (UM.take j) st.up1 (hndM.sublist (List.take_sublist _ _)) HOKU.out (by rw[<-HA.out];exact Nat.le_refl _) (fun i _ x hx=>by
      have:=(HS.out.ok.rng i key x hx).2.1;have:=HA.out;omega)
     have hnot:i∉UM.take j:=by
      intro hm;obtain⟨q,hq⟩:=List.getElem?_of_mem hm;rw[List.getElem?_take]at hq
      split at hq
      . rename_i hqj;have h1:=List.getElem?_eq_some_iff.1 hq;have h2:=List.getElem?_eq_some_iff.1 hi;have h3:=(List.nodup_iff_pairwise_ne.1 hndM)
        rw[List.pairwise_iff_getElem]at h3;exact h3 q j h1.1 h2.1 hqj (h1.2.trans h2.2.symm)
      . cases hq
     have hkpi:((UM.take j).foldl (qo A k text key) st.up1).kp i key=st.kp i key:=(hOKj.2.2 i hnot).trans rfl;obtain⟨sj,hsj⟩:∃sj,(UM.take j).foldl (qo A k text key) st.up1=sj:=⟨_,rfl⟩
     rw[hsj]at HSj HFN hOKj hkpi;have hS:=HSj.out;have x4:=hS.cells.2.2.2.2.1;obtain⟨ak,ck,hvk,hRk,hnk⟩:=hS.reads hin hkey;have xk:=hS.kpc hin hkey;rw[hvk]at xk;have fk:=hS.nodes.frozen (i*4+1+key);have hnl:=hS.nodes.lt.2;have hvb:=hS.vb i key hin hkey;have hrow:=hS.row i key hin hkey;rw[hvk]at hvb hrow;have hlk6:=hOKj.1.len i key;have hxs:∀x∈sj.kp i key,x.1<A:=fun x hx=>by
      rw[hkpi]at hx;have:=(HS.out.ok.rng i key x hx).2.1;have:=HA.out;omega
     have HOKN:Hid (Okst (sj.set i key (sj.kp i key++[(A,pcs text k i)]))):=zH (hOKj.1.torn i key A hxs (by have:=HA.out;omega) (by rw[hOKj.2.1,<-HA.out];exact Nat.le_refl _) (kM _ _ _ HT60.out hk1));have xp0:=HKj.out.cell HXP.out (o:=0) (c:=.pointer (some ⟨b,0,none⟩)) (by rw[zd HP6.out];rfl);have xd1:=HKj.out.cell HXD.out (o:=1) (c:=.int .i64 (key:Int)) (by rw[zd HD6.out];rfl);have xt0:=HKj.out.cell HXT.out (o:=0) (c:=.int .i64 (A:Int)) (by rw[zd HAT6.out];rfl);have xt1:=HKj.out.cell HXT.out (o:=1) (c:=.int .i64 0) (by rw[zd HAT6.out];rfl);have xg:=HKj.out.cell HXG.out (HG6.out i hin);obtain⟨PC,hPC⟩:∃PC,pcs text k i=PC:=⟨_,rfl⟩
     rw[hPC]at xg HOKN;have HPCC:=zH hPC;obtain⟨L,hL⟩:∃L,sj.kp i key=L:=⟨_,rfl⟩
     rw[hL]at hvk hvb hrow xk hlk6 HOKN;obtain⟨lk,hlk⟩:∃lk,L.length=lk:=⟨_,rfl⟩
     rw[hlk]at hvk hvb hrow xk hlk6;have HLL:=zH hL;have HLK:=zH hlk;have HVK:=zH hvk;have HROW:Hid (wq.ownsRow base 106 3 (.slice ak lk ck) lk (zw L)):=zH hrow;have HNB:Hid (some nb≠(Value.slice ak lk ck).ownBlock):=zH (fun e=>hvb.2 e.symm);have HNL:=zH hnl;have HXK:=zH xk;have HFK:=zH fk;have HBASE:Hid (base<=wq.heap.size):=zH (Nat.le_trans hS.hb (Nat.le_of_lt hS.blt));have hm1:Hid (lk+1<=maxLen):=zH (by unfold maxLen;omega);have hm2:Hid ((lk+1)*32<=140737488355328):=zH (by omega);have i0:(0:Int)<=(i:Int):=by omega
     have i1:(i:Int)<(n:Int):=by omega
     have y0:(0:Int)<=(key:Int):=by omega
     have y1:(key:Int)<3:=by omega
     have xk2:=((zc wq (.cells #[.int .i64 (A:Int),.int .i64 0,.string PC] 106)).cell (p:=⟨nb,i*4+1+key,none⟩) hnl).trans xk;clear hi hPC hS hL hlk hRk hvk hOKj hnk hsj hndM hnot hkpi hxs hrow hvb hnl;go_wp2_with fail
     go_region_held (fun w'=>w'.cell? ⟨w.heap.size,0,none⟩=some (.pointer (some ⟨b,0,none⟩))/\w'.cell? ⟨b,4,none⟩=some (.slice (some ⟨nb,0,none⟩) n n)/\w'.cell? ⟨w.heap.size+1,1,none⟩=some (.int .i64 (key:Int))) (go_keep) (fail)
     all_goals
      go_wp2_with fail
      go_region_law (first
       |(go_loud (refine qJ ?_ (.tmp 76) (.tmp 83) 111 ?_ base 106 _ 3 32 Tryz.underlying111 Xk (.slice ak lk ck) lk (zw L) ?_ wq HROW.out HBASE.out ?_ ?_ #[.int .i64 (A:Int),.int .i64 0,.string PC] ?_ ?_ rfl ?_ hm1.out hm2.out ?_);(focus rfl);(focus rfl);(focus rfl);(focus (repeat(first|(with_reducible exact Below.refl _ _)|(with_reducible apply zb)|(with_reducible apply zg)|(with_reducible refine Below.alloc ?_ (by simp;try omega) _)|fail)));rotate_left;(focus rfl);(focus (repeat(first|(with_reducible exact zl _ _ _ (by simp;try omega))|(with_reducible apply yu)|(with_reducible apply yO)|(with_reducible apply za)|fail)));(focus (intro u hu;simp at hu;rcases hu with rfl|rfl|rfl<;>rfl));intro g9 c9 w9 hown9 hgr9 hat9;have xk9:w9.cell? ⟨nb,i*4+1+key,none⟩=some (.slice ak lk ck):=hgr9.cell HXK.out HNB.out;have fk9:w9.frozen? ⟨nb,i*4+1+key,none⟩=false:=(kI (hgr9.block nb HNL.out HNB.out)).trans HFK.out)
       |fail)
      all_goals
       have hlen:lk+1=(L++[(A,PC)]).length:=by rw[List.length_append,HLK.out];rfl
       have hnew:=HSj.out.put_row (l:=L++[(A,PC)]) hin hkey (by rw[HVK.out];exact hgr9) (by rw[<-hlen,kB];exact hown9) (by
        rw[HVK.out];rcases hat9 with e|e
        . exact .inl e.symm
        . exact .inr ⟨g9,rfl,e⟩) HOKN.out
       have HN1:Hid (Shf (w9.setCell ⟨nb,i*4+1+key,none⟩ (.slice (some ⟨g9,0,none⟩) (lk+1) c9)) base Ax n k wr0 r b nb (zaV V' i key (.slice (some ⟨g9,0,none⟩) (lk+1) c9)) ((UM.take (j+1)).foldl (qo A k text key) st.up1)):=zH (by
        rw[HFN.out];unfold qo;rw[HLL.out,HPCC.out];exact hnew.1)
       have HN2:Hid (Kept Ax base W6 (w9.setCell ⟨nb,i*4+1+key,none⟩ (.slice (some ⟨g9,0,none⟩) (lk+1) c9))):=zH (HKj.out.trans hnew.2);clear hnew hlen hown9 hgr9 hat9;go_wp2_with fail
       go_roundw
       case rel=>exact⟨j+1,_,by go_num,by omega,HN1,HN2⟩
       case measure=>simp[intOf];omega
   . obtain rfl:M=j:=by omega
     have r5:=(HKj.out.blk _ HXR.out).trans HR6.out;obtain⟨r0,r1,r2',r3⟩:=zc4 r5;obtain⟨f0,f1,f2,f3⟩:=zf4 r5;have xt0:=HKj.out.cell HXT.out (o:=0) (c:=.int .i64 (A:Int)) (by rw[zd HAT6.out];rfl);have xt1:=HKj.out.cell HXT.out (o:=1) (c:=.int .i64 0) (by rw[zd HAT6.out];rfl);have HD:=zH (Qm HSj.out (HK6.out.trans (HKj.out.narrow HOA.out)) HOA.out HXR.out HAV.out HBS.out (.string ⟨#[]⟩) (.int .i64 (A:Int)) (.int .i64 0) (.int .i64 0));have HFU:Hid ((UM.take M).foldl (qo A k text key) st.up1=UM.foldl (qo A k text key) st.up1):=zH (by rw[List.take_of_length_le (by rw[HML.out];exact Nat.le_refl _)]);obtain⟨tc0,tc1,tc2,tc3⟩:=yg r5 (.string ⟨#[]⟩) (.int .i64 (A:Int)) (.int .i64 0) (.int .i64 0);clear r5;go_wp2_with fail
     refine bodyPost_ret (v:=.tuple #[.agg #[.string ⟨#[]⟩,.int .i64 (A:Int),.int .i64 0,.int .i64 0],.int .i64 0]) (by simp[results,Tryz.results94,go_sem,tc0,tc1,tc2,tc3];try rfl) rfl ?_;rw[hF.out,<-HFU.out];exact⟨rfl,HD.out⟩
end Go.Proofs.YtmgfbmkfomebcaaGreatDoor
