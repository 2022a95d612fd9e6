/- (*desk).line. -/
import Derived.Test.YtmgfbmkfomebcaaGreatDoorDkM40
import Derived.Deep.RegionHeld3
import Derived.Test.YtmgfbmkfomebcaaGreatDoorDkM29
import Derived.StillTailTactics
set_option linter.unusedVariables false
set_option linter.unusedSimpArgs false
set_option maxRecDepth 100000
set_option maxHeartbeats 8000000
namespace Go.Proofs.YtmgfbmkfomebcaaGreatDoor
open Go.RowKit
def Zz(base:Nat)(Av:Nat->Prop)(D:Nat)(R:DS×ByteArray)(w:World)(e:Ending)(w':World):Prop:=
 e=.returned (.string R.2)/\HasDsk w' base Av D R.1/\Kept Av base w w'
theorem HasDsk.aside{w:World}{base:Nat}{Av:Nat->Prop}{D:Nat}{s:DS}(h:HasDsk w base Av D s){R:Nat}(hR:Av R)(j:Nat)(v:Value):HasDsk (w.setCell ⟨R,j,none⟩ v) base Av D s:=by
 obtain⟨b,nb,V,h⟩:=h;refine⟨b,nb,V,h.ok,h.st.aside (.inl hR) j v,?_,h.bD,h.nD⟩;rw[zf v (fun e:R=D=>h.nD (e ▸ hR))];exact h.cell
def yS(n:Nat):Nat:=if n=0 then 0 else 1
theorem yn(A n:Nat)(W:World):(Instr.slice 22 (.slice (some ⟨A,0,none⟩) (n+1) (n+1)) (some (.int .i64 1)) none none).run Tryz.prog W=.ok (.slice (some ⟨A,yS n,none⟩) n n) W:=by
 have hu:Tryz.prog.underlying 22=some (.slice (Tryz.prog.elem 22)):=by kernel_rfl
 rw[run_slice_l W 22 (some ⟨A,0,none⟩) (n+1) (n+1) hu .i64 1 (by omega) (by omega)];have hs:(sizeOf (Tryz.prog.elem 22)).run Tryz.prog W=.ok 1 W:=by kernel_rfl
 rw[hs];show Result.ok (sliced (some ⟨A,0,none⟩) 1 (n+1) (n+1) 1) W=_;unfold sliced yS;by_cases h:n=0
 . subst h;rfl
 . rw[if_neg (by omega),if_neg h];rfl
theorem yA{w w2:World}{A:Nat}{c:ByteArray}{ws:List ByteArray}(hz:∀x∈c::ws,x.size<=9223372036854775807)
 (hown:w2.ownsRow w.heap.size 9 1 (.slice (some ⟨A,0,none⟩) (c::ws).length (c::ws).length) (c::ws).length ((c::ws).map Value.string)):
 w2.cell? ⟨A,0,none⟩=some (.string c)/\StrsIn w2 (some ⟨A,yS ws.length,none⟩) ws.length ws/\w.heap.size<=A/\A<w2.heap.size:=by
 obtain⟨ao,cap,hv,hR,_,hmx⟩:=zr hown;unfold maxLen at hmx;simp only[List.length_cons]at hmx;cases hv;have hc:∀(j:Nat) u,((c::ws).map Value.string)[j]?=some u->w2.cell? ⟨A,j,none⟩=some u:=fun j u hu=>by
  obtain⟨b,o,hb,h⟩:=hR j u hu;cases hb;rw[Nat.zero_add]at h;exact h
 have hlt:=World.ownsRow.lt hown A rfl;refine⟨hc 0 _ rfl,⟨rfl,by omega,fun x hx=>hz x (by simp[hx]),fun j u hu=>⟨A,yS ws.length,rfl,?_⟩⟩,hlt.1,hlt.2⟩;have hne:ws.length≠0:=by
  intro h0;rw[List.length_eq_zero_iff.1 h0]at hu;simp at hu
 have ht:yS ws.length=1:=if_neg hne;rw[ht];have:=hc (j+1) u (by simpa using hu);rw[Nat.add_comm 1 j];exact this
theorem Jp{w:World}{base:Nat}{Av:Nat->Prop}{D:Nat}{s:DS}(h:HasDsk w base Av D s)(hW:DkW w)(hbs:8<=base)(x:ByteArray)(hx:x.size<=4294967296)(c:ByteArray)(ws:List ByteArray)(hws:zL x=c::ws)(R:DS×ByteArray)
 (CS0:∀{w:World} {base:Nat} {Av:Nat->Prop} {D:Nat} (_:HasDsk w base Av D s) (_:DkW w) (_:8<=base) (ao:Option Addr) (len cap:Nat) (_:StrsIn w ao len ws),
  Calls Tryz.prog 19 #[.pointer (some ⟨D,0,none⟩),.string c,.slice ao len cap] w (yy base Av D R w)):
 Calls Tryz.prog 9 #[.pointer (some ⟨D,0,none⟩),.string x] w (Zz base Av D R w):=by
 have hz:∀y∈c::ws,y.size<=9223372036854775807:=fun y hy=>by have:=zN (s:=x) (x:=y) (by rw[hws];exact hy);omega
 have hmf:∀(fn:Fn) (first cap:Array Value) (w:World),(Instr.makeFunc fn first cap).run Tryz.prog w=.ok (.func fn first cap) w:=fun _ _ _ _=>rfl
 obtain⟨W1,hW1⟩:∃W1,w.alloc (.cells #[.string ⟨#[]⟩] 9)=W1:=⟨_,rfl⟩
 have hb1:Below w.heap.size w W1:=by rw[<-hW1];exact zc _ _
 have hh1:W1.heap[w.heap.size]?=some (.cells #[.string ⟨#[]⟩] 9 (0,0)):=by rw[<-hW1];exact heap_alloc_new _ _
 have hl1:w.heap.size<W1.heap.size:=by rw[<-hW1];simp
 have CF:=zH (kU x W1 hx);unfold zM at CF;rw[hws]at CF
 go_enter_defers Tryz.func9,Tryz.ntmps9
 go_wp2_with fail
 (with_reducible refine CF.out.mono ?_);rintro e w2 ⟨A,rfl,hA,hown,hb2⟩
 obtain⟨c0,hIn,hA1,hA2⟩:=yA hz hown;have hb12:Below w.heap.size w w2:=hb1.trans (hb2.mono hb1.size);have hhL:w2.heap[w.heap.size]?=some (.cells #[.string ⟨#[]⟩] 9 (0,0)):=(hb2.block _ hl1).trans hh1;have hl2:w.heap.size<w2.heap.size:=Nat.lt_of_lt_of_le hl1 hb2.size;obtain⟨n,hn⟩:∃n,ws.length=n:=⟨_,rfl⟩
 rw[hn]at hIn;simp only[List.length_cons,hn];have hn0:n<=9223372036854775807:=hIn.2.1;have hwA:w.heap.size<=A:=Nat.le_trans hb1.size hA1;have CS:Hid (∀X,Below w2.heap.size w2 X->Calls Tryz.prog 19 #[.pointer (some ⟨D,0,none⟩),.string c,.slice (some ⟨A,yS n,none⟩) n n] X fun e w'=>
  e=.returned (.tuple #[.string R.2,.bool true])/\HasDsk w' base (WideA Av w.heap.size w2.heap.size) D R.1/\Kept (WideA Av w.heap.size w2.heap.size) base w2 w'):=zH fun X hX=>by
  have hbX:Below w.heap.size w X:=hb12.trans (hX.mono hb12.size);have hd:=(h.wide hb12).below hX;have c:=CS0 hd (hW.below hbX) hbs (some ⟨A,yS n,none⟩) n n (hIn.below hX);exact c.mono fun e w' ⟨h1,h2,h3⟩=>⟨h1,h2,((h.wide hb12).kept hX).trans h3⟩
 have HLK:Hid (∀w':World,Kept (WideA Av w.heap.size w2.heap.size) base w2 w'->w'.heap[w.heap.size]?=some (.cells #[.string ⟨#[]⟩] 9 (0,0))/\w'.cell? ⟨A,0,none⟩=some (.string c)):=zH fun w' hk=>
  ⟨(hk.blk _ (.inr ⟨Nat.le_refl _,hl2⟩)).trans hhL,hk.cell (g:=A) (.inr ⟨hwA,hA2⟩) c0⟩
 have hsl:=yn A n;clear hn hIn hown hhL hb1 hb2 hh1 hW1 hmf CF hz;go_wp2_with fail
 go_region_held3 (fun w'=>w'.cell? ⟨A,0,none⟩=some (.string c)) (first|(with_reducible exact HKK.out)|go_keep)
  (first|(go_at_call 19;(with_reducible refine(CS.out _ (by first|exact Below.refl _ _|exact zb (Below.refl _ _))).mono ?_);rintro e w3 ⟨rfl,hd3,hk3⟩;have HKK:=zH (HLK.out _ hk3).2))
 all_goals
  have hL:=(HLK.out _ hk3).1;have q0:=zd hL 0;simp only[List.getElem?_toArray,List.getElem?_cons_zero,List.getElem?_cons_succ]at q0;have f0:=zm hL 0;clear HKK CS HLK hsl c0;go_wp2_with fail
  refine leaves_cons (f:=15) (args:=#[.pointer (some ⟨w.heap.size,0,none⟩)]) (by simp) (by simp[go_sem]) ?_;refine(YZ ⟨w.heap.size,0,none⟩ _).mono ?_;rintro e u' w'' ⟨rfl,rfl,rfl⟩;have hin:WideA Av w.heap.size w2.heap.size w.heap.size:=.inr ⟨Nat.le_refl _,hl2⟩;have hd4:=(hd3.aside hin 0 (.string R.2)).narrow (Av:=Av) fun x hx=>.inl hx
  have hav:∀g,Av g->g≠w.heap.size:=fun g hg=>by
   obtain⟨b,nb,V,hh⟩:=h;have:=hh.st.avlt g (.inl hg);omega
  have hk4:Kept Av base w (w3.setCell ⟨w.heap.size,0,none⟩ (.string R.2)):=((h.kept hb12).trans (hk3.narrow fun x hx=>.inl hx)).aside hav h.ok.2.2.1 0 _;have hS:(w3.setCell ⟨w.heap.size,0,none⟩ (.string R.2)).heap[w.heap.size]?=some (.cells #[.string R.2] 9 (0,0)):=by rw[heap_set _ hL];rfl
  have qq:=zd hS 0;simp only[List.getElem?_toArray,List.getElem?_cons_zero,List.getElem?_cons_succ]at qq;exact⟨.string R.2,by simp[results,Tryz.results9,go_sem,qq],rfl,hd4,hk4⟩
theorem j5{P:Program}{fn:Func}{T T':Array Value}{R:Ending->World->Prop}(hres:∀w v,(results fn T).run P w=.ok v w->(results fn T').run P w=.ok v w):∀(ds:List Deferred) (u:FrameMode) (w:World),Leaves P fn T R ds u w->Leaves P fn T' R ds u w
 |[],.returning,w,⟨v,h1,h2⟩=>⟨v,hres w v h1,h2⟩
 |[],.panicking _,_,h=>h
 |[],.run,_,h=>h.elim
 |d::ds,u,w,h=>by
  obtain⟨h1,fv,cap,f,args,h2,h3,h4⟩:=h;refine⟨h1,fv,cap,f,args,h2,h3,h4.mono fun e u' w' he=>?_⟩;cases e with
  |returned v=>exact j5 hres ds _ _ he
  |panicked c=>exact j5 hres ds _ _ he
  |outgrown=>exact he
theorem qE{R:Ending->World->Prop}{k:Nat}(hk:k≠4)(v:Value)(c:List PanicEntry)(a:Act)(w:World)(h:bodyPostD Tryz.prog Tryz.f9 R (.panic c) (a.put (some k) v) w):
 bodyPostD Tryz.prog Tryz.f9 R (.panic c) a w:=by
 refine j5 (T:=(a.put (some k) v).tmps) (T':=a.tmps) ?_ a.defers _ w h;intro w v' hr;rw[<-hr]
 congr 1
 simp[results,Tryz.results9,Act.put,hk]
theorem QY{w w2 w3:World}{base:Nat}{Av:Nat->Prop}{D:Nat}{s:DS}{R:DS×ByteArray}{nE:Int}(h:HasDsk w base Av D s)(hW:DkW w)(hbs:8<=base)(hb12:Below w.heap.size w w2)(hl2:w.heap.size<w2.heap.size)
 (hL2:w2.heap[w.heap.size]?=some (.cells #[.string ⟨#[]⟩] 9 (0,0)))(hT:R.2=zt nE)(hE0:0<=nE)(hE12:nE<=12)
 (hd3:HasDsk w3 base (WideA Av w.heap.size w2.heap.size) D R.1)(hk3:Kept (WideA Av w.heap.size w2.heap.size) base w2 w3){T:Array Value}{ds:List Deferred}
 (hds:ds=[{target:=.fn (.func 15) #[.pointer (some ⟨w.heap.size,0,none⟩)],args:=#[]}])
 (hres:∀(W:World) (v:Value),W.cell? ⟨w.heap.size,0,none⟩=some v->(results Tryz.f9 T).run Tryz.prog W=.ok v W):
 bodyPostD Tryz.prog Tryz.f9 (Zz base Av D R w) (Exit.panic [{v:=vD nE,recovered:=false}]) {tmps:=T,defers:=ds} w3:=by
 subst hds;have hL:w3.heap[w.heap.size]?=some (.cells #[.string ⟨#[]⟩] 9 (0,0)):=(hk3.blk _ (.inr ⟨Nat.le_refl _,hl2⟩)).trans hL2;have hbase:base<=w.heap.size:=h.ok.2.2.1;have hk0:Kept Av base w w3:=(h.kept hb12).trans (hk3.narrow fun x hx=>.inl hx);refine leaves_cons (f:=15) (args:=#[.pointer (some ⟨w.heap.size,0,none⟩)]) (by simp) (by simp[go_sem]) ?_;refine(Z0 w.heap.size ⟨#[]⟩ nE hE0 hE12 [] w3 (hW.later hk0.bel hbs) hL).mono ?_;rintro e u' w'' ⟨rfl,rfl,w4,hb4,rfl⟩;have hL4:=(hb4.block w.heap.size (Array.getElem?_eq_some_iff.1 hL).1).trans hL;have hin:WideA Av w.heap.size w2.heap.size w.heap.size:=.inr ⟨Nat.le_refl _,hl2⟩;have hd4:=((hd3.below hb4).aside hin 0 (.string (zt nE))).narrow (Av:=Av) fun x hx=>.inl hx
 have hav:∀g,Av g->g≠w.heap.size:=fun g hg=>by
  obtain⟨b,nb,V,hh⟩:=h;have:=hh.st.avlt g (.inl hg);omega
 have hk4:Kept Av base w (w4.setCell ⟨w.heap.size,0,none⟩ (.string (zt nE))):=(hk0.trans ((hd3.kept hb4).narrow fun x hx=>.inl hx)).aside hav hbase 0 _;have hS:(w4.setCell ⟨w.heap.size,0,none⟩ (.string (zt nE))).heap[w.heap.size]?=some (.cells #[.string (zt nE)] 9 (0,0)):=by rw[heap_set _ hL4];rfl
 have qq:=zd hS 0;simp only[List.getElem?_toArray,List.getElem?_cons_zero]at qq;exact⟨.string (zt nE),hres _ _ qq,by rw[<-hT],hd4,hk4⟩
theorem zds{w:World}{base:Nat}{Av:Nat->Prop}{D:Nat}{s:DS}(h:HasDsk w base Av D s)(hW:DkW w)(hbs:8<=base)(x:ByteArray)(hx:x.size<=4294967296)(c:ByteArray)(ws:List ByteArray)(hws:zL x=c::ws)(R:DS×ByteArray)(nE:Int)(hT:R.2=zt nE)(hE0:0<=nE)(hE12:nE<=12)
 (CS0:∀{w:World} {base:Nat} {Av:Nat->Prop} {D:Nat} (_:HasDsk w base Av D s) (_:DkW w) (_:8<=base) (ao:Option Addr) (len cap:Nat) (_:StrsIn w ao len ws),
  Calls Tryz.prog 19 #[.pointer (some ⟨D,0,none⟩),.string c,.slice ao len cap] w (zA base Av D R.1 nE w)):
 Calls Tryz.prog 9 #[.pointer (some ⟨D,0,none⟩),.string x] w (Zz base Av D R w):=by
 have hz:∀y∈c::ws,y.size<=9223372036854775807:=fun y hy=>by have:=zN (s:=x) (x:=y) (by rw[hws];exact hy);omega
 have hmf:∀(fn:Fn) (first cap:Array Value) (w:World),(Instr.makeFunc fn first cap).run Tryz.prog w=.ok (.func fn first cap) w:=fun _ _ _ _=>rfl
 obtain⟨W1,hW1⟩:∃W1,w.alloc (.cells #[.string ⟨#[]⟩] 9)=W1:=⟨_,rfl⟩
 have hb1:Below w.heap.size w W1:=by rw[<-hW1];exact zc _ _
 have hh1:W1.heap[w.heap.size]?=some (.cells #[.string ⟨#[]⟩] 9 (0,0)):=by rw[<-hW1];exact heap_alloc_new _ _
 have hl1:w.heap.size<W1.heap.size:=by rw[<-hW1];simp
 have CF:=zH (kU x W1 hx);unfold zM at CF;rw[hws]at CF
 go_enter_defers Tryz.func9,Tryz.ntmps9
 go_wp2_with fail
 (with_reducible refine CF.out.mono ?_);rintro e w2 ⟨A,rfl,hA,hown,hb2⟩
 obtain⟨c0,hIn,hA1,hA2⟩:=yA hz hown;have hb12:Below w.heap.size w w2:=hb1.trans (hb2.mono hb1.size);have hhL:w2.heap[w.heap.size]?=some (.cells #[.string ⟨#[]⟩] 9 (0,0)):=(hb2.block _ hl1).trans hh1;have hl2:w.heap.size<w2.heap.size:=Nat.lt_of_lt_of_le hl1 hb2.size;obtain⟨n,hn⟩:∃n,ws.length=n:=⟨_,rfl⟩
 rw[hn]at hIn;simp only[List.length_cons,hn];have hn0:n<=9223372036854775807:=hIn.2.1;have hwA:w.heap.size<=A:=Nat.le_trans hb1.size hA1;have CS:Hid (∀X,Below w2.heap.size w2 X->Calls Tryz.prog 19 #[.pointer (some ⟨D,0,none⟩),.string c,.slice (some ⟨A,yS n,none⟩) n n] X fun e w'=>
  e=.panicked [{v:=vD nE,recovered:=false}]/\HasDsk w' base (WideA Av w.heap.size w2.heap.size) D R.1/\Kept (WideA Av w.heap.size w2.heap.size) base w2 w'):=zH fun X hX=>by
  have hbX:Below w.heap.size w X:=hb12.trans (hX.mono hb12.size);have hd:=(h.wide hb12).below hX;have c:=CS0 hd (hW.below hbX) hbs (some ⟨A,yS n,none⟩) n n (hIn.below hX);exact c.mono fun e w' ⟨h1,h2,h3⟩=>⟨h1,h2,((h.wide hb12).kept hX).trans h3⟩
 have HLK:Hid (∀w':World,Kept (WideA Av w.heap.size w2.heap.size) base w2 w'->w'.heap[w.heap.size]?=some (.cells #[.string ⟨#[]⟩] 9 (0,0))/\w'.cell? ⟨A,0,none⟩=some (.string c)):=zH fun w' hk=>
  ⟨(hk.blk _ (.inr ⟨Nat.le_refl _,hl2⟩)).trans hhL,hk.cell (g:=A) (.inr ⟨hwA,hA2⟩) c0⟩
 have hsl:=yn A n;have HHL:=zH hhL;clear hn hIn hown hhL hb1 hb2 hh1 hW1 hmf CF hz;go_wp2_with fail
 refine jh (fun w'=>w'.cell? ⟨A,0,none⟩=some (.string c)) 11 (by kernel_rfl) ?_;refine zo (i:=0) (v:=.pointer (some ⟨D,0,none⟩)) rfl (by kernel_rfl) (by kernel_rfl) (by kernel_rfl) (by kernel_rfl) (fun c a w=>qE (by decide) _ c a w) (.inl ⟨rfl,fun W hW=>by go_simp⟩) c0 ?_
 try simp only[Act.put,List.setIfInBounds_toArray,List.set_cons_zero,List.set_cons_succ]
 refine zo (i:=1) (v:=.slice (some ⟨A,0,none⟩) (n+1) (n+1)) rfl (by kernel_rfl) (by kernel_rfl) (by kernel_rfl) (by kernel_rfl) (fun c a w=>qE (by decide) _ c a w) (.inl ⟨rfl,fun W hW=>by go_simp⟩) c0 ?_
 try simp only[Act.put,List.setIfInBounds_toArray,List.set_cons_zero,List.set_cons_succ]
 refine zo (i:=2) (v:=.pointer (some ⟨A,0,none⟩)) rfl (by kernel_rfl) (by kernel_rfl) (by kernel_rfl) (by kernel_rfl) (fun c a w=>qE (by decide) _ c a w) (.inl ⟨rfl,fun W hW=>by go_simp⟩) c0 ?_
 try simp only[Act.put,List.setIfInBounds_toArray,List.set_cons_zero,List.set_cons_succ]
 refine zo (i:=3) (v:=.string c) rfl (by kernel_rfl) (by kernel_rfl) (by kernel_rfl) (by kernel_rfl) (fun c a w=>qE (by decide) _ c a w) (.inl ⟨rfl,fun W hW=>by go_simp⟩) c0 ?_
 try simp only[Act.put,List.setIfInBounds_toArray,List.set_cons_zero,List.set_cons_succ]
 refine zo (i:=4) (v:=.slice (some ⟨A,0,none⟩) (n+1) (n+1)) rfl (by kernel_rfl) (by kernel_rfl) (by kernel_rfl) (by kernel_rfl) (fun c a w=>qE (by decide) _ c a w) (.inl ⟨rfl,fun W hW=>by go_simp⟩) c0 ?_
 try simp only[Act.put,List.setIfInBounds_toArray,List.set_cons_zero,List.set_cons_succ]
 refine zo (i:=5) (v:=.slice (some ⟨A,yS n,none⟩) n n) rfl (by kernel_rfl) (by kernel_rfl) (by kernel_rfl) (by kernel_rfl) (fun c a w=>qE (by decide) _ c a w) (.inl ⟨rfl,fun W hW=>by go_simp⟩) c0 ?_
 try simp only[Act.put,List.setIfInBounds_toArray,List.set_cons_zero,List.set_cons_succ]
 refine yh (i:=6) (by kernel_rfl) ?_;refine wpOp_step rfl (fun K hK=>?_);have HK':=zH hK;clear hK
 go_simp
 (go_at_call 19;(with_reducible refine(CS.out _ ?_).mono ?_))
 . first|exact Below.refl _ _|exact zb (Below.refl _ _)
 rintro e w3 ⟨rfl,hd3,hk3⟩;exact QY h hW hbs hb12 hl2 HHL.out hT hE0 hE12 hd3 hk3 rfl (fun W v hv=>by simp[results,Tryz.results9,go_sem,hv])
theorem zb5{w:World}{base:Nat}{Av:Nat->Prop}{D:Nat}{s:DS}(h:HasDsk w base Av D s)(hW:DkW w)(hbs:8<=base)(x:ByteArray)(hx:x.size<=4294967296)(c:ByteArray)(ws:List ByteArray)(hws:zL x=c::ws)(T:ByteArray)
 (CS0:∀(w:World) (D:Nat) (ao:Option Addr) (len cap:Nat),Calls Tryz.prog 19 #[.pointer (some ⟨D,0,none⟩),.string c,.slice ao len cap] w fun e w'=>e=.returned (.tuple #[.string ⟨#[]⟩,.bool false])/\w=w')
 (CO0:zcI c ws T):
 Calls Tryz.prog 9 #[.pointer (some ⟨D,0,none⟩),.string x] w (Zz base Av D (s,T) w):=by
 have hz:∀y∈c::ws,y.size<=9223372036854775807:=fun y hy=>by have:=zN (s:=x) (x:=y) (by rw[hws];exact hy);omega
 have hmf:∀(fn:Fn) (first cap:Array Value) (w:World),(Instr.makeFunc fn first cap).run Tryz.prog w=.ok (.func fn first cap) w:=fun _ _ _ _=>rfl
 obtain⟨W1,hW1⟩:∃W1,w.alloc (.cells #[.string ⟨#[]⟩] 9)=W1:=⟨_,rfl⟩
 have hb1:Below w.heap.size w W1:=by rw[<-hW1];exact zc _ _
 have hh1:W1.heap[w.heap.size]?=some (.cells #[.string ⟨#[]⟩] 9 (0,0)):=by rw[<-hW1];exact heap_alloc_new _ _
 have hl1:w.heap.size<W1.heap.size:=by rw[<-hW1];simp
 have CF:=zH (kU x W1 hx);unfold zM at CF;rw[hws]at CF
 go_enter_defers Tryz.func9,Tryz.ntmps9
 go_wp2_with fail
 (with_reducible refine CF.out.mono ?_);rintro e w2 ⟨A,rfl,hA,hown,hb2⟩
 obtain⟨c0,hIn,hA1,hA2⟩:=yA hz hown;have hb12:Below w.heap.size w w2:=hb1.trans (hb2.mono hb1.size);have hhL:w2.heap[w.heap.size]?=some (.cells #[.string ⟨#[]⟩] 9 (0,0)):=(hb2.block _ hl1).trans hh1;have hl2:w.heap.size<w2.heap.size:=Nat.lt_of_lt_of_le hl1 hb2.size;obtain⟨n,hn⟩:∃n,ws.length=n:=⟨_,rfl⟩
 rw[hn]at hIn;simp only[List.length_cons,hn];have hn0:n<=9223372036854775807:=hIn.2.1;have hwA:w.heap.size<=A:=Nat.le_trans hb1.size hA1;have CS:Hid (∀X,Calls Tryz.prog 19 #[.pointer (some ⟨D,0,none⟩),.string c,.slice (some ⟨A,yS n,none⟩) n n] X fun e w'=>e=.returned (.tuple #[.string ⟨#[]⟩,.bool false])/\X=w'):=zH fun X=>CS0 X D (some ⟨A,yS n,none⟩) n n
 have CO:Hid (∀X,Below w2.heap.size w2 X->Calls Tryz.prog 20 #[.string c,.slice (some ⟨A,yS n,none⟩) n n] X fun e w'=>e=.returned (.string T)/\Below X.heap.size X w'):=zH fun X hX=>CO0 (hW.below (hb12.trans (hX.mono hb12.size))) (some ⟨A,yS n,none⟩) n n (hIn.below hX)
 have HHL:=zH hhL;have hwide:=h.wide hb12;have hsl:=yn A n;clear hn hIn hown hhL hb1 hb2 hh1 hW1 hmf CF hz;go_wp2_with fail
 go_region_held3 (fun w'=>w'.cell? ⟨A,0,none⟩=some (.string c)) (first|go_keep)
  (first|(go_at_call 19;(with_reducible refine(CS.out _).mono ?_);rintro e w3 ⟨rfl,rfl⟩))
 all_goals
  go_wp2_with fail
  have hneA:w.heap.size≠A:=by omega
  have g0:=fun X (hX:Below w2.heap.size w2 X)=>(hX.block w.heap.size hl2).trans HHL.out
  go_region_held3 (fun w'=>w'.cell? ⟨A,0,none⟩=some (.string c)) (first|(with_reducible exact HKK.out)|(with_reducible exact z7 (fun e=>hneA e.symm) HKK.out)|go_keep)
   (first|(go_at_call 20;(with_reducible refine(CO.out _ (by first|exact zb (zb (Below.refl _ _))|exact zb (Below.refl _ _)|exact Below.refl _ _)).mono ?_);rintro e w3 ⟨rfl,hb3'⟩;have hb3:Below w2.heap.size w2 w3:=(by first|exact(zb (zb (Below.refl _ _))).trans hb3'|exact(zb (Below.refl _ _)).trans hb3'|exact hb3');have hL:=g0 w3 hb3;have q0:=zd hL 0;simp only[List.getElem?_toArray,List.getElem?_cons_zero,List.getElem?_cons_succ]at q0;have f0:=zm hL 0;have HKK:=zH ((hb3.cell (p:=⟨A,0,none⟩) hA2).trans c0)))
  have hd3:=hwide.below hb3;have hk3:=hwide.kept hb3;clear HKK CO CS hsl c0 hb3';go_wp2_with fail
  refine leaves_cons (f:=15) (args:=#[.pointer (some ⟨w.heap.size,0,none⟩)]) (by simp) (by simp[go_sem]) ?_;refine(YZ ⟨w.heap.size,0,none⟩ _).mono ?_;rintro e u' w'' ⟨rfl,rfl,rfl⟩;have hin:WideA Av w.heap.size w2.heap.size w.heap.size:=.inr ⟨Nat.le_refl _,hl2⟩;have hd4:=(hd3.aside hin 0 (.string T)).narrow (Av:=Av) fun x hx=>.inl hx
  have hav:∀g,Av g->g≠w.heap.size:=fun g hg=>by
   obtain⟨b,nb,V,hh⟩:=h;have:=hh.st.avlt g (.inl hg);omega
  have hk4:Kept Av base w (w3.setCell ⟨w.heap.size,0,none⟩ (.string T)):=((h.kept hb12).trans (hk3.narrow fun x hx=>.inl hx)).aside hav h.ok.2.2.1 0 _;have hS:(w3.setCell ⟨w.heap.size,0,none⟩ (.string T)).heap[w.heap.size]?=some (.cells #[.string T] 9 (0,0)):=by rw[heap_set _ hL];rfl
  have qq:=zd hS 0;simp only[List.getElem?_toArray,List.getElem?_cons_zero,List.getElem?_cons_succ]at qq;exact⟨.string T,by simp[results,Tryz.results9,go_sem,qq],rfl,hd4,hk4⟩
theorem Vv{w:World}{base:Nat}{Av:Nat->Prop}{D:Nat}{s:DS}(h:HasDsk w base Av D s)(hW:DkW w)(hbs:8<=base)(x:ByteArray)(hx:x.size<=4294967296)(c:ByteArray)(ws:List ByteArray)(hws:zL x=c::ws)(T:ByteArray)
 (CS0:∀(w:World) (D:Nat) (ao:Option Addr) (len cap:Nat),Calls Tryz.prog 19 #[.pointer (some ⟨D,0,none⟩),.string c,.slice ao len cap] w fun e w'=>e=.returned (.tuple #[.string ⟨#[]⟩,.bool false])/\w=w')
 (nE:Int)(hT:T=zt nE)(hE0:0<=nE)(hE12:nE<=12)(CO0:∀{w:World} (_:DkW w) (ao:Option Addr) (len cap:Nat) (_:StrsIn w ao len ws),Calls Tryz.prog 20 #[.string c,.slice ao len cap] w (zfK nE w)):
 Calls Tryz.prog 9 #[.pointer (some ⟨D,0,none⟩),.string x] w (Zz base Av D (s,T) w):=by
 have hz:∀y∈c::ws,y.size<=9223372036854775807:=fun y hy=>by have:=zN (s:=x) (x:=y) (by rw[hws];exact hy);omega
 have hmf:∀(fn:Fn) (first cap:Array Value) (w:World),(Instr.makeFunc fn first cap).run Tryz.prog w=.ok (.func fn first cap) w:=fun _ _ _ _=>rfl
 obtain⟨W1,hW1⟩:∃W1,w.alloc (.cells #[.string ⟨#[]⟩] 9)=W1:=⟨_,rfl⟩
 have hb1:Below w.heap.size w W1:=by rw[<-hW1];exact zc _ _
 have hh1:W1.heap[w.heap.size]?=some (.cells #[.string ⟨#[]⟩] 9 (0,0)):=by rw[<-hW1];exact heap_alloc_new _ _
 have hl1:w.heap.size<W1.heap.size:=by rw[<-hW1];simp
 have CF:=zH (kU x W1 hx);unfold zM at CF;rw[hws]at CF
 go_enter_defers Tryz.func9,Tryz.ntmps9
 go_wp2_with fail
 (with_reducible refine CF.out.mono ?_);rintro e w2 ⟨A,rfl,hA,hown,hb2⟩
 obtain⟨c0,hIn,hA1,hA2⟩:=yA hz hown;have hb12:Below w.heap.size w w2:=hb1.trans (hb2.mono hb1.size);have hhL:w2.heap[w.heap.size]?=some (.cells #[.string ⟨#[]⟩] 9 (0,0)):=(hb2.block _ hl1).trans hh1;have hl2:w.heap.size<w2.heap.size:=Nat.lt_of_lt_of_le hl1 hb2.size;obtain⟨n,hn⟩:∃n,ws.length=n:=⟨_,rfl⟩
 rw[hn]at hIn;simp only[List.length_cons,hn];have hn0:n<=9223372036854775807:=hIn.2.1;have hwA:w.heap.size<=A:=Nat.le_trans hb1.size hA1;have CS:Hid (∀X,Calls Tryz.prog 19 #[.pointer (some ⟨D,0,none⟩),.string c,.slice (some ⟨A,yS n,none⟩) n n] X fun e w'=>e=.returned (.tuple #[.string ⟨#[]⟩,.bool false])/\X=w'):=zH fun X=>CS0 X D (some ⟨A,yS n,none⟩) n n
 have CO:Hid (∀X,Below w2.heap.size w2 X->Calls Tryz.prog 20 #[.string c,.slice (some ⟨A,yS n,none⟩) n n] X fun e w'=>e=.panicked [{v:=vD nE,recovered:=false}]/\Below X.heap.size X w'):=zH fun X hX=>CO0 (hW.below (hb12.trans (hX.mono hb12.size))) (some ⟨A,yS n,none⟩) n n (hIn.below hX)
 have HHL:=zH hhL;have hwide:=h.wide hb12;have hsl:=yn A n;clear hn hIn hown hhL hb1 hb2 hh1 hW1 hmf CF hz;go_wp2_with fail
 go_region_held3 (fun w'=>w'.cell? ⟨A,0,none⟩=some (.string c)) (first|go_keep)
  (first|(go_at_call 19;(with_reducible refine(CS.out _).mono ?_);rintro e w3 ⟨rfl,rfl⟩))
 all_goals
  go_wp2_with fail
  refine jh (fun w'=>w'.cell? ⟨A,0,none⟩=some (.string c)) 6 (by kernel_rfl) ?_;refine zo (i:=0) (v:=.slice (some ⟨A,0,none⟩) (n+1) (n+1)) rfl (by kernel_rfl) (by kernel_rfl) (by kernel_rfl) (by kernel_rfl) (fun c a w=>qE (by decide) _ c a w) (.inl ⟨rfl,fun W hW=>by go_simp⟩) c0 ?_
  try simp only[Act.put,List.setIfInBounds_toArray,List.set_cons_zero,List.set_cons_succ]
  refine zo (i:=1) (v:=.pointer (some ⟨A,0,none⟩)) rfl (by kernel_rfl) (by kernel_rfl) (by kernel_rfl) (by kernel_rfl) (fun c a w=>qE (by decide) _ c a w) (.inl ⟨rfl,fun W hW=>by go_simp⟩) c0 ?_
  try simp only[Act.put,List.setIfInBounds_toArray,List.set_cons_zero,List.set_cons_succ]
  refine zo (i:=2) (v:=.string c) rfl (by kernel_rfl) (by kernel_rfl) (by kernel_rfl) (by kernel_rfl) (fun c a w=>qE (by decide) _ c a w) (.inl ⟨rfl,fun W hW=>by go_simp⟩) c0 ?_
  try simp only[Act.put,List.setIfInBounds_toArray,List.set_cons_zero,List.set_cons_succ]
  refine zo (i:=3) (v:=.slice (some ⟨A,0,none⟩) (n+1) (n+1)) rfl (by kernel_rfl) (by kernel_rfl) (by kernel_rfl) (by kernel_rfl) (fun c a w=>qE (by decide) _ c a w) (.inl ⟨rfl,fun W hW=>by go_simp⟩) c0 ?_
  try simp only[Act.put,List.setIfInBounds_toArray,List.set_cons_zero,List.set_cons_succ]
  refine zo (i:=4) (v:=.slice (some ⟨A,yS n,none⟩) n n) rfl (by kernel_rfl) (by kernel_rfl) (by kernel_rfl) (by kernel_rfl) (fun c a w=>qE (by decide) _ c a w) (.inl ⟨rfl,fun W hW=>by go_simp⟩) c0 ?_
  try simp only[Act.put,List.setIfInBounds_toArray,List.set_cons_zero,List.set_cons_succ]
  refine yh (i:=5) (by kernel_rfl) ?_;refine wpOp_step rfl (fun K hK=>?_);have HK':=zH hK;clear hK
  go_simp
  (go_at_call 20;(with_reducible refine(CO.out _ ?_).mono ?_))
  . exact zb (zb (Below.refl _ _))
  rintro e w3 ⟨rfl,hb3'⟩;have hb3:Below w2.heap.size w2 w3:=(zb (zb (Below.refl _ _))).trans hb3';exact QY (R:=(s,zt nE)) h hW hbs hb12 hl2 HHL.out rfl hE0 hE12 (hwide.below hb3) (hwide.kept hb3) rfl (fun W v hv=>by simp[results,Tryz.results9,go_sem,hv])
theorem zaI{w:World}{base:Nat}{Av:Nat->Prop}{D:Nat}{s:DS}(h:HasDsk w base Av D s)(hW:DkW w)(hbs:8<=base)(x:ByteArray)(hx:x.size<=4294967296)(hws:zL x=[]):
 Calls Tryz.prog 9 #[.pointer (some ⟨D,0,none⟩),.string x] w (Zz base Av D (s,zt 12) w):=by
 have hmf:∀(fn:Fn) (first cap:Array Value) (w:World),(Instr.makeFunc fn first cap).run Tryz.prog w=.ok (.func fn first cap) w:=fun _ _ _ _=>rfl
 obtain⟨W1,hW1⟩:∃W1,w.alloc (.cells #[.string ⟨#[]⟩] 9)=W1:=⟨_,rfl⟩
 have hb1:Below w.heap.size w W1:=by rw[<-hW1];exact zc _ _
 have hh1:W1.heap[w.heap.size]?=some (.cells #[.string ⟨#[]⟩] 9 (0,0)):=by rw[<-hW1];exact heap_alloc_new _ _
 have hl1:w.heap.size<W1.heap.size:=by rw[<-hW1];simp
 have CF:=zH (kU x W1 hx);unfold zM at CF;rw[hws]at CF
 go_enter_defers Tryz.func9,Tryz.ntmps9
 go_wp2_with fail
 (with_reducible refine CF.out.mono ?_);rintro e w2 ⟨A,rfl,hA,hown,hb2⟩
 have hb12:Below w.heap.size w w2:=hb1.trans (hb2.mono hb1.size);have hhL:w2.heap[w.heap.size]?=some (.cells #[.string ⟨#[]⟩] 9 (0,0)):=(hb2.block _ hl1).trans hh1;have hl2:w.heap.size<w2.heap.size:=Nat.lt_of_lt_of_le hl1 hb2.size;clear hb1 hb2 hh1 hW1 hmf CF hown;go_wp2_with fail
 exact QY h hW hbs hb12 hl2 hhL rfl (by omega) (by omega) (h.wide hb12) ((h.wide hb12).kept (Below.refl _ _)) rfl (fun W v hv=>by simp[results,Tryz.results9,go_sem,hv])
theorem zb6{w:World}{base:Nat}{Av:Nat->Prop}{D:Nat}{s:DS}(h:HasDsk w base Av D s)(hW:DkW w)(hbs:8<=base)(x:ByteArray)(hx:x.size<=4294967296):
 Calls Tryz.prog 9 #[.pointer (some ⟨D,0,none⟩),.string x] w (Zz base Av D (QS s (zL x)) w):=by
 cases hws:zL x with
 |nil=>exact zaI h hW hbs x hx hws
 |cons c ws=>
  have e:QS s (c::ws)=(match pm c with|none=>(s,zt 12)|some m=>zK s ws m):=rfl;rw[e];cases hc:pm c with
  |none=>
   have C:=Ye c hc ws;exact Vv h hW hbs x hx c ws hws (zt 12) (fun w D ao len cap=>XD D c hc ao len cap w) 12 C.1 C.2.1 C.2.2.1 C.2.2.2
  |some m=>
   have hn:=VP hc;subst hn;cases hm:m.isSt with
   |true=>
    rcases zaj s h.ok.1 h.ok.2.1 ws m hm with C|⟨n,C⟩
    . exact Jp h hW hbs x hx m.name ws hws (zK s ws m) C
    . exact zds h hW hbs x hx m.name ws hws (zK s ws m) n C.1 C.2.1 C.2.2.1 C.2.2.2
   |false=>
    obtain⟨C,hs⟩:=Vg s ws m hm;have e2:zK s ws m=(s,(zK s ws m).2):=Prod.ext hs rfl;rcases C with C|⟨n,C⟩
    . have r:=zb5 h hW hbs x hx m.name ws hws (zK s ws m).2 (fun w D ao len cap=>pR D m hm ao len cap w) C;rw[<-e2]at r;exact r
    . have r:=Vv h hW hbs x hx m.name ws hws (zK s ws m).2 (fun w D ao len cap=>pR D m hm ao len cap w) n C.1 C.2.1 C.2.2.1 C.2.2.2;rw[<-e2]at r;exact r
end Go.Proofs.YtmgfbmkfomebcaaGreatDoor
