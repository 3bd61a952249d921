/- Texts of this proof, joined. -/
import Derived.Test.YtagddbecnkbcdaaGreatJ3
import Derived.Test.YtagddbecnkbcdaaGreatJ4
import Derived.Test.YtagddbecnkbcdaaGreatJ5
import Derived.OrdersIn
import Derived.TacticsIn
import Derived.RangeFuncCalls
import Derived.Shelf.RegionOpen
import Derived.Laws.ResultCell
import Derived.Test.YtagddbecnkbcdaaGreatProg
import Derived.WalkKit
import Derived.Tactics
import Derived.Tactics2
import Derived.Defers
import Derived.Recover
import Derived.Laws.Pointers
import Derived.Test.YtagddbecnkbcdaaGreatChecked
import Derived.KernelRfl
set_option linter.all false
namespace Go.Gm
section
variable {α:Type}{f:α->List Ab}{ty:TypeId}{sz:Nat}
def RS (f:α->List Ab)(ty:TypeId)(sz b:Nat)(out:List α)(v:Ab)(H:Aa):Prop:=(out=[]/\v=.sl [] .ti)\/∃t,b<=t/\v=.sl (enL f out) (.own t)/\H[t]? = some (.tok out.length ty sz)
theorem RS.sl {b:Nat}{out:List α}{v:Ab}{H:Aa}(h:RS f ty sz b out v H):∃tk,v=.sl (enL f out) tk:=by
 rcases h with ⟨rfl,rfl⟩ | ⟨t,_,rfl,_⟩
 ·exact⟨_,rfl⟩
 ·exact⟨_,rfl⟩
theorem RS.left {b:Nat}{out:List α}{v:Ab}{H:Aa}(h:RS f ty sz b out v H)(G:Aa):RS f ty sz b out v (H++G):=by
 rcases h with h1 | ⟨t,h1,h2,h3⟩
 ·exact .inl h1
 ·exact .inr ⟨t,h1,h2,A0 h3⟩
theorem RS.put {b p:Nat}{out:List α}{v:Ab}{H:Aa}{c c':List Ab}(h:RS f ty sz b out v H)(hp:H[p]? = some (.cel 0 c)):RS f ty sz b out v (H.set p (.cel 0 c')):=by
 rcases h with h1 | ⟨t,h1,h2,h3⟩
 ·exact .inl h1
 ·refine .inr ⟨t,h1,h2,?_⟩;have:p≠t:=λe=>by rw[<-e,hp]at h3;cases h3
  rw[VT this];exact h3
theorem RS.snoc [hf:Sz f sz]{bytes b:Nat}{out:List α}{v:Ab}{H:Aa}(h:RS f ty sz b out v H)(hb:b<=H.length)(x:α)(tk:Tok)(hl:(out.length+1)*bytes<=140737488355328)(gQ:out.length+1<=140737488355328) :
  ∃v' H',AW ty sz bytes v (.sl (enL f [x]) tk) H=some (v',H')/\RS f ty sz b (out++[x]) v' H'/\Kp b H H':=by
 rcases h with ⟨rfl,rfl⟩ | ⟨t,h1,rfl,h3⟩
 ·have:=CR (f:=f) (l:=[]) (m:=[x]) (ty:=ty) (bytes:=bytes) (tk:=tk) (H:=H) (by simp) (by simpa using hl) (by simp);exact⟨_,_,this,.inr ⟨H.length,hb,rfl,by simp⟩,Kp.app hb _⟩
 ·have:=Fr (f:=f) (l:=out) (m:=[x]) (ty:=ty) (bytes:=bytes) (tk:=tk) (H:=H) (t:=t) (by simp) h3 (by simpa using hl) (by simpa using gQ);have jA:=(VP.1 h3).1;refine⟨_,_,this,.inr ⟨t,h1,rfl,by simp[jA]⟩,⟨by simp,λi cs hc=>?_,λi hi=>?_⟩⟩
  ·have:t≠i:=λe=>by rw[<-e,h3]at hc;cases hc
   rw[VT this];exact hc
  ·rw[VT (by omega)]

end
def Ki (L:List Nd)(X Y:Int)(y x:Nat):UInt8:=UInt8.ofNat (PX L (X+(x:Int)) (Y+(y:Int))).toNat
def NS (L:List Nd)(X Y:Int)(w y:Nat):List UInt8:=(List.range w).map (Ki L X Y y)
theorem getZ_st {L:List Nd}(hl:AB L=true)(x y:Int):St (PX L x y):=by
 unfold PX;split
 ·exact⟨Xq _,by show (0:Int)<=255;decide⟩
 ·split
  ·exact getF_st hl _ _ _ _ ⟨VV _,.inr rfl⟩
  ·exact⟨Xq _,by show (0:Int)<=255;decide⟩
theorem cellB_nat {L:List Nd}(hl:AB L=true)(X Y:Int)(y x:Nat):((Ki L X Y y x).toNat:Int)=PX L (X+(x:Int)) (Y+(y:Int)):=by
 have h:=getZ_st hl (X+(x:Int)) (Y+(y:Int));unfold Ki;have h1:=h.1;have h2:=h.2;rw[Xu (show (PX L (X+(x:Int)) (Y+(y:Int))).toNat<256 by omega)];omega
theorem SB_nat {n:Nat}(h:n<=1000):SB 44 (n:Int):=by
 unfold SB;have h1:(4294967296:Nat)^1<=4294967296^44:=JU (by omega);omega
theorem grid_row (H:Aa)(rec1:LK)(L:List Nd)(X Y:Int)(w h y p3 p5 p28 p54:Nat)(Hc:Aa)(out:Out)(hL:L.length<549755813888)(hl:AB L=true)(hw:w<=1000)(hy:y<=1000)(sX:SB 44 X)(sY:SB 44 Y)
  (hq:Ac true 1 (.ptr p3 0 0) Hc=some (CY L))(hX:Ac true 2 (.ptr p28 0 0) Hc=some (big X))(hY:Ac true 2 (.ptr p28 0 2) Hc=some (big Y))
  (fin:∀aA:LK,Sh.f1y H rec1 aA (.ptr p3 0 0) (.ptr p5 0 0) (.ptr p28 0 0) (.i6 (w:Int)) (.i6 (h:Int)) (.ptr p54 0 0) (.i6 (y:Int)) (.ms Hc.length 0 0 w w 1 true) (.i6 (w:Int)) (Hc++[.cel 0 (flat cY (NS L X Y w y))])=out) :
  Ap (λaA vs H1=>Sh.f1y H rec1 aA (ag vs 0) (ag vs 1) (ag vs 2) (ag vs 3) (ag vs 4) (ag vs 5) (ag vs 6) (ag vs 7) (ag vs 8) H1) AU [.ptr p3 0 0,.ptr p5 0 0,.ptr p28 0 0,.i6 (w:Int),.i6 (h:Int),.ptr p54 0 0,.i6 (y:Int),.ms Hc.length 0 0 w w 1 true,.i6 0] (Hc++[.cel 0 (flat cY (List.replicate w 0))])=out:=by
 have key:=Cm (G:=λaA vs H1=>Sh.f1y H rec1 aA (ag vs 0) (ag vs 1) (ag vs 2) (ag vs 3) (ag vs 4) (ag vs 5) (ag vs 6) (ag vs 7) (ag vs 8) H1) w
  (λx=>[.ptr p3 0 0,.ptr p5 0 0,.ptr p28 0 0,.i6 (w:Int),.i6 (h:Int),.ptr p54 0 0,.i6 (y:Int),.ms Hc.length 0 0 w w 1 true,.i6 (x:Int)]) (λx=>Hc++[.cel 0 (flat cY ((List.range x).map (Ki L X Y y)++List.replicate (w-x) 0))]) out (by omega) (λaA x hx=>?_) (λaA=>?_)
 ·simpa using key
 ·have hx':(x:Int)<(w:Int):=by omega
  have aN:=Au (show x<9223372036854775807 by omega);generalize hR:(List.range x).map (Ki L X Y y)++List.replicate (w-x) 0=R;have hRl:R.length=w:=by rw[<-hR];simp;omega
  have aI:R.set x (Ki L X Y y x)=(List.range (x+1)).map (Ki L X Y y)++List.replicate (w-(x+1)) 0:=by
   rw[<-hR,W5 _ _ (by simp),show w-x=(w-(x+1))+1 from by omega,zXm];simp[XQ]
  rw[<-aI];have ox:=λH=>q02_of (x:Int) H (by omega) (by omega);have oy:=λH=>q02_of (y:Int) H (by omega) (by omega);have sx:=SB_nat (show x<=1000 by omega);have sy:=SB_nat hy;have ax:=λH=>HT X (x:Int) H (sX.lb (by decide)) (sx.lb (by decide));have ay:=λH=>HT Y (y:Int) H (sY.lb (by decide)) (sy.lb (by decide));have aW:=λH=>q08_get L (X+(x:Int)) (Y+(y:Int)) H (by omega) hl ((sX.add sx).mono (by omega)) ((sY.add sy).mono (by omega));have g1:=B2 (G:=[Blk.cel 0 (flat cY R)]) hq;have g2:=B2 (G:=[Blk.cel 0 (flat cY R)]) hX;have g3:=B2 (G:=[Blk.cel 0 (flat cY R)]) hY;have hidx:=CL (sz:=1) (id:=Hc.length) (n:=w) (K:=.i64) (g:=0) (off:=0) (cap:=w) (ex:=true) (i:=x) hx;simp only[VU,Wg]at hidx;have hst:=DS (f:=cY) (sz:=1) (l:=R) (i:=x) (a:=Ki L X Y y x) (v:=.int .u8 (PX L (X+(x:Int)) (Y+(y:Int)))) (H:=Hc++[Blk.cel 0 (flat cY R)]) (id:=Hc.length) (Aw Al) (by omega) (by rw[<-cellB_nat hl];rfl);rw[Wg,Bt Al,Be]at hst;unfold Sh.f1y;simp only[GMw,Aj,hx',ox,Ah,VU,g1,g2,g3,and_true,eq_self,ax,oy,ay,aW,hidx,hst,aN]
 ·rw[WB,List.replicate_zero,Wx];exact fin aA
def Dl (X Y:Int)(v:Ab):List Ab:=A2 X++A2 Y++[v]
def OM (X Y:Int)(rows:List (List UInt8)):Ab:=.agg (Dl X Y (.sl (enL cS rows) .no))
def DN:List Ab:=[.bool false,.sl [] .ti,.bool false,.sl [] .ti,.sl [] .ti]
def Gt (L:List Nd)(X Y:Int)(w n:Nat):List (List UInt8):=(List.range n).map (NS L X Y w)
theorem fpart_grid (X Y:Int)(es:List (List Ab))(tk:Tok)(H':Aa)(n d:Nat):Fg H' n (d+3) (.agg (Dl X Y (.sl es tk)))=some (.agg (Dl X Y (.sl es .no))):=by
 unfold Dl A2;simp
theorem Oc (X Y:Int)(es:List (List Ab))(tk:Tok):(Dl X Y (.sl es tk)).all Ab.isScal=true:=by unfold Dl A2;simp
theorem MR (H:Aa):Az (some [(.bool false),(.sl [] .ti),(.bool false),(.sl [] .ti),(.sl [] .ti)]) H=some (.ptr H.length 0 0,H++[.cel 0 DN]):=alloc_eq rfl
theorem grid_tail {H Hq:Aa}{p5:Nat}{X Y:Int}{es:List (List Ab)}{tk:Tok}{e:Int}{c:List Ab}(hp:H.length<=p5)(hc:Hq[p5]? = some (.cel 0 c))(hl:c.length=5)(hold:∀i,i<H.length->Hq[i]? = H[i]?) :
  (bP H (A8 (Af 5 (.ptr p5 0 0) (.agg (Dl X Y (.sl es tk))) Hq)) λ_ H37=>(Eh [Ac true 5 (.ptr p5 0 0) H37,some (.i6 e)]).bind λx38=>rPN H x38 H37)=some (.ret (.tup [.agg (Dl X Y (.sl es .no)),.i6 e]),H):=by
 have aG:=(VP.1 hc).1;have hst:Af 5 (.ptr p5 0 0) (.agg (Dl X Y (.sl es tk))) Hq=some (Hq.set p5 (.cel 0 (Dl X Y (.sl es tk)))):=by
  simp only[Af,Aw hc,zXa,BV (Oc X Y es tk),Bt hc,Dq (sz:=5) hl];rw[if_pos ⟨rfl,by omega⟩]
 have hld:Ac true 5 (.ptr p5 0 0) (Hq.set p5 (.cel 0 (Dl X Y (.sl es tk))))=some (.agg (Dl X Y (.sl es tk))):=by
  have:(Hq.set p5 (.cel 0 (Dl X Y (.sl es tk))))[p5]? = some (.cel 0 (Dl X Y (.sl es tk))):=by rw[Wf aG]
  simp only[Ac,Aw this,zXa];rfl
 have aS:(Hq.set p5 (.cel 0 (Dl X Y (.sl es tk)))).take H.length=H:=C0 λi hi=>by
  rw[VT (by omega),hold i hi]
 simp only[GMw,hst,hld,EN,CU,D6,zXb,GD aS,Ci,Bu,B6,fpart_grid,CM]
theorem Nn {H Hq:Aa}{p5:Nat}{e:Int}(hp:H.length<=p5)(hc:Hq[p5]? = some (.cel 0 DN))(hold:∀i,i<H.length->Hq[i]? = H[i]?) :
  ((A6 (some [(.bool false),(.sl [] .ti),(.bool false),(.sl [] .ti),(.sl [] .ti)]) []).bind λx11=>bP H (A8 (Af 5 (.ptr p5 0 0) x11 Hq)) λ_ H37=>(Eh [Ac true 5 (.ptr p5 0 0) H37,some (.i6 e)]).bind λx38=>rPN H x38 H37)=some (.ret (.tup [OM 0 0 [],.i6 e]),H):=by
 have hb:A6 (some [(.bool false),(.sl [] .ti),(.bool false),(.sl [] .ti),(.sl [] .ti)]) []=some (.agg DN):=rfl;have aG:=(VP.1 hc).1;have hst:Af 5 (.ptr p5 0 0) (.agg DN) Hq=some (Hq.set p5 (.cel 0 DN)):=by
  simp only[Af,Aw hc,zXa,BV (cs:=DN) rfl,Bt hc,Dq (cs:=DN) (sz:=5) rfl]
  rfl
 have hld:Ac true 5 (.ptr p5 0 0) (Hq.set p5 (.cel 0 DN))=some (.agg DN):=by
  have:(Hq.set p5 (.cel 0 DN))[p5]? = some (.cel 0 DN):=by rw[Wf aG]
  simp only[Ac,Aw this,zXa];rfl
 have aS:(Hq.set p5 (.cel 0 DN)).take H.length=H:=C0 λi hi=>by
  rw[VT (by omega),hold i hi]
 simp only[hb,GMw,hst,hld,EN,CU,D6,zXb,GD aS,Ci,Bu,B6,F5];simp only[DN,BH,zXb,DB,Ew,KP,GL,CM]
 rfl
theorem grid_rows (H:Aa)(L:List Nd)(X Y:Int)(W Hh:Int)(w h p3 p5 p28 p54:Nat)(hL:L.length<549755813888)(hl:AB L=true)(hw:w<=1000)(hh:h<=1000)(sX:SB 44 X)(sY:SB 44 Y)
  (q3:H.length<=p3)(q5:H.length<=p5)(q28:H.length<=p28)(q54:H.length<=p54)(d3:p3≠p54)(d5:p5≠p54)(d28:p28≠p54)(Hc:Aa)
  (f3:Hc[p3]? = some (.cel 0 (Bj L)))(f5:Hc[p5]? = some (.cel 0 DN))(f28:Hc[p28]? = some (.cel 0 (I9 X Y W Hh)))(f54:Hc[p54]? = some (.cel 0 (Dl X Y (.sl [] .ti))))(hold:∀i,i<H.length->Hc[i]? = H[i]?) :
  Ap (λrec1 vs H1=>Sh.f38 H rec1 (ag vs 0) (ag vs 1) (ag vs 2) (ag vs 3) (ag vs 4) (ag vs 5) (ag vs 6) H1) AU [.ptr p3 0 0,.ptr p5 0 0,.ptr p28 0 0,.i6 (w:Int),.i6 (h:Int),.ptr p54 0 0,.i6 0] Hc=some (.ret (.tup [OM X Y (Gt L X Y w h),.i6 0]),H):=by
 have qV:H.length<=Hc.length:=by have:=(VP.1 f3).1;omega
 have loop:=GG (G:=λrec1 vs H1=>Sh.f38 H rec1 (ag vs 0) (ag vs 1) (ag vs 2) (ag vs 3) (ag vs 4) (ag vs 5) (ag vs 6) H1) h
  (λy vs Hd=>∃v,vs=[.ptr p3 0 0,.ptr p5 0 0,.ptr p28 0 0,.i6 (w:Int),.i6 (h:Int),.ptr p54 0 0,.i6 (y:Int)]/\Hd[p3]? = some (.cel 0 (Bj L))/\Hd[p5]? = some (.cel 0 DN)/\Hd[p28]? = some (.cel 0 (I9 X Y W Hh))/\Hd[p54]? = some (.cel 0 (Dl X Y v))/\RS cS U3 1 H.length (Gt L X Y w y) v Hd/\(∀i,i<H.length->Hd[i]? = H[i]?)/\H.length<=Hd.length)
  (by omega) (λy vs Hd hy hI=>?_) (vs:=[.ptr p3 0 0,.ptr p5 0 0,.ptr p28 0 0,.i6 (w:Int),.i6 (h:Int),.ptr p54 0 0,.i6 0]) (H:=Hc) ⟨_,rfl,f3,f5,f28,f54,.inl ⟨rfl,rfl⟩,hold,qV⟩
 ·obtain⟨vs',Hd,⟨v,rfl,g3,g5,g28,g54,gR,go,gl⟩,rec,aB⟩:=loop;rw[aB];obtain⟨tk,rfl⟩:=gR.sl;have hld:Ac true 5 (.ptr p54 0 0) Hd=some (.agg (Dl X Y (.sl (enL cS (Gt L X Y w h)) tk))):=by
   simp only[Ac,Aw g54,zXa];rfl
  unfold Sh.f38;simp only[Am,Aj,Br,BH,WL,decide_false,AQ,hld];exact grid_tail q5 g5 rfl go
 ·obtain⟨v,rfl,g3,g5,g28,g54,gR,go,gl⟩:=hI;have sH:(y:Int)<(h:Int):=by omega
  have aN:=Au (show y<9223372036854775807 by omega);have cX:=Fz (f:=cY) (a:=0) (n:=w) (bytes:=1) (H:=Hd) (by omega) (by omega);simp only[show cY 0=[Ab.int .u8 0] from rfl]at cX;have hX:Ac true 2 (.ptr p28 0 0) Hd=some (big X):=by simp only[Ac,Aw g28,zXa];rfl
  have hY:Ac true 2 (.ptr p28 0 2) Hd=some (big Y):=by simp only[Ac,Aw g28,zXa];rfl
  have nD:(NS L X Y w y).length=w:=by simp[NS]
  have gR':=gR.left [Blk.cel 0 (flat cY (NS L X Y w y))];have Zk:(Gt L X Y w y).length=y:=by simp[Gt]
  obtain⟨v2,He,a1,a2,a3⟩:=gR'.snoc (bytes:=16) (by simp;omega) (NS L X Y w y) .ti (by omega) (by omega);obtain⟨tk0,rfl⟩:=gR.sl;obtain⟨tk2,rfl⟩:=a2.sl;have e54:=a3.cel p54 _ (A0 g54);have e54l:=(VP.1 e54).1;have dU:Gt L X Y w y++[NS L X Y w y]=Gt L X Y w (y+1):=by simp[Gt,XQ]
  rw[dU]at a1 a2;have vD:Ac false 1 (.ptr p54 0 4) (Hd++[Blk.cel 0 (flat cY (NS L X Y w y))])=some (.sl (enL cS (Gt L X Y w y)) tk0):=B2 (by simp only[Ac,Aw g54,zXa];rfl);have tT:Af 1 (.ptr p54 0 4) (.sl (enL cS (Gt L X Y w (y+1))) tk2) He=some (He.set p54 (.cel 0 (Dl X Y (.sl (enL cS (Gt L X Y w (y+1))) tk2)))):=by
   simp only[Af,Aw e54,zXa,QE,Bt e54];rfl
  have kU:=toStr_ms (l:=NS L X Y w y) (H:=Hd++[Blk.cel 0 (flat cY (NS L X Y w y))]) (id:=Hd.length) (Aw Al);rw[nD]at kU;refine⟨[.ptr p3 0 0,.ptr p5 0 0,.ptr p28 0 0,.i6 (w:Int),.i6 (h:Int),.ptr p54 0 0,.i6 ((y+1:Nat):Int)],He.set p54 (.cel 0 (Dl X Y (.sl (enL cS (Gt L X Y w (y+1))) tk2))),⟨_,rfl,by rw[VT d3.symm];exact a3.cel _ _ (A0 g3),by rw[VT d5.symm];exact a3.cel _ _ (A0 g5),by rw[VT d28.symm];exact a3.cel _ _ (A0 g28),by rw[Wf e54l],a2.put e54,λi hi=>?_,?_⟩,λrec=>?_⟩
  ·rw[VT (by omega),a3.old i hi,VR (by omega)];exact go i hi
  ·have:=a3.len;simp at this;simp;omega
  ·unfold Sh.f38;simp only[Am,Aj,Br,BH,sH,decide_true,AZ,cX,Bv];refine grid_row H rec L X Y w h y p3 p5 p28 p54 Hd _ hL hl hw (by omega) sX sY (Ni g3) hX hY λaA=>?_;unfold Sh.f1y;simp only[GMw,WL,Ah,VU,vD,kU,build_S,a1,tT,aN]
def gridO (L:List Nd)(m:Int):Ab×Int:=
 if m<0\/m>1000 then (OM 0 0 [],1)
 else if Ee L m=false then (OM 0 0 [],4)
 else if L=[]then (OM 0 0 [],0)
 else (OM (bxX L) (bxY L) (Gt L (bxX L) (bxY L) (bxW L).toNat (bxH L).toNat),0)
theorem bxX_sb {L:List Nd}(hl:AB L=true)(h0:L≠[]):SB 44 (bxX L)/\SB 44 (bxY L):=by
 have hlen:0<L.length:=Wy.2 h0;have eW:=HA Ml hl hlen;have eN:=HA Mm hl hlen;have hLv:Lv L (Bn L).toNat L.length:=⟨VV _,.inr rfl⟩;obtain⟨_,hn2⟩:=hLv.num hlen hl;have hle:(Bn L).toNat<=1329:=OB hl hlen (VV _);unfold bxX bxY;generalize (Bn L).toNat=v at *;obtain⟨u,rfl⟩:∃u,v=u+1:=⟨v-1,by omega⟩;rw[Wl];have e:(2:Int)^(u+1)=2^u*2:=Xv _ _;have hs:=EM (show u<=1400 by omega);have ha:=Jl u;have key:∀a:Int,0<=a->a<2^(u+1)->SB 44 (-(2^u)+a):=λa h1 h2=>by
  unfold SB at hs ⊢;refine WI ?_ hs;rw[e]at h2;generalize (2:Int)^u=p at *;omega
 exact⟨key _ eW.1 eW.2,key _ eN.1 eN.2⟩
theorem q10_of (L:List Nd)(m:Int)(H:Aa)(hL:L.length<549755813888)(hl:AB L=true)(h0:-9223372036854775808<=m)(h1:m<=9223372036854775807) :
  Sh.f5r (CY L) (.i6 m) H=some (.ret (.tup [(gridO L m).1,.i6 (gridO L m).2]),H):=by
 unfold Sh.f5r gridO;have e3:(H++[Blk.cel 0 (Bj L)]++[Blk.cel 0 DN])[H.length]? = some (.cel 0 (Bj L)):=by simp
 have e5:(H++[Blk.cel 0 (Bj L)]++[Blk.cel 0 DN])[(H++[Blk.cel 0 (Bj L)]).length]? = some (.cel 0 DN):=Al;have eo:∀i,i<H.length->(H++[Blk.cel 0 (Bj L)]++[Blk.cel 0 DN])[i]? = H[i]? := λi hi=>by rw[VZ,VR hi]
 have l5:H.length<=(H++[Blk.cel 0 (Bj L)]).length:=by simp
 simp only[GMw,boxQ,MR];by_cases hm0:m<0
 ·rw[if_pos (.inl hm0)];simp only[hm0,GMw];exact Nn l5 e5 eo
 ·by_cases nN:m>1000
  ·rw[if_pos (.inr nN)];simp only[hm0,nN,GMw];exact Nn l5 e5 eo
  ·rw[if_neg (by omega)];have cL:=λH=>S1 L m H hL hl h0 h1;simp only[hm0,nN,GMw,Ni e3,cL];cases wQ:Ee L m with
   | false=>
    simp only[GMw];exact Nn l5 e5 eo
   | true=>
    have uM:=λH=>q09_ofB L H hL hl;simp only[GMw,Ni e3,uM,B1,B8,Oi];generalize hB:H++[Blk.cel 0 (Bj L)]++[Blk.cel 0 DN]=B at e3 e5 eo;generalize xA:(H++[Blk.cel 0 (Bj L)]).length=p5 at e5 l5;have d35:H.length≠p5:=by rw[<-xA];simp
    have hbl:B.length=H.length+2:=by rw[<-hB];simp
    have p5e:p5=H.length+1:=by rw[<-xA];simp
    have tS:∀x y w h:Int,Af 8 (.ptr B.length 0 0) (Q9 x y w h) (B++[Blk.cel 0 Hb])=some (B++[Blk.cel 0 (I9 x y w h)]):=λx y w h=>by
     simp only[Af,Aw (Al (B:=B) (cs:=Hb)),zXa,TK,Bt (Al (B:=B) (cs:=Hb)),Dq (cs:=Hb) (sz:=8) rfl,Be]
     rfl
    simp only[tS,GMw];by_cases hn:L=[]
    ·simp only[hn,ne_eq,not_true_eq_false,GMw];exact Nn l5 (A0 e5) λi hi=>by rw[VR (by omega)];exact eo i hi
    ·rw[if_neg hn];simp only[hn,ne_eq,not_false_eq_true,GMw];obtain⟨w1,w2⟩:=bx_pos hl hn;obtain⟨sx,sy⟩:=bxX_sb hl hn;have mA:bxW L<=m/\bxH L<=m:=by
      simp only[Ee,bx,if_neg hn,Wc,zXe]at wQ;exact wQ
     simp only[bx,if_neg hn];obtain⟨w,hw⟩:=WQ (show 0<=bxW L by omega);obtain⟨h,hh⟩:=WQ (show 0<=bxH L by omega);rw[hw]at mA w1 ⊢;rw[hh]at mA w2 ⊢;have yP:=mA.1;have yO:=mA.2;generalize bxX L=X at *;generalize bxY L=Y at *;have g0:Ac true 2 (.ptr B.length 0 0) (B++[Blk.cel 0 (I9 X Y w h)])=some (big X):=by simp only[Ac,Aw (Al (B:=B)),zXa];rfl
     have g2:Ac true 2 (.ptr B.length 0 2) (B++[Blk.cel 0 (I9 X Y w h)])=some (big Y):=by simp only[Ac,Aw (Al (B:=B)),zXa];rfl
     have g4:Ac true 2 (.ptr B.length 0 4) (B++[Blk.cel 0 (I9 X Y w h)])=some (big w):=by simp only[Ac,Aw (Al (B:=B)),zXa];rfl
     have g6:Ac true 2 (.ptr B.length 0 6) (B++[Blk.cel 0 (I9 X Y w h)])=some (big h):=by simp only[Ac,Aw (Al (B:=B)),zXa];rfl
     have iw:∀H,Sh.fv (big (w:Int)) H=some (.ret (.tup [.i6 (w:Int),.bool true]),H):=λH=>by
      rw[q02_intZ _ _ (LB_i64 (by omega) (by omega))];have:Hl (w:Int)=true:=by unfold Hl;rw[zXe];omega
      unfold Ua;rw[this];rfl
     have ih:∀H,Sh.fv (big (h:Int)) H=some (.ret (.tup [.i6 (h:Int),.bool true]),H):=λH=>by
      rw[q02_intZ _ _ (LB_i64 (by omega) (by omega))];have:Hl (h:Int)=true:=by unfold Hl;rw[zXe];omega
      unfold Ua;rw[this];rfl
     have iK:A6 (some [(.bool false),(.sl [] .ti),(.bool false),(.sl [] .ti),(.sl [] .ti)]) [(0,2,big X),(2,2,big Y)]=some (.agg (Dl X Y (.sl [] .ti))):=by
      unfold Dl;simp[A6,Gy,CZ,A2]
     simp only[GMw,Ah,VU,g0,g2,g4,g6,iw,ih,B1,B8,iK,MR];generalize hC:B++[Blk.cel 0 (I9 X Y w h)]=C;have aG:C.length=H.length+3:=by rw[<-hC];simp;omega
     have mV:Af 5 (.ptr C.length 0 0) (.agg (Dl X Y (.sl [] .ti))) (C++[Blk.cel 0 DN])=some (C++[Blk.cel 0 (Dl X Y (.sl [] .ti))]):=by
      simp only[Af,Aw (Al (B:=C) (cs:=DN)),zXa,BV (Oc X Y [] .ti),Bt (Al (B:=C) (cs:=DN)),Dq (cs:=DN) (sz:=5) rfl,Be]
      rfl
     simp only[GMw,mV,zXl];exact grid_rows H L X Y w h w h H.length p5 B.length C.length hL hl (by omega) (by omega) sx sy (VV _) l5 (by omega) (by omega) (by omega) (by omega) (by omega) _ (by rw[<-hC];exact A0 (A0 e3)) (by rw[<-hC];exact A0 (A0 e5)) (by rw[<-hC];exact A0 Al) Al (λi hi=>by rw[<-hC,VZ,VR (by omega)];exact eo i hi)
def Im (b n:Int):List Ab:=[.i6 b,.i6 n]
def GM (f:Int)(L:List Nd)(b:Int):Bool:=decide (f=5)||(Ee L b&&(decide (f=4)||decide (Gv L<=1)))
def HE (f:Int)(rule:List UInt8)(L:List Nd)(b n:Int):Int:=
 if (decide (1<=f)&&decide (f<=5)&&(Hk rule&&D7 L)&&Mu b n)=false then 1 else if GM f L b=false then 5 else 0
theorem Fx {L:List Nd}(h:D7 L=true):AB L=true:=by
 simp only[D7,WS,zXe,Wc]at h;rcases h with h | h
 ·subst h;rfl
 ·exact h.1.1.1
theorem Mh (f:Int)(rule:List UInt8)(L:List Nd)(b n:Int)(H:Aa)(hL:L.length<549755813888)(hl:AB L=true)(h0:-9223372036854775808<=b)(h1:b<=9223372036854775807) :
  Sh.fo (.i6 f) (pat rule L) (.agg (Im b n)) H=some (.ret (.bool (GM f L b)),H):=by
 unfold Sh.fo GM;have hbx:∀H,BD true 2 (.agg (Im b n)) H=some (.ptr H.length 0 0,H++[.cel 0 (Im b n)]):=λH=>Cp rfl rfl;have e4:(H++[Blk.cel 0 (EJ rule L)]++[Blk.cel 0 (Im b n)])[H.length]? = some (.cel 0 (EJ rule L)):=by simp
 have g6:Ac false 1 (.ptr (H++[Blk.cel 0 (EJ rule L)]).length 0 0) (H++[Blk.cel 0 (EJ rule L)]++[Blk.cel 0 (Im b n)])=some (.i6 b):=by
  simp only[Ac,Aw (Al (B:=H++[Blk.cel 0 (EJ rule L)])),zXa];rfl
 have fin:∀q:Bool,rP H (.bool q) (H++[Blk.cel 0 (EJ rule L)]++[Blk.cel 0 (Im b n)])=some (.ret (.bool q),H):=λq=>by rw[VZ];exact Fw
 have cL:=λH=>S1 L b H hL hl h0 h1;have mG:=λH=>q08_mostZ H (show L.length<1152921504606846976 by omega) hl;simp only[GMw,boxPat,hbx];by_cases h5:f=5
 ·simp only[h5,GMw,fin]
 ·simp only[h5,GMw,Ah,VU,KG e4,g6,cL];cases Ee L b with
  | false=>simp only[GMw,fin]
  | true=>
   by_cases h4:f=4
   ·simp only[h4,GMw,fin]
   ·simp only[h4,GMw,Ah,VU,KG e4,mG,fin]
theorem q11_check (f:Int)(rule:List UInt8)(L:List Nd)(b n:Int)(H:Aa)(hr:rule.length<1152921504606846976)(hL:L.length<549755813888)(h0:-9223372036854775808<=b)(h1:b<=9223372036854775807) :
  Sh.f5o (.i6 f) (pat rule L) (.agg (Im b n)) H=some (.ret (.i6 (HE f rule L b n)),H):=by
 unfold Sh.f5o HE;have hbx:∀H,BD true 2 (.agg (Im b n)) H=some (.ptr H.length 0 0,H++[.cel 0 (Im b n)]):=λH=>Cp rfl rfl;have e4:(H++[Blk.cel 0 (EJ rule L)]++[Blk.cel 0 (Im b n)])[H.length]? = some (.cel 0 (EJ rule L)):=by simp
 have g6:Ac true 2 (.ptr (H++[Blk.cel 0 (EJ rule L)]).length 0 0) (H++[Blk.cel 0 (EJ rule L)]++[Blk.cel 0 (Im b n)])=some (.agg (Im b n)):=by
  simp only[Ac,Aw (Al (B:=H++[Blk.cel 0 (EJ rule L)])),zXa];rfl
 have fin:∀q:Int,rP H (.i6 q) (H++[Blk.cel 0 (EJ rule L)]++[Blk.cel 0 (Im b n)])=some (.ret (.i6 q),H):=λq=>by rw[VZ];exact Ij
 have tC:=λH=>q11_format f H;have sM:=λH=>q11_right rule L H hr (by omega);have eR:=λH=>q11_fine b n H;simp only[GMw,boxPat,hbx,tC];cases hf:(decide (1<=f)&&decide (f<=5))with
 | false=>simp only[GMw,fin]
 | true=>
  simp only[GMw,Nj e4,sM];cases hq:(Hk rule&&D7 L)with
  | false=>simp only[GMw,fin]
  | true=>
   have hl:AB L=true:=by
    simp only[Wc]at hq;exact Fx hq.2
   have hex:=λH=>Mh f rule L b n H hL hl h0 h1;have jS:∀H,Sh.f2x (.agg (Im b n)) H=some (.ret (.bool (Mu b n)),H):=eR;simp only[GMw,g6,jS];cases Mu b n with
   | false=>simp only[GMw,fin]
   | true=>
    simp only[GMw,Nj e4,g6,hex];cases GM f L b with
    | false=>simp only[GMw,fin];rfl
    | true=>simp only[GMw,fin];rfl
def FN (one:UInt8)(s:List UInt8):List UInt8:=s.map λb=>if b=0 then 46 else one
def LS (s:List UInt8):Nat:=(s.reverse.dropWhile λb=>decide (b=0)).length
def Sv (one:UInt8)(s:List UInt8):List UInt8:=(FN one s).take (LS s)
theorem Sb (s:List UInt8)(b:UInt8):LS (s++[b])=if b=0 then LS s else s.length+1:=by
 unfold LS;rw[List.reverse_append];by_cases h:b=0 <;> simp[h,List.dropWhile_cons]
theorem usedN_le (s:List UInt8):LS s<=s.length:=by
 unfold LS;have:=(List.dropWhile_sublist (λb:UInt8=>decide (b=0)) (l:=s.reverse)).length_le;simpa using this
theorem q12_row (s:List UInt8)(one:UInt8)(H:Aa)(hs:s.length<70368744177664):Sh.f5u (.str s) (.int .u8 (one.toNat:Int)) H=some (.ret (.str (Sv one s)),H):=by
 unfold Sh.f5u;refine Cm (G:=λrec1 vs H1=>Sh.f5t H rec1 (ag vs 0) (ag vs 1) (ag vs 2) (ag vs 3) (ag vs 4) H1) s.length (λi=>[.str s,.int .u8 (one.toNat:Int),DJ cY H (FN one (s.take i)),.i6 (LS (s.take i):Int),.i6 (i:Int)]) (λi=>DI cY IL 1 H (FN one (s.take i))) _ (by omega) (λrec i hi=>?_) (λrec=>?_)
 ·have aD:(i:Int)<(s.length:Int):=by omega
  have aN:=Au (show i<9223372036854775807 by omega);have hsl:(FN one (s.take i)).length=i:=by simp[FN];omega
  have jA:(s.take i).length=i:=by simp;omega
  have oB:decide ((s[i].toNat:Int)=0)=decide (s[i]=0):=by
   rw[Wo];simp only[zXe];constructor
   ·intro h;exact Xp.1 (by simpa using h)
   ·intro h;rw[h];rfl
  have dW:FN one (s.take (i+1))=FN one (s.take i)++[if s[i]=0 then 46 else one]:=by
   unfold FN;rw[Wb hi,Y7];rfl
  have yU:LS (s.take (i+1))=if s[i]=0 then LS (s.take i)else i+1:=by
   rw[Wb hi,Sb,jA]
  have app:∀b:UInt8,AW IL 1 1 (DJ cY H (FN one (s.take i))) (.sl (enL cY [b]) .ti) (DI cY IL 1 H (FN one (s.take i)))=some (DJ cY H (FN one (s.take i)++[b]),DI cY IL 1 H (FN one (s.take i)++[b])):=λb=>E5 (by simp) (by simp;omega) (by simp;omega);have wB:AS 1 [.int .u8 46]=some (.sl (enL cY [46]) .ti):=build_Y 46;have hlen:∀b:UInt8,A7 (DJ cY H (FN one (s.take i)++[b]))=some (.i6 ((i+1:Nat):Int)):=λb=>by
   rw[Fy,Ax,VX,hsl];rfl
  rw[dW,yU];unfold Sh.f5t;simp only[GMw,Iz,aD,KL hi,oB,Aj];by_cases h0:s[i]=0
  ·simp only[h0,GMw,wB,app,Aj,Sh.f7i,aN]
  ·simp only[h0,GMw,build_Y,app,hlen,Aj,Sh.f7i,aN]
 ·obtain⟨G,hG⟩:=GF (f:=cY) (ty:=IL) (sz:=1) H (FN one s);have hu:=usedN_le s;have hsl:(FN one s).length=s.length:=by simp[FN]
  unfold Sh.f5t;rw[Wd (VV _)];simp only[GMw,Iz,WL,Fy,hG,Sj (f:=cY) (l:=FN one s) (show LS s<=(FN one s).length by omega),U7,rP_str]
  rfl
theorem rowT_len (one:UInt8)(s:List UInt8):(Sv one s).length<=s.length:=by
 unfold Sv FN;simp only[Wj,WW];omega
def Ca (L:List Nd):List (List UInt8):=if L=[]then []else Gt L (bxX L) (bxY L) (bxW L).toNat (bxH L).toNat
theorem gridO_fits {L:List Nd}{b:Int}(h1:0<=b)(h2:b<=1000)(hw:Ee L b=true):gridO L b=(OM (bx L bxX) (bx L bxY) (Ca L),0):=by
 unfold gridO Ca bx;rw[if_neg (by omega),if_neg (by rw[hw];simp)];by_cases h0:L=[]
 ·rw[if_pos h0,if_pos h0,if_pos h0,if_pos h0]
 ·rw[if_neg h0,if_neg h0,if_neg h0,if_neg h0]
theorem rowsO_len {L:List Nd}{b:Int}(hl:AB L=true)(h1:0<=b)(h2:b<=1000)(hw:Ee L b=true):(Ca L).length<=1000/\∀r∈Ca L,r.length<=1000:=by
 unfold Ca;by_cases h0:L=[]
 ·rw[if_pos h0];exact⟨by simp,λr hr=>by simp at hr⟩
 ·rw[if_neg h0];simp only[Ee,bx,if_neg h0,Wc,zXe]at hw;have hp:=bx_pos hl h0;refine⟨by simp[Gt];omega,λr hr=>?_⟩;simp only[Gt,Xj]at hr;obtain⟨y,_,rfl⟩:=hr;simp[NS];omega
theorem check_ok {f:Int}{rule:List UInt8}{L:List Nd}{b n:Int}(h:HE f rule L b n=0)(hf:f≠5):AB L=true/\0<=b/\b<=1000/\Ee L b=true/\Hk rule=true/\D7 L=true:=by
 unfold HE at h;split at h
 ·cases h
 ·rename_i h1;split at h
  ·cases h
  ·rename_i h2;simp only[Bool.not_eq_false,Wc,Mu,GM,zXe,WS]at h1 h2;obtain⟨⟨_,h3,h4⟩,h5⟩:=h1;refine⟨Fx h4,h5.1.1.1,h5.1.1.2,?_,h3,h4⟩;rcases h2 with h2 | h2
   ·exact absurd h2 hf
   ·exact h2.1
def Ih (r:List UInt8):List UInt8:=if Sv 42 r=[]then [46]else Sv 42 r
def FE (s0:List UInt8)(rows:List (List UInt8)):List UInt8:=rows.foldl (λs r=>s++Ih r++[10]) s0
theorem QW (s0:List UInt8)(rows:List (List UInt8)){i:Nat}(hi:i<rows.length):FE s0 (rows.take (i+1))=FE s0 (rows.take i)++Ih rows[i]++[10]:=by
 unfold FE;rw[Wb hi,XM];rfl
theorem row5_len (r:List UInt8):(Ih r).length<=r.length+1:=by
 have:=rowT_len 42 r;unfold Ih;split
 ·simp
 ·omega
theorem SY (s0:List UInt8)(rows:List (List UInt8))(h:∀r∈rows,r.length<=1000):∀i,i<=rows.length->(FE s0 (rows.take i)).length<=s0.length+i*1002
 | 0,_=>by simp[FE]
 | i+1,hi=>by
  have ih:=SY s0 rows h i (by omega);have h1:=row5_len rows[i];have h2:=h rows[i] (We hi);rw[QW s0 rows hi];simp only[VX,zXi];omega
theorem life5_loop (H Hc:Aa)(G:Aa)(s0:List UInt8)(X Y:Int)(rows:List (List UInt8))(p:Nat)(hr:s0.length<70368744177664)(hn:rows.length<=1000)(h:∀r∈rows,r.length<=1000)
  (hp:Hc[p]? = some (.cel 0 (Dl X Y (.sl (enL cS rows) .no))))(hH:Hc=H++G) :
  Sh.f5w H (.ptr p 0 0) (.str s0) Hc=some (.ret (.tup [.str (FE s0 rows),.i6 0]),H):=by
 have hld:Ac false 1 (.ptr p 0 4) Hc=some (.sl (enL cS rows) .no):=by simp only[Ac,Aw hp,zXa];rfl
 unfold Sh.f5w;refine Cm (G:=λaA vs H1=>Sh.f5v H aA (ag vs 0) (ag vs 1) (ag vs 2) H1) rows.length (λi=>[.ptr p 0 0,.str (FE s0 (rows.take i)),.i6 (i:Int)]) (λ_=>Hc) _ (by omega) (λrec i hi=>?_) (λrec=>?_)
 ·have aD:(i:Int)<(rows.length:Int):=by omega
  have aN:=Au (show i<9223372036854775807 by omega);have hb:=SY s0 rows h i (by omega);have h1:=row5_len rows[i];have h2:=h rows[i] (We hi);have hrow:=λH=>q12_row rows[i] 42 H (by omega);simp only[show ((42:UInt8).toNat:Int)=42 from rfl]at hrow;have j3:∀t:List UInt8,t=Ih rows[i]->Sh.f7j H rec (.ptr p 0 0) (.str (FE s0 (rows.take i))) (.i6 (i:Int)) (.str t) Hc=rec [.ptr p 0 0,.str (FE s0 (rows.take i)++Ih rows[i]++[10]),.i6 ((i+1:Nat):Int)] Hc:=by
   intro t ht;subst ht;unfold Sh.f7j;rw[CJ (by omega)];simp only[GMw];rw[CJ (by simp only[VX,zXi];omega)];simp only[GMw,aN]
  rw[QW s0 rows hi];unfold Sh.f5v;simp only[GMw,Ah,VU,hld,Ax,aD,A1 hi,AE,zXh,hrow,Aj,Ku];by_cases he:Sv 42 rows[i]=[]
  ·have:(Sv 42 rows[i] == [])=true:=by rw[he];rfl
   rw[this];simp only[GMw];exact j3 [46] (by unfold Ih;rw[if_pos he])
  ·have:(Sv 42 rows[i] == [])=false:=by
    cases hq:Sv 42 rows[i]with
    | nil=>exact absurd hq he
    | cons a l=>rfl
   rw[this];simp only[GMw];exact j3 _ (by unfold Ih;rw[if_neg he])
 ·unfold Sh.f5v;rw[Wd (VV _)];simp only[GMw,Ah,VU,hld,Ax,WL];rw[hH];exact rP_plain (v:=.tup [.str (FE s0 rows),.i6 0]) rfl
def IJ (rule:List UInt8):List UInt8:=[35,76,105,102,101,32,49,46,48,53,10,35,82,32]++rule++[10]
def SX (rule:List UInt8)(L:List Nd):List UInt8:=
 if Ca L=[]then IJ rule else IJ rule++[35,80,32]++G7 (bx L bxX)++[32]++G7 (bx L bxY)++[10]
theorem sb_lt10 {z:Int}{k m:Nat}(h:SB k z)(hk:10*k<=m):z.natAbs<10^m:=WP h (pow10_le hk)
theorem sb_dec {z:Int}(h:SB 44 z):z.natAbs<10^4096/\(G7 z).length<=5000:=by
 have h1:z.natAbs<10^4096:=sb_lt10 (m:=4096) h (by decide);refine⟨h1,?_⟩;have:=Qv 4096 z.natAbs h1;simp only[show ¬((4096:Nat)=0)by decide,if_false]at this;unfold G7;split
 ·simp;omega
 ·omega
theorem PD (rule:List UInt8)(L:List Nd)(b n:Int)(H:Aa)(hr:rule.length<35184372088832)(hL:L.length<549755813888)(h0:-9223372036854775808<=b)(h1:b<=9223372036854775807) :
  Sh.fw (pat rule L) (.agg (Im b n)) H=some (.ret (if HE 2 rule L b n=0 then .tup [.str (FE (SX rule L) (Ca L)),.i6 0]else .tup [.str [],.i6 (HE 2 rule L b n)]),H):=by
 unfold Sh.fw;have hbx:∀H,BD true 2 (.agg (Im b n)) H=some (.ptr H.length 0 0,H++[.cel 0 (Im b n)]):=λH=>Cp rfl rfl;have e3:(H++[Blk.cel 0 (EJ rule L)]++[Blk.cel 0 (Im b n)])[H.length]? = some (.cel 0 (EJ rule L)):=by simp
 have g5:Ac true 2 (.ptr (H++[Blk.cel 0 (EJ rule L)]).length 0 0) (H++[Blk.cel 0 (EJ rule L)]++[Blk.cel 0 (Im b n)])=some (.agg (Im b n)):=by
  simp only[Ac,Aw (Al (B:=H++[Blk.cel 0 (EJ rule L)])),zXa];rfl
 have g6:Ac false 1 (.ptr (H++[Blk.cel 0 (EJ rule L)]).length 0 0) (H++[Blk.cel 0 (EJ rule L)]++[Blk.cel 0 (Im b n)])=some (.i6 b):=by
  simp only[Ac,Aw (Al (B:=H++[Blk.cel 0 (EJ rule L)])),zXa];rfl
 have jY:=λH=>q11_check 2 rule L b n H (by omega) hL h0 h1;simp only[GMw,boxPat,hbx,Nj e3,g5,jY];by_cases he:HE 2 rule L b n=0
 ·obtain⟨hl,b0,b1,hw,_,_⟩:=check_ok he (by decide);obtain⟨r1,r2⟩:=rowsO_len hl b0 b1 hw;have xO:=λH=>q10_of L b H hL hl h0 h1;simp only[gridO_fits b0 b1 hw]at xO;rw[if_pos he];simp only[he,GMw,Ah,VU,Nat.add_zero,KG e3,g6,xO,B1,B8,MR];generalize hB:H++[Blk.cel 0 (EJ rule L)]++[Blk.cel 0 (Im b n)]=B at e3;have wS:SB 44 (bx L bxX)/\SB 44 (bx L bxY):=by
   unfold bx;by_cases hn:L=[]
   ·rw[if_pos hn,if_pos hn];exact⟨SB_nat (n:=0) (by omega),SB_nat (n:=0) (by omega)⟩
   ·rw[if_neg hn,if_neg hn];exact bxX_sb hl hn
  obtain⟨x1,x2⟩:=sb_dec wS.1;obtain⟨y1,y2⟩:=sb_dec wS.2;have mV:Af 5 (.ptr B.length 0 0) (OM (bx L bxX) (bx L bxY) (Ca L)) (B++[Blk.cel 0 DN])=some (B++[Blk.cel 0 (Dl (bx L bxX) (bx L bxY) (.sl (enL cS (Ca L)) .no))]):=by
   unfold OM;simp only[Af,Aw (Al (B:=B) (cs:=DN)),zXa,BV (Oc _ _ _ _),Bt (Al (B:=B) (cs:=DN)),Dq (cs:=DN) (sz:=5) rfl,Be]
   rfl
  have nD:=SS (A0 (G:=[Blk.cel 0 (Dl (bx L bxX) (bx L bxY) (.sl (enL cS (Ca L)) .no))]) e3);have gx:Ac true 2 (.ptr B.length 0 0) (B++[Blk.cel 0 (Dl (bx L bxX) (bx L bxY) (.sl (enL cS (Ca L)) .no))])=some (big (bx L bxX)):=by simp only[Ac,Aw (Al (B:=B)),zXa];rfl
  have gy:Ac true 2 (.ptr B.length 0 2) (B++[Blk.cel 0 (Dl (bx L bxX) (bx L bxY) (.sl (enL cS (Ca L)) .no))])=some (big (bx L bxY)):=by simp only[Ac,Aw (Al (B:=B)),zXa];rfl
  have gr:Ac false 1 (.ptr B.length 0 4) (B++[Blk.cel 0 (Dl (bx L bxX) (bx L bxY) (.sl (enL cS (Ca L)) .no))])=some (.sl (enL cS (Ca L)) .no):=by simp only[Ac,Aw (Al (B:=B)),zXa];rfl
  have tx:=λH=>q03_text (bx L bxX) H x1;have ty':=λH=>q03_text (bx L bxY) H y1;have fin:∀s0:List UInt8,s0.length<70368744177664->Sh.f5w H (.ptr B.length 0 0) (.str s0) (B++[Blk.cel 0 (Dl (bx L bxX) (bx L bxY) (.sl (enL cS (Ca L)) .no))])=some (.ret (.tup [.str (FE s0 (Ca L)),.i6 0]),H):=λs0 hs0=>
   life5_loop H _ ([Blk.cel 0 (EJ rule L)]++([Blk.cel 0 (Im b n)]++[Blk.cel 0 (Dl (bx L bxX) (bx L bxY) (.sl (enL cS (Ca L)) .no))])) s0 (bx L bxX) (bx L bxY) (Ca L) B.length hs0 r1 r2 Al (by rw[<-hB];simp)
  simp only[GMw,mV,Ah,Nat.add_zero,nD];rw[CJ (by simp;omega)];simp only[GMw];rw[CJ (by simp;omega)];simp only[GMw,Ah,VU,gr,Ax,Aj];unfold SX;by_cases hro:Ca L=[]
  ·rw[if_pos hro];have:¬(((Ca L).length:Int)>0):=by rw[hro];simp
   simp only[this,GMw,Aj];exact fin (IJ rule) (by unfold IJ;simp;omega)
  ·rw[if_neg hro];have hpos:=Wy.2 hro;have:(((Ca L).length:Int)>0):=by omega
   simp only[this,GMw,Aj,Ah,VU,Nat.add_zero,gx,gy,tx,ty',and_true,eq_self];rw[CJ (by simp;omega)];simp only[GMw];rw[CJ (by simp;omega)];simp only[GMw];rw[CJ (by simp;omega)];simp only[GMw];rw[CJ (by simp;omega)];simp only[GMw];rw[CJ (by simp;omega)];simp only[GMw,Aj];exact fin _ (by simp;omega)
 ·rw[if_neg he];simp only[he,GMw];rw[VZ];exact rP_plain (v:=.tup [.str [],.i6 (HE 2 rule L b n)]) rfl
theorem QU {ι:Type}{G:ι->LK->LK}{σ:Type}(I:σ->List Ab->Aa->Prop)(μ:σ->Nat)(done:σ->Prop)
  (turn:∀(s:σ) (vs:List Ab) (H:Aa),I s vs H->¬done s->∃s' vs' H',μ s'<μ s/\I s' vs' H'/\∀(i:ι) (rec:LK),G i rec vs H=rec vs' H')
  {s:σ}{vs:List Ab}{H:Aa}(h0:I s vs H)(hm:μ s<1152921504606846976):∃s' vs' H',done s'/\I s' vs' H'/\∀i,∃rec,Ap (G i) AU vs H=G i rec vs' H':=by
 have key:∀(n:Nat) (s:σ) (vs:List Ab) (H:Aa),μ s<n->I s vs H->∃s' vs' H',done s'/\I s' vs' H'/\∀i,∃rec,Ap (G i) n vs H=G i rec vs' H':=by
  intro n
  induction n with
  | zero=>intro s vs H hn _;omega
  | succ n ih=>
   intro s vs H hn hI;by_cases hd:done s
   ·exact⟨s,vs,H,hd,hI,λi=>⟨Ap (G i) n,CF n vs H⟩⟩
   ·obtain⟨s1,vs1,H1,h1,h2,h3⟩:=turn s vs H hI hd;obtain⟨s2,vs2,H2,h4,h5,h6⟩:=ih s1 vs1 H1 (by omega) h2;exact⟨s2,vs2,H2,h4,h5,λi=>(h6 i).imp λrec h7=>by rw[CF,h3,h7]⟩
 exact key AU s vs H (by rw[Dr];exact hm) h0
theorem En {G:LK->LK}{σ:Type}(I:σ->List Ab->Aa->Prop)(μ:σ->Nat)(done:σ->Prop)
  (turn:∀(s:σ) (vs:List Ab) (H:Aa),I s vs H->¬done s->∃s' vs' H',μ s'<μ s/\I s' vs' H'/\∀rec:LK,G rec vs H=rec vs' H')
  {s:σ}{vs:List Ab}{H:Aa}(h0:I s vs H)(hm:μ s<1152921504606846976):∃s' vs' H',done s'/\I s' vs' H'/\∃rec,Ap G AU vs H=G rec vs' H':=by
 obtain⟨s',vs',H',h1,h2,h3⟩:=QU (G:=λ(_:Unit)=>G) I μ done (λs vs H hI hd=>by
  obtain⟨s1,vs1,H1,h1,h2,h3⟩:=turn s vs H hI hd;exact⟨s1,vs1,H1,h1,h2,λ_=>h3⟩) h0 hm
 exact⟨s',vs',H',h1,h2,h3 ()⟩
section
variable {p g:Nat}{f:Ab}{self:Ab->Ab->Ab->Ab->Ab->Aa->Out}
theorem OL {i j:Nat}(hi:i<1000000000)(hj:j<1000000000):AJ .u64 (.i6 ((i:Int)+(j:Int)))=some (.int .u64 ((i+j:Nat):Int))/\IntKind.i64.wrap ((i:Int)+(j:Int))=(i:Int)+(j:Int) /\
  Ae .none .shr (.int .u64 ((i+j:Nat):Int)) (.int .u64 1)=some (.int .u64 (((i+j) / 2:Nat):Int))/\AJ .i64 (.int .u64 (((i+j) / 2:Nat):Int))=some (.i6 (((i+j) / 2:Nat):Int)):=by
 refine⟨?_,by rw[Ao] <;> omega,?_,?_⟩
 ·rw[B3];have:IntKind.u64.wrap ((i:Int)+(j:Int))=((i+j:Nat):Int):=by
   rw[show (i:Int)+(j:Int)=((i+j:Nat):Int)by omega];exact Cs (by omega) (by omega)
  rw[this]
 ·have hs:Ae .none .shr (.int .u64 ((i+j:Nat):Int)) (.int .u64 1)=some (.int .u64 (Int.fdiv ((i+j:Nat):Int) (2^(min (1:Int).toNat IntKind.u64.bits)))):=rfl;rw[hs,show (2:Int)^(min (1:Int).toNat IntKind.u64.bits)=2 from by decide,XO _ (by omega)]
  congr 2
 ·rw[B3,wrap_nat (by omega)]
theorem sym_up {l:List Cl}{i a:Nat}{H0 H:Aa}(h:Dc H p g l)(hi:i<=l.length)(ha:a<i)(hl:l.length<1000000000) :
  Ap (λaA vs H1=>Sh.f1m H0 aA (ag vs 0) (ag vs 1) (ag vs 2) H1) AU [dV p g l.length,.i6 (i:Int),.i6 (a:Int)] H=some (.ret (.tup []),BL H p g (upR a (i-1-a) l)):=by
 have hlen:∀k,(upR a k l).length=l.length:=λk=>by
  induction k with
  | zero=>rfl
  | succ k ih=>unfold upR;rw[MW,ih]
 have key:=Cm (G:=λaA vs H1=>Sh.f1m H0 aA (ag vs 0) (ag vs 1) (ag vs 2) H1) (i-1-a)
  (λk=>[dV p g l.length,.i6 (i:Int),.i6 ((a+k:Nat):Int)]) (λk=>BL H p g (upR a k l)) (some (.ret (.tup []),BL H p g (upR a (i-1-a) l))) (by omega) (λrec k hk=>?_) (λrec=>?_)
 ·rw[show upR a 0 l=l from rfl,CE h]at key;exact key
 ·unfold Sh.f1m;have hr:Dc (BL H p g (upR a k l)) p g (upR a k l):=Di h;have bD:=hlen k;have hw:IntKind.i64.wrap ((i:Int)-1)=((i-1:Nat):Int):=by rw[Ao] <;> omega
  have hd:decide (((a+k:Nat):Int)<((i-1:Nat):Int))=true:=zXc (by omega);have eY:=Au (show a+k<9223372036854775807 by omega);have i1:a+k<(upR a k l).length:=by omega
  have i2:a+k+1<(upR a k l).length:=by omega
  obtain⟨s1,s2⟩:=Sr hr i1 i2;rw[B7]at s1 s2;rw[B7]at s2;simp only[Am,Aj,Bg,Bk,GMw,hw,hd,eY,BW (show a+k<l.length by omega),BW (show a+k+1<l.length by omega),C5 hr i1,C5 hr i2,BP,s1,s2,B9,AL]
  rfl
 ·unfold Sh.f1m;have hw:IntKind.i64.wrap ((i:Int)-1)=((i-1:Nat):Int):=by rw[Ao] <;> omega
  have hd:decide (((a+(i-1-a):Nat):Int)<((i-1:Nat):Int))=false:=zXd (by omega);simp only[Am,Aj,Bg,Bk,GMw,hw,hd]
theorem sym_dn {l:List Cl}{i m:Nat}{H0 H:Aa}(h:Dc H p g l)(hi:i<=m)(hm:m<l.length)(hl:l.length<1000000000) :
  Ap (λeC vs H1=>Sh.f1o H0 eC (ag vs 0) (ag vs 1) (ag vs 2) H1) AU [dV p g l.length,.i6 (i:Int),.i6 (m:Int)] H=some (.ret (.tup []),BL H p g (dnR m (m-i) l)):=by
 have hlen:∀k,(dnR m k l).length=l.length:=λk=>by
  induction k with
  | zero=>rfl
  | succ k ih=>unfold dnR;rw[MW,ih]
 have key:=Cm (G:=λeC vs H1=>Sh.f1o H0 eC (ag vs 0) (ag vs 1) (ag vs 2) H1) (m-i)
  (λk=>[dV p g l.length,.i6 (i:Int),.i6 ((m:Int)-(k:Int))]) (λk=>BL H p g (dnR m k l)) (some (.ret (.tup []),BL H p g (dnR m (m-i) l))) (by omega) (λrec k hk=>?_) (λrec=>?_)
 ·rw[show dnR m 0 l=l from rfl,CE h,show (m:Int)-((0:Nat):Int)=(m:Int)by omega]at key;exact key
 ·unfold Sh.f1o;have hr:Dc (BL H p g (dnR m k l)) p g (dnR m k l):=Di h;have bD:=hlen k;have e:(m:Int)-(k:Int)=((m-k:Nat):Int):=by omega
  have e2:(m:Int)-((k+1:Nat):Int)=((m-k-1:Nat):Int):=by omega
  have hd:decide (((m-k:Nat):Int)>(i:Int))=true:=zXc (by omega);have eY:IntKind.i64.wrap (((m-k:Nat):Int)-1)=((m-k-1:Nat):Int):=by rw[Ao] <;> omega
  have i1:m-k<(dnR m k l).length:=by omega
  have i2:m-k-1<(dnR m k l).length:=by omega
  obtain⟨s1,s2⟩:=Sr hr i1 i2;rw[B7]at s1 s2;rw[B7]at s2;simp only[Am,Aj,Bg,Bk,GMw,e,e2,hd,eY,BW (show m-k<l.length by omega),BW (show m-k-1<l.length by omega),C5 hr i1,C5 hr i2,BP,s1,s2,B9,AL]
  rfl
 ·unfold Sh.f1o;have e:(m:Int)-((m-i:Nat):Int)=(i:Int):=by omega
  have hd:decide ((i:Int)>(i:Int))=false:=zXd (by omega);simp only[Am,Aj,Bg,Bk,GMw,e,hd]

end
section
variable {p g:Nat}{f:Ab}{self:Ab->Ab->Ab->Ab->Ab->Aa->Out}{l0:List Cl}
abbrev Uu (f:Ab)(l0:List Cl):Prop:=∀self,TW (Bh self) f l0
theorem sym_l1 (hf:Uu f l0){l:List Cl}{a m b:Nat}{H0 H:Aa}(h:Dc H p g l)(hm:∀c∈l,c∈l0)(ha:a<l.length)(uU:m<=b)(hb:b<=l.length)(hl:l.length<1000000000)
  (mono:∀c d,m<=c->c<=d->d<b->IS ltC l d a=true->IS ltC l c a=true) :
  ∃s,BsI (λc=>IS ltC l c a) m b s s/\Ap (λrec1 vs H1=>Sh.f1n H0 self rec1 (ag vs 0) (ag vs 1) (ag vs 2) (ag vs 3) (ag vs 4) H1) AU [dV p g l.length,.i6 (a:Int),f,.i6 (m:Int),.i6 (b:Int)] H =
   Ap (λaA vs H1=>Sh.f1m H0 aA (ag vs 0) (ag vs 1) (ag vs 2) H1) AU [dV p g l.length,.i6 (s:Int),.i6 (a:Int)] H:=by
 have key:=En (G:=λrec1 vs H1=>Sh.f1n H0 self rec1 (ag vs 0) (ag vs 1) (ag vs 2) (ag vs 3) (ag vs 4) H1) (σ:=Nat×Nat)
  (λs vs H1=>BsI (λc=>IS ltC l c a) m b s.1 s.2/\vs=[dV p g l.length,.i6 (a:Int),f,.i6 (s.1:Int),.i6 (s.2:Int)]/\H1=H) (λs=>s.2-s.1) (λs=>¬s.1<s.2) (λs vs H1 hI hd=>?_)
  (s:=(m,b)) (vs:=[dV p g l.length,.i6 (a:Int),f,.i6 (m:Int),.i6 (b:Int)]) (H:=H) ⟨.start uU,rfl,rfl⟩ (by dsimp only;omega)
 ·obtain⟨⟨i,j⟩,vs,H1,hd,⟨hI,rfl,rfl⟩,rec,aB⟩:=key;dsimp only at hI hd aB;obtain⟨q1,q2,q3⟩:=hI.le;have e:j=i:=by omega
  subst e;refine⟨j,hI,?_⟩;rw[aB];have bZ:decide ((j:Int)<(j:Int))=false:=zXd (by omega)
  conv=>lhs;unfold Sh.f1n
  simp only[Am,Aj,Bg,Bk,B4,BS,GMw,bZ]
 ·obtain⟨i,j⟩:=s;obtain⟨hI,rfl,rfl⟩:=hI;dsimp only at hI hd ⊢;obtain⟨q1,q2,q3⟩:=hI.le;have hij:i<j:=by omega
  obtain⟨k,hk⟩:∃k,k=(i+j) / 2:=⟨_,rfl⟩;obtain⟨w1,w2,w3,w4⟩:=OL (i:=i) (j:=j) (by omega) (by omega);rw[<-hk]at w3 w4;have cP:k<l.length:=by omega
  have c1:=hf self l[k] (hm _ (We cP)) l[a] (hm _ (We ha));have bZ:decide ((i:Int)<(j:Int))=true:=zXc (by omega);have eY:=Au (show k<9223372036854775807 by omega);have hlt:IS ltC l k a=ltC l[k] l[a]:=RE cP ha;cases hc:ltC l[k] l[a]with
  | true=>
   refine⟨(k+1,j),_,_,by dsimp only;omega,⟨hI.yes mono (by omega) (by omega) (by rw[hlt,hc]),rfl,rfl⟩,λrec=>?_⟩;unfold Sh.f1n;simp only[Am,Aj,Bg,Bk,B4,BS,GMw,bZ,w1,w2,w3,w4,BW cP,BW ha,C5 h cP,C5 h ha,BP,c1,B9,KQ,hc,eY]
  | false=>
   refine⟨(i,k),_,_,by dsimp only;omega,⟨hI.no mono (by omega) (by omega) (by rw[hlt,hc]),rfl,rfl⟩,λrec=>?_⟩;unfold Sh.f1n;simp only[Am,Aj,Bg,Bk,B4,BS,GMw,bZ,w1,w2,w3,w4,BW cP,BW ha,C5 h cP,C5 h ha,BP,c1,B9,KQ,hc]
theorem sym_l3 (hf:Uu f l0){l:List Cl}{a m:Nat}{H0 H:Aa}(h:Dc H p g l)(hm:∀c∈l,c∈l0)(Zf:a<=m)(hml:m<l.length)(hl:l.length<1000000000)
  (mono:∀c d,a<=c->c<=d->d<m->(!IS ltC l m d)=true->(!IS ltC l m c)=true) :
  ∃s,BsI (λc=>!IS ltC l m c) a m s s/\Ap (λdB vs H1=>Sh.f1p H0 self dB (ag vs 0) (ag vs 1) (ag vs 2) (ag vs 3) (ag vs 4) H1) AU [dV p g l.length,.i6 (m:Int),f,.i6 (a:Int),.i6 (m:Int)] H =
   Ap (λeC vs H1=>Sh.f1o H0 eC (ag vs 0) (ag vs 1) (ag vs 2) H1) AU [dV p g l.length,.i6 (s:Int),.i6 (m:Int)] H:=by
 have key:=En (G:=λdB vs H1=>Sh.f1p H0 self dB (ag vs 0) (ag vs 1) (ag vs 2) (ag vs 3) (ag vs 4) H1) (σ:=Nat×Nat)
  (λs vs H1=>BsI (λc=>!IS ltC l m c) a m s.1 s.2/\vs=[dV p g l.length,.i6 (m:Int),f,.i6 (s.1:Int),.i6 (s.2:Int)]/\H1=H) (λs=>s.2-s.1) (λs=>¬s.1<s.2) (λs vs H1 hI hd=>?_)
  (s:=(a,m)) (vs:=[dV p g l.length,.i6 (m:Int),f,.i6 (a:Int),.i6 (m:Int)]) (H:=H) ⟨.start Zf,rfl,rfl⟩ (by dsimp only;omega)
 ·obtain⟨⟨i,j⟩,vs,H1,hd,⟨hI,rfl,rfl⟩,rec,aB⟩:=key;dsimp only at hI hd aB;obtain⟨q1,q2,q3⟩:=hI.le;have e:j=i:=by omega
  subst e;refine⟨j,hI,?_⟩;rw[aB];have bZ:decide ((j:Int)<(j:Int))=false:=zXd (by omega)
  conv=>lhs;unfold Sh.f1p
  simp only[Am,Aj,Bg,Bk,B4,BS,GMw,bZ]
 ·obtain⟨i,j⟩:=s;obtain⟨hI,rfl,rfl⟩:=hI;dsimp only at hI hd ⊢;obtain⟨q1,q2,q3⟩:=hI.le;have hij:i<j:=by omega
  obtain⟨k,hk⟩:∃k,k=(i+j) / 2:=⟨_,rfl⟩;obtain⟨w1,w2,w3,w4⟩:=OL (i:=i) (j:=j) (by omega) (by omega);rw[<-hk]at w3 w4;have cP:k<l.length:=by omega
  have c1:=hf self l[m] (hm _ (We hml)) l[k] (hm _ (We cP));have bZ:decide ((i:Int)<(j:Int))=true:=zXc (by omega);have eY:=Au (show k<9223372036854775807 by omega);have hlt:IS ltC l m k=ltC l[m] l[k]:=RE hml cP;cases hc:ltC l[m] l[k]with
  | false=>
   refine⟨(k+1,j),_,_,by dsimp only;omega,⟨hI.yes mono (by omega) (by omega) (by rw[hlt,hc];rfl),rfl,rfl⟩,λrec=>?_⟩;unfold Sh.f1p;simp only[Am,Aj,Bg,Bk,B4,BS,GMw,bZ,w1,w2,w3,w4,BW cP,BW hml,C5 h cP,C5 h hml,BP,c1,B9,KQ,hc,eY]
  | true=>
   refine⟨(i,k),_,_,by dsimp only;omega,⟨hI.no mono (by omega) (by omega) (by rw[hlt,hc];rfl),rfl,rfl⟩,λrec=>?_⟩;unfold Sh.f1p;simp only[Am,Aj,Bg,Bk,B4,BS,GMw,bZ,w1,w2,w3,w4,BW cP,BW hml,C5 h cP,C5 h hml,BP,c1,B9,KQ,hc]
def SymOk (p g:Nat)(f:Ab)(l0:List Cl)(self:Ab->Ab->Ab->Ab->Ab->Aa->Out)(n:Nat):Prop:=
 ∀(A U V B:List Cl) (H:Aa),U.length+V.length=n->Dc H p g (A++(U++(V++B)))->0<U.length->0<V.length->E6 ltC U->E6 ltC V->(∀c∈A++(U++(V++B)),c∈l0)->(A++(U++(V++B))).length<1000000000 ->
  ∃W,Srt ltC (U++V) W/\self (dV p g (A++(U++(V++B))).length) (.i6 (A.length:Int)) (.i6 ((A.length+U.length:Nat):Int)) (.i6 ((A.length+U.length+V.length:Nat):Int)) f H=some (.ret (.tup []),BL H p g (A++(W++B)))
theorem R6 {U V:List Cl}(hU:E6 ltC U)(hV:E6 ltC V)(h:U=[]\/V=[]):Srt ltC (U++V) (U++V):=by
 refine⟨?_,.refl _,rfl⟩;rcases h with rfl | rfl
 ·exact hV
 ·rw[Wx];exact hU
theorem sym_j8 {H0 H:Aa}{A U V B:List Cl}{n:Nat}(hs:∀n',n'<n->SymOk p g f l0 self n')(hn:U.length+V.length<n)(h:Dc H p g (A++(U++(V++B))))(hU:E6 ltC U)(hV:E6 ltC V)(hm:∀c∈A++(U++(V++B)),c∈l0)(hl:(A++(U++(V++B))).length<1000000000) :
  ∃W,Srt ltC (U++V) W/\Sh.f4a H0 self (dV p g (A++(U++(V++B))).length) (.i6 ((A.length+U.length+V.length:Nat):Int)) f (.i6 (A.length:Int)) (.i6 ((A.length+U.length:Nat):Int)) H=some (.ret (.tup []),BL H p g (A++(W++B))):=by
 unfold Sh.f4a;by_cases h1:0<U.length
 ·have d1:decide ((A.length:Int)<((A.length+U.length:Nat):Int))=true:=zXc (by omega);by_cases h2:0<V.length
  ·have d2:decide (((A.length+U.length:Nat):Int)<((A.length+U.length+V.length:Nat):Int))=true:=zXc (by omega);obtain⟨W,w1,w2⟩:=hs _ hn A U V B H rfl h h1 h2 hU hV hm hl;refine⟨W,w1,?_⟩;simp only[GMw,d1,d2,w2]
  ·have d2:decide (((A.length+U.length:Nat):Int)<((A.length+U.length+V.length:Nat):Int))=false:=zXd (by omega);have hv:V=[]:=Wk (by omega);refine⟨U++V,R6 hU hV (.inr hv),?_⟩;simp only[GMw,d1,d2];rw[VZ,CE h]
 ·have d1:decide ((A.length:Int)<((A.length+U.length:Nat):Int))=false:=zXd (by omega);have hu:U=[]:=Wk (by omega);refine⟨U++V,R6 hU hV (.inl hu),?_⟩;simp only[GMw,d1];rw[VZ,CE h]
theorem sym_j7 {H0 H:Aa}{A U V U2 V2 B:List Cl}{n:Nat}(hs:∀n',n'<n->SymOk p g f l0 self n')(hn:U.length+V.length<n)(hn2:U2.length+V2.length<n)(h:Dc H p g (A++(U++(V++(U2++(V2++B))))))(hU:E6 ltC U)(hV:E6 ltC V)(hU2:E6 ltC U2)(hV2:E6 ltC V2)
  (hm:∀c∈A++(U++(V++(U2++(V2++B)))),c∈l0)(hl:(A++(U++(V++(U2++(V2++B))))).length<1000000000) :
  ∃W W2,Srt ltC (U++V) W/\Srt ltC (U2++V2) W2/\Sh.f4b H0 self (dV p g (A++(U++(V++(U2++(V2++B))))).length) (.i6 (A.length:Int)) (.i6 ((A.length+U.length+V.length+U2.length+V2.length:Nat):Int)) f (.i6 ((A.length+U.length+V.length:Nat):Int)) (.i6 ((A.length+U.length:Nat):Int)) (.i6 ((A.length+U.length+V.length+U2.length:Nat):Int)) H =
   some (.ret (.tup []),BL H p g (A++(W++(W2++B)))):=by
 have second:∀(W:List Cl) (G:Aa),Srt ltC (U++V) W->G=BL H p g (A++(W++(U2++(V2++B))))->∃W2,Srt ltC (U2++V2) W2/\Sh.f4a H0 self (dV p g (A++(U++(V++(U2++(V2++B))))).length) (.i6 ((A.length+U.length+V.length+U2.length+V2.length:Nat):Int)) f (.i6 ((A.length+U.length+V.length:Nat):Int)) (.i6 ((A.length+U.length+V.length+U2.length:Nat):Int)) G =
   some (.ret (.tup []),BL H p g (A++(W++(W2++B)))):=λW G hW hG=>by
  have hWl:=hW.len;rw[VX]at hWl;have e1:A++(W++(U2++(V2++B)))=(A++W)++(U2++(V2++B)):=by rw[VZ]
  have hlen:((A++W)++(U2++(V2++B))).length=(A++(U++(V++(U2++(V2++B))))).length:=by simp only[VX];omega
  have hAW:(A++W).length=A.length+U.length+V.length:=by rw[VX];omega
  have hr:Dc G p g ((A++W)++(U2++(V2++B))):=by rw[hG,e1];exact Di h
  obtain⟨W2,w1,w2⟩:=sym_j8 (H0:=H0) hs hn2 hr hU2 hV2 (λc hc=>hm c (by
   rw[<-e1]at hc;simp only[Wn]at hc ⊢;rcases hc with hc | hc | hc | hc | hc
   ·exact .inl hc
   ·have:=(hW.st.mem J9).2 hc;rcases Wn.1 this with q | q
    ·exact .inr (.inl q)
    ·exact .inr (.inr (.inl q))
   ·exact .inr (.inr (.inr (.inl hc)))
   ·exact .inr (.inr (.inr (.inr (.inl hc))))
   ·exact .inr (.inr (.inr (.inr (.inr hc)))))) (by rw[hlen];exact hl)
  refine⟨W2,w1,?_⟩;rw[hlen,hAW]at w2;rw[w2,hG,B7,VZ]
 have d:∀t:Bool,True:=λ_=>trivial;unfold Sh.f4b;by_cases h1:0<U.length
 ·have d1:decide ((A.length:Int)<((A.length+U.length:Nat):Int))=true:=zXc (by omega);by_cases h2:0<V.length
  ·have d2:decide (((A.length+U.length:Nat):Int)<((A.length+U.length+V.length:Nat):Int))=true:=zXc (by omega);obtain⟨W,w1,w2⟩:=hs _ hn A U V (U2++(V2++B)) H rfl h h1 h2 hU hV hm hl;obtain⟨W2,w3,w4⟩:=second W _ w1 rfl;refine⟨W,W2,w1,w3,?_⟩;simp only[Am,Aj,Bg,Bk,B4,BS,GMw,d1,d2,w2];exact w4
  ·have d2:decide (((A.length+U.length:Nat):Int)<((A.length+U.length+V.length:Nat):Int))=false:=zXd (by omega);have hv:V=[]:=Wk (by omega);have w1:=R6 hU hV (.inr hv);obtain⟨W2,w3,w4⟩:=second (U++V) H w1 (by rw[VZ,CE h]);refine⟨_,W2,w1,w3,?_⟩;simp only[Am,Aj,Bg,Bk,B4,BS,GMw,d1,d2];exact w4
 ·have d1:decide ((A.length:Int)<((A.length+U.length:Nat):Int))=false:=zXd (by omega);have hu:U=[]:=Wk (by omega);have w1:=R6 hU hV (.inl hu);obtain⟨W2,w3,w4⟩:=second (U++V) H w1 (by rw[VZ,CE h]);refine⟨_,W2,w1,w3,?_⟩;simp only[Am,Aj,Bg,Bk,B4,BS,GMw,d1];exact w4

end
section
variable {p g:Nat}{f:Ab}{l0:List Cl}{A B:List Cl}
theorem sym_l6 {self:Ab->Ab->Ab->Ab->Ab->Aa->Out}(hf:Uu f l0){l:List Cl}{a m b mid n s0 r0 P:Nat}{H0 H:Aa}(h:Dc H p g l)(hm:∀c∈l,c∈l0)(tV:s0<=r0)(hr:r0<=l.length)(hP:∀c,s0<=c->c<r0->P-c<l.length/\c<=P)(hPl:P<2000000000)(hl:l.length<1000000000)
  (mono:∀c d,s0<=c->c<=d->d<r0->Sd ltC l P d=true->Sd ltC l P c=true) :
  ∃s,BsI (Sd ltC l P) s0 r0 s s/\∃rec,Ap (λmS vs H1=>Sh.ff H0 self mS (ag vs 0) (ag vs 1) (ag vs 2) (ag vs 3) (ag vs 4) (ag vs 5) (ag vs 6) (ag vs 7) (ag vs 8) (ag vs 9) H1) AU
    [dV p g l.length,.i6 (a:Int),.i6 (m:Int),.i6 (b:Int),f,.i6 (mid:Int),.i6 (n:Int),.i6 (s0:Int),.i6 (r0:Int),.i6 (P:Int)] H =
   Sh.ff H0 self rec (dV p g l.length) (.i6 (a:Int)) (.i6 (m:Int)) (.i6 (b:Int)) f (.i6 (mid:Int)) (.i6 (n:Int)) (.i6 (s:Int)) (.i6 (s:Int)) (.i6 (P:Int)) H:=by
 have key:=En (G:=λmS vs H1=>Sh.ff H0 self mS (ag vs 0) (ag vs 1) (ag vs 2) (ag vs 3) (ag vs 4) (ag vs 5) (ag vs 6) (ag vs 7) (ag vs 8) (ag vs 9) H1) (σ:=Nat×Nat)
  (λs vs H1=>BsI (Sd ltC l P) s0 r0 s.1 s.2/\vs=[dV p g l.length,.i6 (a:Int),.i6 (m:Int),.i6 (b:Int),f,.i6 (mid:Int),.i6 (n:Int),.i6 (s.1:Int),.i6 (s.2:Int),.i6 (P:Int)]/\H1=H) (λs=>s.2-s.1) (λs=>¬s.1<s.2) (λs vs H1 hI hd=>?_)
  (s:=(s0,r0)) (vs:=[dV p g l.length,.i6 (a:Int),.i6 (m:Int),.i6 (b:Int),f,.i6 (mid:Int),.i6 (n:Int),.i6 (s0:Int),.i6 (r0:Int),.i6 (P:Int)]) (H:=H) ⟨.start tV,rfl,rfl⟩ (by dsimp only;omega)
 ·obtain⟨⟨i,j⟩,vs,H1,hd,⟨hI,rfl,rfl⟩,rec,aB⟩:=key;dsimp only at hI hd aB;obtain⟨q1,q2,q3⟩:=hI.le;have e:j=i:=by omega
  subst e;exact⟨j,hI,rec,aB⟩
 ·obtain⟨i,j⟩:=s;obtain⟨hI,rfl,rfl⟩:=hI;dsimp only at hI hd ⊢;obtain⟨q1,q2,q3⟩:=hI.le;have hij:i<j:=by omega
  obtain⟨k,hk⟩:∃k,k=(i+j) / 2:=⟨_,rfl⟩;obtain⟨w1,w2,w3,w4⟩:=OL (i:=i) (j:=j) (by omega) (by omega);rw[<-hk]at w3 w4;have cP:k<l.length:=by omega
  obtain⟨hPk,Zp⟩:=hP k (by omega) (by omega);have c1:=hf self l[P-k] (hm _ (We hPk)) l[k] (hm _ (We cP));have bZ:decide ((i:Int)<(j:Int))=true:=zXc (by omega);have eY:=Au (show k<9223372036854775807 by omega);have sJ:IntKind.i64.wrap ((P:Int)-(k:Int))=((P-k:Nat):Int):=by rw[Ao] <;> omega
  have hlt:IS ltC l (P-k) k=ltC l[P-k] l[k]:=RE hPk cP;have hp:Sd ltC l P k = !ltC l[P-k] l[k]:=by unfold Sd;rw[hlt]
  cases hc:ltC l[P-k] l[k]with
  | false=>
   refine⟨(k+1,j),_,_,by dsimp only;omega,⟨hI.yes mono (by omega) (by omega) (by rw[hp,hc];rfl),rfl,rfl⟩,λrec=>?_⟩;unfold Sh.ff;simp only[Am,Aj,Bg,Bk,B4,BS,GMw,bZ,w1,w2,w3,w4,sJ,BW cP,BW hPk,C5 h cP,C5 h hPk,BP,c1,B9,KQ,hc,eY]
  | true=>
   refine⟨(i,k),_,_,by dsimp only;omega,⟨hI.no mono (by omega) (by omega) (by rw[hp,hc];rfl),rfl,rfl⟩,λrec=>?_⟩;unfold Sh.ff;simp only[Am,Aj,Bg,Bk,B4,BS,GMw,bZ,w1,w2,w3,w4,sJ,BW cP,BW hPk,C5 h cP,C5 h hPk,BP,c1,B9,KQ,hc]
theorem sym_step (hf:Uu f l0){d n:Nat}(hs:∀n',n'<n->SymOk p g f l0 (Sh.f3 d) n'):SymOk p g f l0 (Sh.f3 (d+1)) n:=by
 intro A U V B H hn h hUp hVp hU hV hm hl;obtain⟨l,hL⟩:∃l,l=A++(U++(V++B)):=⟨_,rfl⟩;have hlen:l.length=A.length+(U.length+(V.length+B.length)):=by rw[hL];simp only[VX]
 have gQ:l.length<1000000000:=by rw[hL];exact hl
 show ∃W,_/\Sh.f72 (Sh.f3 d) _ _ _ _ _ H=_;unfold Sh.f72;have cR:IntKind.i64.wrap (((A.length+U.length:Nat):Int)-(A.length:Int))=(U.length:Int):=by rw[Ao] <;> omega
 by_cases h1:U.length=1
 ·obtain⟨x,rfl⟩:=XJ.1 h1;have rX:((([x]:List Cl).length:Int) == 1)=true:=by simp
  have iB:l[A.length]? = some x:=by rw[hL];simp
  have eG:∀c,A.length+1<=c->c<A.length+1+V.length->∃hc:c-(A.length+1)<V.length,IS ltC l c A.length=ltC V[c-(A.length+1)] x:=λc h3 h4=>by
   have hc:c-(A.length+1)<V.length:=by omega
   refine⟨hc,?_⟩;have e:l[c]? = some V[c-(A.length+1)]:=by
    rw[hL,at_V rfl rfl (by simpa using h3) (by simpa using h4)];rfl
   unfold IS;rw[iB,e]
  obtain⟨s,b1,b2⟩:=sym_l1 (self:=Sh.f3 d) (H0:=H) (a:=A.length) (m:=A.length+1) (b:=A.length+1+V.length) hf (l:=l) (by rw[hL];exact h) (by rw[hL];exact hm) (by rw[hlen];simp only[zXj,zXk];omega) (by omega) (by rw[hlen];simp only[zXj,zXk];omega) gQ (λc d mP kL mO lR=>by
   obtain⟨e1,e2⟩:=eG c mP (by omega);obtain⟨e3,e4⟩:=eG d (by omega) mO;rw[e2];rw[e4]at lR;cases e:ltC V[c-(A.length+1)] x with
   | true=>rfl
   | false=>
    have:=HQ hV J9 (i:=c-(A.length+1)) (j:=d-(A.length+1)) (by omega) e3;have:=J9.neg _ _ _ this e;rw[lR]at this;cases this)
  obtain⟨⟨g1,_,g2⟩,g3,g4⟩:=b1;have bJ:=sym_up (H0:=H) (p:=p) (g:=g) (l:=l) (i:=s) (a:=A.length) (H:=H) (by rw[hL];exact h) (by rw[hlen];simp only[zXj,zXk]at *;omega) (by omega) gQ;have hres:=upR_ok A B x V (s-1-A.length) (by omega);refine⟨V.take (s-1-A.length)++([x]++V.drop (s-1-A.length)),one_up J9 hV (λy hy=>?_) (λy hy=>?_),?_⟩
  ·obtain⟨i,hi,hi2,rfl⟩:=Iw hy;have:=g3 (A.length+1+i) (by omega) (by omega);obtain⟨e1,e2⟩:=eG (A.length+1+i) (by omega) (by omega);rw[e2]at this;have e3:A.length+1+i-(A.length+1)=i:=by omega
   simp only[e3]at this;exact this
  ·obtain⟨i,hi,hi2,rfl⟩:=Ix hy;have:=g4 (A.length+1+i) (by omega) (by omega);obtain⟨e1,e2⟩:=eG (A.length+1+i) (by omega) (by omega);rw[e2]at this;have e3:A.length+1+i-(A.length+1)=i:=by omega
   simp only[e3]at this;exact this
  ·rw[<-hL];simp only[GMw,cR,rX];have eb:A.length+([x]:List Cl).length=A.length+1:=rfl;rw[eb,b2,bJ,hL,hres]
 ·have rX:((U.length:Int) == 1)=false:=by simp;omega
  have cC:IntKind.i64.wrap (((A.length+U.length+V.length:Nat):Int)-((A.length+U.length:Nat):Int))=(V.length:Int):=by rw[Ao] <;> omega
  by_cases h2:V.length=1
  ·obtain⟨y,rfl⟩:=XJ.1 h2;have bZ:((([y]:List Cl).length:Int) == 1)=true:=by simp
   have iB:l[A.length+U.length]? = some y:=by
    rw[hL,at_V rfl rfl (VV _) (by simp)];simp
   have eG:∀c,A.length<=c->c<A.length+U.length->∃hc:c-A.length<U.length,IS ltC l (A.length+U.length) c=ltC y U[c-A.length]:=λc h3 h4=>by
    have hc:c-A.length<U.length:=by omega
    refine⟨hc,?_⟩;have e:l[c]? = some U[c-A.length]:=by rw[hL,at_U rfl h3 h4]
    unfold IS;rw[iB,e]
   obtain⟨s,b1,b2⟩:=sym_l3 (self:=Sh.f3 d) (H0:=H) (a:=A.length) (m:=A.length+U.length) hf (l:=l) (by rw[hL];exact h) (by rw[hL];exact hm) (by omega) (by rw[hlen];simp only[zXj,zXk];omega) gQ (λc d mP kL mO lR=>by
    obtain⟨e1,e2⟩:=eG c mP (by omega);obtain⟨e3,e4⟩:=eG d (by omega) mO;rw[e2];rw[e4]at lR;simp only[WU]at lR ⊢;have:=HQ hU J9 (i:=c-A.length) (j:=d-A.length) (by omega) e3;exact J9.neg _ _ _ lR this)
   obtain⟨⟨g1,_,g2⟩,g3,g4⟩:=b1;have iY:=sym_dn (H0:=H) (p:=p) (g:=g) (l:=l) (i:=s) (m:=A.length+U.length) (H:=H) (by rw[hL];exact h) g2 (by rw[hlen];simp only[zXj,zXk];omega) gQ;have hres:=dnR_ok A B y U (A.length+U.length-s) (by omega);have ek:U.length-(A.length+U.length-s)=s-A.length:=by omega
   rw[ek]at hres;refine⟨U.take (s-A.length)++([y]++U.drop (s-A.length)),one_dn J9 hU (λx hx=>?_) (λx hx=>?_),?_⟩
   ·obtain⟨i,hi,hi2,rfl⟩:=Iw hx;have:=g3 (A.length+i) (by omega) (by omega);obtain⟨e1,e2⟩:=eG (A.length+i) (by omega) (by omega);rw[e2]at this;have e3:A.length+i-A.length=i:=by omega
    simp only[e3,WU]at this;exact this
   ·obtain⟨i,hi,hi2,rfl⟩:=Ix hx;have:=g4 (A.length+i) (by omega) (by omega);obtain⟨e1,e2⟩:=eG (A.length+i) (by omega) (by omega);rw[e2]at this;have e3:A.length+i-A.length=i:=by omega
    simp only[e3,Yr]at this;exact this
   ·rw[<-hL];simp only[GMw,cR,cC,rX,bZ];rw[b2,iY,hL,hres]
  ·have bZ:((V.length:Int) == 1)=false:=by simp;omega
   obtain⟨a,ha⟩:∃a,a=A.length:=⟨_,rfl⟩;obtain⟨m,hmm⟩:∃m,m=A.length+U.length:=⟨_,rfl⟩;obtain⟨b,hb⟩:∃b,b=A.length+U.length+V.length:=⟨_,rfl⟩;obtain⟨mid,jL⟩:∃mid,mid=(a+b) / 2:=⟨_,rfl⟩;obtain⟨w1,w2,w3,w4⟩:=OL (i:=a) (j:=b) (by omega) (by omega);rw[<-jL]at w3 w4;have wR:IntKind.i64.wrap ((mid:Int)+(m:Int))=((mid+m:Nat):Int):=by rw[Ao] <;> omega
   obtain⟨s0,hs0⟩:∃s0,s0=if mid<m then mid+m-b else a:=⟨_,rfl⟩
   obtain⟨r0,hr0⟩:∃r0,r0=if mid<m then mid else m:=⟨_,rfl⟩
   have tV:s0<=r0/\r0<=m/\a<=s0/\mid+m<=s0+b/\r0<=mid:=by
    by_cases hc:mid<m
    ·rw[if_pos hc]at hs0 hr0;omega
    ·rw[if_neg hc]at hs0 hr0;omega
   obtain⟨z1,z2,z3,z4,z5⟩:=tV;obtain⟨s,b1,rec,b2⟩:=sym_l6 (self:=Sh.f3 d) (H0:=H) (a:=a) (m:=m) (b:=b) (mid:=mid) (n:=mid+m) (s0:=s0) (r0:=r0) (P:=mid+m-1) hf (l:=l) (H:=H) (by rw[hL];exact h) (by rw[hL];exact hm) z1 (by omega) (λc h3 h4=>by omega) (by omega) (by rw[hL];exact hl)
    (λc e h3 h4 h5 h6=>by
     rw[hL]at h6 ⊢;exact symP_mono J9 hU hV ha.symm (show a+U.length=m by omega) (by omega) h4 (by omega) (by omega) (by omega) h6)
   have b1':=b1;rw[hL]at b1';obtain⟨p1,p2,p3,p4,p5,p6,p7⟩:=sym_split J9 hU hV ha.symm (show a+U.length=m by omega) (show m+V.length=b by omega) jL hUp hVp hs0 hr0 b1';have l1:(U.take (s-a)).length=s-a:=by rw[Wj];omega
   have l2:(V.take (mid-s)).length=mid-s:=by rw[Wj];omega
   have l3:(U.drop (s-a)).length=m-s:=by rw[Ws];omega
   have l4:(V.drop (mid-s)).length=b-(mid+m-s):=by rw[Ws];omega
   have sU1:E6 ltC (U.take (s-a)):=Xg (Yv _ _) hU;have sU2:E6 ltC (U.drop (s-a)):=Xg (Yy _ _) hU;have sV1:E6 ltC (V.take (mid-s)):=Xg (Yv _ _) hV;have sV2:E6 ltC (V.drop (mid-s)):=Xg (Yy _ _) hV;have eU:U.take (s-a)++U.drop (s-a)=U:=WC _ _;have eV:V.take (mid-s)++V.drop (mid-s)=V:=WC _ _;have bO:∀c,c∈A++(U.take (s-a)++(V.take (mid-s)++(U.drop (s-a)++(V.drop (mid-s)++B))))->c∈l0:=λc hc=>hm c (by
    simp only[Wn]at hc ⊢;rcases hc with q | q | q | q | q | q
    ·exact .inl q
    ·exact .inr (.inl (WZ q))
    ·exact .inr (.inr (.inl (WZ q)))
    ·exact .inr (.inl (X9 q))
    ·exact .inr (.inr (.inl (X9 q)))
    ·exact .inr (.inr (.inr q)))
   have hlen2:(A++(U.take (s-a)++(V.take (mid-s)++(U.drop (s-a)++(V.drop (mid-s)++B))))).length=l.length:=by
    rw[hlen];simp only[VX,l1,l2,l3,l4];omega
   generalize U.take (s-a)=U1 at *;generalize U.drop (s-a)=U2 at *;generalize V.take (mid-s)=V1 at *;generalize V.drop (mid-s)=V2 at *;have rest:∀G,G=BL H p g (A++(U1++(V1++(U2++(V2++B)))))->∃W W2,Srt ltC (U1++V1) W/\Srt ltC (U2++V2) W2/\Sh.f4b H (Sh.f3 d) (dV p g l.length) (.i6 (a:Int)) (.i6 (b:Int)) f (.i6 (mid:Int)) (.i6 (s:Int)) (.i6 ((mid+m-s:Nat):Int)) G =
     some (.ret (.tup []),BL H p g (A++(W++(W2++B)))):=λG hG=>by
    obtain⟨W,W2,k1,k2,k3⟩:=sym_j7 (H0:=H) (H:=G) (p:=p) (g:=g) (f:=f) (l0:=l0) (A:=A) (U:=U1) (V:=V1) (U2:=U2) (V2:=V2) (B:=B) (n:=n) hs (by omega) (by omega) (by rw[hG];exact Di h) sU1 sV1 sU2 sV2 bO (by rw[hlen2,hL];exact hl);refine⟨W,W2,k1,k2,?_⟩;rw[hlen2,<-ha,show a+U1.length=s by omega,show s+V1.length=mid by omega,show mid+U2.length=mid+m-s by omega,show mid+m-s+V2.length=b by omega]at k3;rw[k3,hG,B7]
   have tN:IntKind.i64.wrap (((mid+m:Nat):Int)-(s:Int))=((mid+m-s:Nat):Int):=by rw[Ao] <;> omega
   have hds:decide ((s:Int)<(s:Int))=false:=zXd (by omega);have sJ:IntKind.i64.wrap (((mid+m:Nat):Int)-1)=((mid+m-1:Nat):Int):=by rw[Ao] <;> omega
   have after:∃W W2,Srt ltC (U1++V1) W/\Srt ltC (U2++V2) W2/\Sh.ff H (Sh.f3 d) rec (dV p g l.length) (.i6 (a:Int)) (.i6 (m:Int)) (.i6 (b:Int)) f (.i6 (mid:Int)) (.i6 ((mid+m:Nat):Int)) (.i6 (s:Int)) (.i6 (s:Int)) (.i6 ((mid+m-1:Nat):Int)) H =
     some (.ret (.tup []),BL H p g (A++(W++(W2++B)))):=by
    by_cases t1:s<m
    ·have c1:decide ((s:Int)<(m:Int))=true:=zXc (by omega);by_cases t2:m<mid+m-s
     ·have c2:decide ((m:Int)<((mid+m-s:Nat):Int))=true:=zXc (by omega);have e1:l=(A++U1)++(U2++(V1++(V2++B))):=by
       rw[hL,<-eU,<-eV];simp only[VZ]
      have nC:=rotate_ok (p:=p) (g:=g) (f:=f) (a:=s) (b:=mid+m-s) (m:=m) (A:=A++U1) (U:=U2) (V:=V1) (B:=V2++B) (H:=H) (by rw[<-e1,hL];exact h) (by rw[VX];omega) (by omega) (by omega) (by omega) (by omega) (by rw[<-e1,hL];exact hl);rw[<-e1]at nC;obtain⟨W,W2,k1,k2,k3⟩:=rest _ rfl;refine⟨W,W2,k1,k2,?_⟩;have e2:(A++U1)++((V1++U2)++(V2++B))=A++(U1++(V1++(U2++(V2++B)))):=by simp only[VZ]
      rw[e2]at nC;unfold Sh.ff;simp only[Am,Aj,Bg,Bk,B4,BS,DG,GMw,hds,tN,c1,c2,nC];exact k3
     ·have c2:decide ((m:Int)<((mid+m-s:Nat):Int))=false:=zXd (by omega);have hv1:V1=[]:=Wk (by omega);obtain⟨W,W2,k1,k2,k3⟩:=rest H (by
       rw[show A++(U1++(V1++(U2++(V2++B))))=A++(U++(V++B))by
        rw[<-eU,<-eV,hv1];simp only[VZ,List.nil_append],CE h])
      refine⟨W,W2,k1,k2,?_⟩;unfold Sh.ff;simp only[Am,Aj,Bg,Bk,B4,BS,DG,GMw,hds,tN,c1,c2];exact k3
    ·have c1:decide ((s:Int)<(m:Int))=false:=zXd (by omega);have tP:U2=[]:=Wk (by omega);obtain⟨W,W2,k1,k2,k3⟩:=rest H (by
      rw[show A++(U1++(V1++(U2++(V2++B))))=A++(U++(V++B))by
       rw[<-eU,<-eV,tP];simp only[VZ,List.nil_append,Wx],CE h])
     refine⟨W,W2,k1,k2,?_⟩;unfold Sh.ff;simp only[Am,Aj,Bg,Bk,B4,BS,DG,GMw,hds,tN,c1];exact k3
   obtain⟨W,W2,k1,k2,k3⟩:=after;have gN:Srt ltC (U++V) (W++W2):=by
    have l5:U.take U1.length=U1/\U.drop U1.length=U2:=by rw[<-eU];exact⟨Yc,Ye⟩
    have l6:V.take V1.length=V1/\V.drop V1.length=V2:=by rw[<-eV];exact⟨Yc,Ye⟩
    exact P5 (i:=U1.length) (k:=V1.length) J9 hU hV (by rw[l5.2,l6.1];exact p1) (by rw[l5.1,l6.2];exact p2) (by rw[l5.1,l6.1];exact k1) (by rw[l5.2,l6.2];exact k2)
   refine⟨W++W2,gN,?_⟩;rw[<-hL,<-hb,<-hmm,<-ha];rw[<-hmm,show m+V.length=b by omega]at cC;rw[<-hmm,<-ha]at cR;have j5:∀x y:Nat,x=s0->y=r0->Sh.f71 H (Sh.f3 d) (dV p g l.length) (.i6 (a:Int)) (.i6 (m:Int)) (.i6 (b:Int)) f (.i6 (mid:Int)) (.i6 ((mid+m:Nat):Int)) (.i6 (x:Int)) (.i6 (y:Int)) H=some (.ret (.tup []),BL H p g (A++((W++W2)++B))):=λx y hx hy=>by
    subst hx;subst hy;unfold Sh.f71;simp only[GMw,sJ];rw[b2,k3,VZ]
   by_cases hc:mid<m
   ·have c3:decide ((m:Int)>(mid:Int))=true:=zXc (by omega);have yS:IntKind.i64.wrap (((mid+m:Nat):Int)-(b:Int))=((mid+m-b:Nat):Int):=by
     rw[if_pos hc]at hs0;rw[Ao] <;> omega
    simp only[Am,Aj,Bg,Bk,B4,BS,DG,GMw,cR,cC,rX,bZ,w1,w2,w3,w4,wR,c3,yS];exact j5 _ _ (by rw[hs0,if_pos hc]) (by rw[hr0,if_pos hc])
   ·have c3:decide ((m:Int)>(mid:Int))=false:=zXd (by omega);simp only[Am,Aj,Bg,Bk,B4,BS,DG,GMw,cR,cC,rX,bZ,w1,w2,w3,w4,wR,c3];exact j5 _ _ (by rw[hs0,if_neg hc]) (by rw[hr0,if_neg hc])
theorem sym_all (hf:Uu f l0):∀d n,n<d->SymOk p g f l0 (Sh.f3 d) n
 | 0,n,h=>absurd h (by omega)
 | d+1,n,h=>sym_step hf λn' mF=>sym_all hf d n' (by omega)

end
theorem Stg.split {w n a:Nat}{l l':List Cl}(hw:0<w)(hd:w ∣ a)(hn:n<=w)(hl:a+n<=l.length)(h:Stg ltC w l a l') :
  ∃A,A.length=a/\l'=A++((l.drop a).take n++l.drop (a+n))/\(∀c∈A,c∈l)/\∀P2,Srt ltC ((l.drop a).take n) P2->Stg ltC w l (a+n) (A++(P2++l.drop (a+n))):=by
 obtain⟨P,h1,hP,hst,hb⟩:=h.ex;refine⟨P,hP,?_,λc hc=>?_,λP2 h2=>?_⟩
 ·rw[h1]
  congr 1
  rw[<-WY,WC]
 ·exact WZ ((hst.mem J9).2 hc)
 ·have hlen:P2.length=n:=by rw[h2.len,Wj,Ws];omega
  refine⟨P++P2,by rw[VZ],by rw[VX,hP,hlen],?_,NC.app hw (by rw[hP];exact hd) hb h2.srt (by omega)⟩;rw[List.take_add];exact hst.app h2.st
theorem Stg.mem {w a:Nat}{l l':List Cl}(h:Stg ltC w l a l'){c:Cl}(hc:c∈l'):c∈l:=by
 obtain⟨P,h1,hP,hst,hb⟩:=h.ex;rw[h1]at hc;rcases Wn.1 hc with q | q
 ·exact WZ ((hst.mem J9).2 q)
 ·exact X9 q
section
variable {p g:Nat}{f:Ab}{l0:List Cl}
theorem Vr (hf:TW AD f l0){l L:List Cl}{a n w:Nat}{H:Aa}(h:Dc H p g L)(hm:∀c∈l,c∈l0)(hst:Stg ltC w l a L)(hw:0<w)(hd:w ∣ a)(hn:n<=w)(hal:a+n<=l.length)(hl:l.length<1000000000) :
  ∃L',Stg ltC w l (a+n) L'/\Sh.fm (dV p g l.length) (.i6 (a:Int)) (.i6 ((a+n:Nat):Int)) f H=some (.ret (.tup []),BL H p g L'):=by
 have hlen:=hst.len (by omega);have cG:=ins_sort (a:=a) (b:=a+n) hf h (λc hc=>hm c (hst.mem hc)) (by omega) (by omega) (by omega);rw[hlen]at cG;obtain⟨A,hA,hL,_,hP⟩:=hst.split hw hd hn hal;by_cases h0:n=0
 ·subst h0;refine⟨L,?_,?_⟩
  ·rw[Nat.add_zero];exact hst
  ·rw[cG]
   congr 3
   rw[show a+0-a-1=0 by omega];rfl
 ·have hSl:((l.drop a).take n).length=n:=by rw[Wj,Ws];omega
  obtain⟨P,q1,q2⟩:=insN_ok J9 A (n-1) ((l.drop a).take n) (l.drop (a+n)) (by omega);refine⟨_,hP P q2,?_⟩;rw[cG,show a+n-a-1=n-1 by omega,<-q1,<-hL,hA]
theorem U8 (hf:Uu f l0){l L:List Cl}{a n bs:Nat}{H:Aa}(h:Dc H p g L)(hm:∀c∈l,c∈l0)(hst:Stg ltC (2*bs) l a L)(mQ:0<bs)(hd:2*bs ∣ a)(bJ:NC ltC bs l)(hn:bs<n)(hn2:n<=2*bs)(hal:a+n<=l.length)(hl:l.length<1000000000) :
  ∃L',Stg ltC (2*bs) l (a+n) L'/\Sh.f3 AU (dV p g l.length) (.i6 (a:Int)) (.i6 ((a+bs:Nat):Int)) (.i6 ((a+n:Nat):Int)) f H=some (.ret (.tup []),BL H p g L'):=by
 have hlen:=hst.len (by omega);obtain⟨A,hA,hL,_,hP⟩:=hst.split (by omega) hd hn2 hal;have pB:bs ∣ a:=Nat.dvd_trans ⟨2,by omega⟩ hd;have sU:=bJ.block mQ pB bs (VV _);have sV:=bJ.block mQ (show bs ∣ a+bs from (YK pB).2 (Nat.dvd_refl _)) (n-bs) (by omega);have hS:(l.drop a).take n=(l.drop a).take bs++(l.drop (a+bs)).take (n-bs):=by
  rw[show n=bs+(n-bs)by omega,List.take_add,WY]
  congr 2;omega
 have lU:((l.drop a).take bs).length=bs:=by rw[Wj,Ws];omega
 have lV:((l.drop (a+bs)).take (n-bs)).length=n-bs:=by rw[Wj,Ws];omega
 rw[hS]at hL hP;rw[VZ]at hL;have aE:=sym_all (p:=p) (g:=g) hf AU (((l.drop a).take bs).length+((l.drop (a+bs)).take (n-bs)).length) (by rw[Dr];omega) A ((l.drop a).take bs) ((l.drop (a+bs)).take (n-bs)) (l.drop (a+n)) H rfl (by rw[<-hL];exact h) (by omega) (by omega) sU sV
  (λc hc=>by rw[<-hL]at hc;exact hm c (hst.mem hc)) (by rw[<-hL,hlen];exact hl)
 obtain⟨W,w1,w2⟩:=aE;refine⟨_,hP W w1,?_⟩;rw[<-hL,hlen,hA,lU,lV,show a+bs+(n-bs)=a+n by omega]at w2;exact w2
theorem sym_round (hf:Uu f l0){l:List Cl}{bs:Nat}{H0 H:Aa}(h:Dc H p g l)(hm:∀c∈l,c∈l0)(mQ:0<bs)(bJ:NC ltC bs l)(vY:bs<l.length)(hl:l.length<1000000000) :
  ∃L,F9 ltC l L/\NC ltC (2*bs) L/\L.length=l.length/\∀aA:LK,Ap (λdB vs H1=>Sh.f1q H0 aA dB (ag vs 0) (ag vs 1) (ag vs 2) (ag vs 3) (ag vs 4) (ag vs 5) H1) AU [dV p g l.length,.i6 (l.length:Int),f,.i6 (bs:Int),.i6 0,.i6 ((2*bs:Nat):Int)] H =
   aA [dV p g l.length,.i6 (l.length:Int),f,.i6 ((2*bs:Nat):Int)] (BL H p g L):=by
 have key:=QU (ι:=LK) (G:=λaA dB vs H1=>Sh.f1q H0 aA dB (ag vs 0) (ag vs 1) (ag vs 2) (ag vs 3) (ag vs 4) (ag vs 5) H1) (σ:=Nat×List Cl)
  (λs vs H1=>Stg ltC (2*bs) l s.1 s.2/\2*bs ∣ s.1/\s.1<=l.length/\vs=[dV p g l.length,.i6 (l.length:Int),f,.i6 (bs:Int),.i6 (s.1:Int),.i6 ((s.1+2*bs:Nat):Int)]/\H1=BL H p g s.2) (λs=>l.length-s.1) (λs=>¬s.1+2*bs<=l.length) (λs vs H1 hI hd=>?_)
  (s:=(0,l)) (vs:=[dV p g l.length,.i6 (l.length:Int),f,.i6 (bs:Int),.i6 0,.i6 ((2*bs:Nat):Int)]) (H:=H) ⟨.start _ _,Nat.dvd_zero _,Wv _,by simp,(CE h).symm⟩ (by dsimp only;omega)
 ·obtain⟨⟨a,L⟩,vs,H1,hd,⟨hst,gW,hal,rfl,rfl⟩,aB⟩:=key;dsimp only at hst gW hal hd aB;have hr:Dc (BL H p g L) p g L:=Di h;have d1:decide (((a+2*bs:Nat):Int)<=(l.length:Int))=false:=zXd (by omega);have cR:IntKind.i64.wrap ((a:Int)+(bs:Int))=((a+bs:Nat):Int):=by rw[Ao] <;> omega
  have cC:IntKind.i64.wrap ((bs:Int)*2)=((2*bs:Nat):Int):=by rw[Ao] <;> omega
  by_cases uQ:a+bs<l.length
  ·have d2:decide (((a+bs:Nat):Int)<(l.length:Int))=true:=zXc (by omega);obtain⟨L',q1,q2⟩:=U8 (n:=l.length-a) hf hr hm hst mQ gW bJ (by omega) (by omega) (by omega) hl;rw[show a+(l.length-a)=l.length by omega]at q1 q2;obtain⟨r1,r2,r3⟩:=q1.all;refine⟨L',r1,r2,r3,λaA=>?_⟩;obtain⟨rec,aB⟩:=aB aA;rw[aB];unfold Sh.f1q Sh.f73;simp only[Am,Aj,Bg,Bk,B4,BS,DG,GMw,d1,cR,d2,q2,cC,B7]
  ·have d2:decide (((a+bs:Nat):Int)<(l.length:Int))=false:=zXd (by omega);obtain⟨A,hA,hL,_,hP⟩:=hst.split (n:=l.length-a) (by omega) gW (by omega) (by omega);have pB:bs ∣ a:=Nat.dvd_trans ⟨2,by omega⟩ gW;have q1:=hP _ ⟨bJ.block mQ pB (l.length-a) (by omega),.refl _,rfl⟩;rw[<-hL,show a+(l.length-a)=l.length by omega]at q1;obtain⟨r1,r2,r3⟩:=q1.all;refine⟨L,r1,r2,r3,λaA=>?_⟩;obtain⟨rec,aB⟩:=aB aA;rw[aB];unfold Sh.f1q Sh.f73;simp only[Am,Aj,Bg,Bk,B4,BS,DG,GMw,d1,cR,d2,cC]
 ·obtain⟨a,L⟩:=s;obtain⟨hst,gW,hal,rfl,rfl⟩:=hI;dsimp only at hst gW hal hd ⊢;have hr:Dc (BL H p g L) p g L:=Di h;obtain⟨L',q1,q2⟩:=U8 (n:=2*bs) hf hr hm hst mQ gW bJ (by omega) (by omega) (by omega) hl;have d1:decide (((a+2*bs:Nat):Int)<=(l.length:Int))=true:=zXc (by omega);have cR:IntKind.i64.wrap ((a:Int)+(bs:Int))=((a+bs:Nat):Int):=by rw[Ao] <;> omega
  have cC:IntKind.i64.wrap (2*(bs:Int))=((2*bs:Nat):Int):=by rw[Ao] <;> omega
  have jD:IntKind.i64.wrap (((a+2*bs:Nat):Int)+((2*bs:Nat):Int))=((a+2*bs+2*bs:Nat):Int):=by rw[Ao] <;> omega
  refine⟨(a+2*bs,L'),_,_,by dsimp only;omega,⟨q1,(YK gW).2 (Nat.dvd_refl _),by dsimp only;omega,rfl,rfl⟩,λaA rec=>?_⟩;unfold Sh.f1q;simp only[Am,Aj,Bg,Bk,B4,BS,DG,GMw,d1,cR,q2,cC,jD,B7]
theorem stable_ok (hf1:TW AD f l0)(hf2:Uu f l0){l:List Cl}{H:Aa}(h:Dc H p g l)(hm:∀c∈l,c∈l0)(hl:l.length<1000000000) :
  ∃S,E6 ltC S/\F9 ltC l S/\S.length=l.length/\Sh.f1r (dV p g l.length) (.i6 (l.length:Int)) f H=some (.ret (.tup []),BL H p g S):=by
 unfold Sh.f1r;have rounds:∀(L:List Cl),F9 ltC l L->NC ltC 20 L->L.length=l.length->∃S,E6 ltC S/\F9 ltC l S/\S.length=l.length /\
   Ap (λaA vs H1=>Sh.f15 H aA (ag vs 0) (ag vs 1) (ag vs 2) (ag vs 3) H1) AU [dV p g l.length,.i6 (l.length:Int),f,.i6 20] (BL H p g L)=some (.ret (.tup []),BL H p g S):=λL hL1 hL2 hL3=>by
  have key:=En (G:=λaA vs H1=>Sh.f15 H aA (ag vs 0) (ag vs 1) (ag vs 2) (ag vs 3) H1) (σ:=Nat×List Cl)
   (λs vs H1=>(F9 ltC l s.2/\NC ltC s.1 s.2/\s.2.length=l.length/\0<s.1)/\vs=[dV p g l.length,.i6 (l.length:Int),f,.i6 (s.1:Int)]/\H1=BL H p g s.2) (λs=>l.length-s.1) (λs=>¬s.1<l.length) (λs vs H1 hI hd=>?_)
   (s:=(20,L)) (vs:=[dV p g l.length,.i6 (l.length:Int),f,.i6 20]) (H:=BL H p g L) ⟨⟨hL1,hL2,hL3,Nat.succ_pos _⟩,rfl,rfl⟩ (by dsimp only;omega)
  ·obtain⟨⟨bs,S⟩,vs,H1,hd,⟨⟨i1,i2,i3,i4⟩,rfl,rfl⟩,rec,aB⟩:=key;dsimp only at i1 i2 i3 i4 hd aB;have d1:decide ((bs:Int)<(l.length:Int))=false:=zXd (by omega);refine⟨S,i2.whole (by omega),i1,i3,?_⟩;rw[aB];unfold Sh.f15;simp only[Am,Aj,Bg,Bk,B4,GMw,d1]
  ·obtain⟨bs,L⟩:=s;obtain⟨⟨i1,i2,i3,i4⟩,rfl,rfl⟩:=hI;dsimp only at i1 i2 i3 i4 hd ⊢;have hr:Dc (BL H p g L) p g L:=Di h;have d1:decide ((bs:Int)<(l.length:Int))=true:=zXc (by omega);have cR:IntKind.i64.wrap (2*(bs:Int))=((2*bs:Nat):Int):=by rw[Ao] <;> omega
   obtain⟨L',q1,q2,q3,q4⟩:∃L',F9 ltC L L'/\NC ltC (2*bs) L'/\L'.length=L.length/\∀aA:LK,Sh.f15 H aA (dV p g l.length) (.i6 (l.length:Int)) f (.i6 (bs:Int)) (BL H p g L)=aA [dV p g l.length,.i6 (l.length:Int),f,.i6 ((2*bs:Nat):Int)] (BL H p g L'):=by
    obtain⟨L',q1,q2,q3,q4⟩:=sym_round (H0:=H) hf2 hr (λc hc=>hm c ((i1.mem J9).2 hc)) i4 i2 (by omega) (by omega);rw[i3]at q4;refine⟨L',q1,q2,q3,λaA=>?_⟩;unfold Sh.f15;simp only[GMw,d1,cR];rw[q4 aA,B7]
   refine⟨(2*bs,L'),_,_,by dsimp only;omega,⟨⟨i1.trans q1,q2,by dsimp only;omega,by dsimp only;omega⟩,rfl,rfl⟩,λrec=>?_⟩;simp only[Am,Aj,Bg,Bk,B4];exact q4 rec
 have key:=En (G:=λrec1 vs H1=>Sh.f2e H rec1 (ag vs 0) (ag vs 1) (ag vs 2) (ag vs 3) (ag vs 4) (ag vs 5) H1) (σ:=Nat×List Cl)
  (λs vs H1=>(Stg ltC 20 l s.1 s.2/\20 ∣ s.1/\s.1<=l.length)/\vs=[dV p g l.length,.i6 (l.length:Int),f,.i6 20,.i6 (s.1:Int),.i6 ((s.1+20:Nat):Int)]/\H1=BL H p g s.2) (λs=>l.length-s.1) (λs=>¬s.1+20<=l.length) (λs vs H1 hI hd=>?_)
  (s:=(0,l)) (vs:=[dV p g l.length,.i6 (l.length:Int),f,.i6 20,.i6 0,.i6 20]) (H:=H) ⟨⟨.start _ _,Nat.dvd_zero _,Wv _⟩,rfl,(CE h).symm⟩ (by dsimp only;omega)
 ·obtain⟨⟨a,L⟩,vs,H1,hd,⟨⟨hst,gW,hal⟩,rfl,rfl⟩,rec,aB⟩:=key;dsimp only at hst gW hal hd aB;have hr:Dc (BL H p g L) p g L:=Di h;obtain⟨L',q1,q2⟩:=Vr (n:=l.length-a) hf1 hr hm hst (by decide) gW (by omega) (by omega) hl;rw[show a+(l.length-a)=l.length by omega]at q1 q2;obtain⟨r1,r2,r3⟩:=q1.all;obtain⟨S,s1,s2,s3,s4⟩:=rounds L' r1 r2 r3;refine⟨S,s1,s2,s3,?_⟩;have d1:decide (((a+20:Nat):Int)<=(l.length:Int))=false:=zXd (by omega);rw[aB];unfold Sh.f2e;simp only[Am,Aj,Bg,Bk,B4,BS,DG,GMw,d1,q2,B7];exact s4
 ·obtain⟨a,L⟩:=s;obtain⟨⟨hst,gW,hal⟩,rfl,rfl⟩:=hI;dsimp only at hst gW hal hd ⊢;have hr:Dc (BL H p g L) p g L:=Di h;obtain⟨L',q1,q2⟩:=Vr (n:=20) hf1 hr hm hst (by decide) gW (by omega) (by omega) hl;have d1:decide (((a+20:Nat):Int)<=(l.length:Int))=true:=zXc (by omega);have jD:IntKind.i64.wrap (((a+20:Nat):Int)+20)=((a+20+20:Nat):Int):=by rw[Ao] <;> omega
  refine⟨(a+20,L'),_,_,by dsimp only;omega,⟨⟨q1,(YK gW).2 (Nat.dvd_refl _),by dsimp only;omega⟩,rfl,rfl⟩,λrec=>?_⟩;unfold Sh.f2e;simp only[Am,Aj,Bg,Bk,B4,BS,DG,GMw,d1,q2,jD,B7]

end
theorem enLU_inj {l l':List Nat}(h:enL cU l=enL cU l'):l=l':=by
 unfold enL at h
 induction l generalizing l' with
 | nil=>cases l' with
  | nil=>rfl
  | cons y r=>simp at h
 | cons x l ih=>
  cases l' with
  | nil=>simp at h
  | cons y r=>
   simp only[XC,List.cons.injEq,Ab.int.injEq,true_and,and_true]at h;rw[ih h.2]
   congr 1
   omega
theorem Pg {l m:List Nat}{t t':Tok}(H:Aa)(hl:Lim l)(hm:Lim m)(h1:l.length<=1099511627776)(h2:m.length<=1099511627776) :
  Sh.fq (.sl (enL cU l) t) (.sl (enL cU m) t') H=some (.ret (.i6 (FH (val l:Int) (val m:Int))),H):=by
 have hex:∃p:List Nat×List Nat,enL cU l=enL cU p.1/\enL cU m=enL cU p.2/\Lim p.1/\Lim p.2/\p.1.length<=1099511627776/\p.2.length<=1099511627776:=⟨(l,m),rfl,rfl,hl,hm,h1,h2⟩;have e1:hex.choose.1=l:=(enLU_inj hex.choose_spec.1).symm;have e2:hex.choose.2=m:=(enLU_inj hex.choose_spec.2.1).symm;unfold Sh.fq;simp only[];rw[dif_pos hex,e1,e2];unfold FH;by_cases c1:val l<val m
 ·rw[if_pos c1,if_pos (show (val l:Int)<(val m:Int)by omega)]
 ·by_cases c2:val l=val m
  ·rw[if_neg c1,if_pos c2,if_neg (show ¬(val l:Int)<(val m:Int)by omega),if_pos (show (val l:Int)=(val m:Int)by omega)]
  ·rw[if_neg c1,if_neg c2,if_neg (show ¬(val l:Int)<(val m:Int)by omega),if_neg (show ¬(val l:Int)=(val m:Int)by omega)]
section
variable {H:Aa}{p:Nat}{z:Int}
theorem JF (hg:H[p]? = some (.cel 0 (A2 z))):Ac false 1 (.ptr p 0 0) H=some (.bool (decide (z<0))):=by
 simp only[Ac,Aw hg,zXa];rfl
theorem ld_lim (hg:H[p]? = some (.cel 0 (A2 z))):Ac false 1 (.ptr p 0 1) H=some (.sl (enL cU (AA z.natAbs)) .no):=by
 simp only[Ac,Aw hg,zXa];rfl

end
theorem b_cmp {a b:Int}(ha:LB a)(hb:LB b)(H:Aa):Sh.f2c (big a) (big b) H=some (.ret (.i6 (FH a b)),H):=by
 have e1:(H++[Blk.cel 0 (A2 a)]++[Blk.cel 0 (A2 b)])[H.length]? = some (.cel 0 (A2 a)):=by simp
 have e2:(H++[Blk.cel 0 (A2 a)]++[Blk.cel 0 (A2 b)])[(H++[Blk.cel 0 (A2 a)]).length]? = some (.cel 0 (A2 b)):=Al;have c1:=λK=>Pg (t:=.no) (t':=.no) K (Bz a.natAbs) (Bz b.natAbs) (Wu ha (by decide)) (Wu hb (by decide));have c2:=λK=>Pg (t:=.no) (t':=.no) K (Bz b.natAbs) (Bz a.natAbs) (Wu hb (by decide)) (Wu ha (by decide));rw[BA,BA]at c1 c2;have fin:∀q:Int,rP H (.i6 q) (H++[Blk.cel 0 (A2 a)]++[Blk.cel 0 (A2 b)])=some (.ret (.i6 q),H):=λq=>by simp only[VZ];exact Ij
 unfold Sh.f2c;simp only[GMw,DL,Ah,VU,Nat.add_zero,JF e1,JF e2];by_cases h1:a<0
 ·have d1:decide (a<0)=true:=zXc h1;by_cases h2:b<0
  ·have d2:decide (b<0)=true:=zXc h2;have:FH (b.natAbs:Int) (a.natAbs:Int)=FH a b:=by
    unfold FH;by_cases q1:a<b
    ·rw[if_pos q1,if_pos (by omega)]
    ·by_cases q2:a=b
     ·rw[if_neg q1,if_neg (by omega),if_pos q2,if_pos (by omega)]
     ·rw[if_neg q1,if_neg (by omega),if_neg q2,if_neg (by omega)]
   simp only[GMw,d1,d2,JF e1,JF e2,ld_lim e1,ld_lim e2,c2,fin,this]
  ·have d2:decide (b<0)=false:=zXd h2;have:FH a b = -1:=by unfold FH;rw[if_pos (by omega)]
   simp only[GMw,d1,d2,JF e1,JF e2,fin,this]
 ·have d1:decide (a<0)=false:=zXd h1;by_cases h2:b<0
  ·have d2:decide (b<0)=true:=zXc h2;have:FH a b=1:=by unfold FH;rw[if_neg (by omega),if_neg (by omega)]
   simp only[GMw,d1,JF e1,JF e2,d2,fin,this]
  ·have d2:decide (b<0)=false:=zXd h2;have:FH (a.natAbs:Int) (b.natAbs:Int)=FH a b:=by
    rw[show (a.natAbs:Int)=a by omega,show (b.natAbs:Int)=b by omega]
   simp only[GMw,d1,JF e1,JF e2,d2,ld_lim e1,ld_lim e2,c1,fin,this]
theorem or_two (a b:Int)(H:Aa):Sh.f46 (.sl [[.i6 a],[.i6 b]] .ti) H=some (.ret (.i6 (if a=0 then b else a)),H):=by
 have i0:Av 1 (.sl [[.i6 a],[.i6 b]] .ti) (.i6 0)=some (.cptr [.i6 a] 0):=rfl;have i1:Av 1 (.sl [[.i6 a],[.i6 b]] .ti) (.i6 1)=some (.cptr [.i6 b] 0):=rfl;have l0:∀x:Ab,Ac false 1 (.cptr [x] 0) H=some x:=λ_=>rfl;have hl:A7 (.sl [[.i6 a],[.i6 b]] .ti)=some (.i6 2):=rfl;have w0:IntKind.i64.wrap (0+1)=1:=rfl;have w1:IntKind.i64.wrap (1+1)=2:=rfl;have d0:decide ((0:Int)<2)=true:=rfl;have d1:decide ((1:Int)<2)=true:=rfl;have d2:decide ((2:Int)<2)=false:=rfl;unfold Sh.f46;simp only[GMw,hl];have key:=Bq (G:=λrec1 vs H1=>Sh.f6z H rec1 (ag vs 0) (ag vs 1) (ag vs 2) (ag vs 3) H1) (σ:=Nat) (λi=>i=0\/(i=1/\a=0)\/(i=2/\a=0/\b=0))
  (λi=>[.i6 0,.sl [[.i6 a],[.i6 b]] .ti,.i6 2,.i6 (i:Int)]) (λ_=>H) (λi=>2-i) (λ_=>some (.ret (.i6 (if a=0 then b else a)),H)) (λi rec hi hrec=>?_) 0 (.inl rfl) (by decide)
 ·exact key
 ·unfold Sh.f6z;rcases hi with rfl | ⟨rfl,ha⟩ | ⟨rfl,ha,hb⟩
  ·by_cases h:a=0
   ·have hn:(a != 0)=false:=by simp[h]
    have:=hrec 1 (.inr (.inl ⟨rfl,h⟩)) (by decide);simp only[GMw,Aj,Int.natCast_zero,d0,i0,l0,hn,w0];exact this
   ·have hn:(a != 0)=true:=by simp[h]
    simp only[GMw,Aj,Int.natCast_zero,d0,i0,l0,hn,if_neg h]
  ·by_cases h:b=0
   ·have hn:(b != 0)=false:=by simp[h]
    have:=hrec 2 (.inr (.inr ⟨rfl,ha,h⟩)) (by decide);simp only[GMw,Aj,show ((1:Nat):Int)=1 from rfl,d1,i1,l0,hn,w1];exact this
   ·have hn:(b != 0)=true:=by simp[h]
    simp only[GMw,Aj,show ((1:Nat):Int)=1 from rfl,d1,i1,l0,hn,if_pos ha]
  ·simp only[GMw,Aj,show ((2:Nat):Int)=2 from rfl,d2,if_pos ha,hb]
theorem p_order {c d:Cl}(hc:c.ok)(hd:d.ok)(H:Aa):Sh.f1k (.agg (cCl c)) (.agg (cCl d)) H=some (.ret (.i6 (JD c d)),H):=by
 have e1:(H++[Blk.cel 0 (cCl c)]++[Blk.cel 0 (cCl d)])[H.length]? = some (.cel 0 (cCl c)):=by simp
 have e2:(H++[Blk.cel 0 (cCl c)]++[Blk.cel 0 (cCl d)])[(H++[Blk.cel 0 (cCl c)]).length]? = some (.cel 0 (cCl d)):=Al;have hy:=λK=>b_cmp (hc.2.lb (by decide)) (hd.2.lb (by decide)) K;have hx:=λK=>b_cmp (hc.1.lb (by decide)) (hd.1.lb (by decide)) K;have hb:∀x y:Int,AS 1 [.i6 x,.i6 y]=some (.sl [[.i6 x],[.i6 y]] .ti):=λ_ _=>rfl;have fin:∀q:Int,rP H (.i6 q) (H++[Blk.cel 0 (cCl c)]++[Blk.cel 0 (cCl d)])=some (.ret (.i6 q),H):=λq=>by simp only[VZ];exact Ij
 unfold Sh.f1k;simp only[GMw,boxCl,Ah,VU,Nat.add_zero,Jv e1,Jv e2,Jw e1,Jw e2,BP,hy,hx,B9,and_true,hb,or_two,fin]
 rfl
theorem Ts {α:Type}{f:α->List Ab}{sz:Nat}[hf:Sz f sz][hp:Pl f]{H:Aa}{l:List α}{id b d cap k:Nat}{ex:Bool}(hg:AC H id 0=some (flat f l))(hi:b<=id)(hk:k<=l.length):Hx H b (d+3) (.ms id 0 0 k cap sz ex)=some (.sl (enL f (l.take k)) .no):=by
 have h1:¬id<b:=by omega
 have h2:k*sz<=l.length*sz:=W4 _ hk;have h3:(l.take k).length=k:=by simp;omega
 have h4:=M4 (f:=f) (l.take k);rw[h3]at h4;unfold Hx;simp only[frz,h1,if_false,hg,zXa,Xm,VU,Fi,h2,if_true,Nr,Hu (Ns (f:=f) (l.take k)),OR (f:=f) (l.take k),h4,zXb,forget,Ev,fgt]
theorem Pz (t:Nat):IntKind.u32.wrap (t:Int)=((t%4294967296:Nat):Int):=by
 simp only[IntKind.wrap,IntKind.bits,IntKind.signed];simp
theorem Nx (t:Nat):Ae .none .shr (.int .u64 (t:Int)) (.int .u64 32)=some (.int .u64 ((t / 4294967296:Nat):Int)):=by
 show some (Ab.int .u64 ((t:Int).fdiv 4294967296))=_;rw[XO _ (by decide)]
 rfl
theorem mul_step {x m c:Nat}(hx:x<4294967296)(hm:m<4294967296)(hc:c<4294967296):c+x*m<18446744073709551616:=by
 have h1:x*m<=4294967295*4294967295:=Ya (by omega) (by omega);omega
theorem Kx (x:Nat):val [x]=x:=by simp[val]
def EQ (l:List Nat)(m c:Nat):Nat->List Nat×Nat
 | 0=>([],c)
 | i+1=>((EQ l m c i).1++[((EQ l m c i).2+l[i]?.getD 0*m)%4294967296],((EQ l m c i).2+l[i]?.getD 0*m) / 4294967296)
theorem mulS_ok {l:List Nat}{m c:Nat}(hx:Lim l)(hm:m<4294967296)(hc:c<4294967296):∀i,i<=l.length ->
  (EQ l m c i).1.length=i/\(EQ l m c i).2<4294967296/\Lim (EQ l m c i).1/\val (EQ l m c i).1+4294967296^i*(EQ l m c i).2=val (l.take i)*m+c
 | 0,_=>⟨rfl,hc,λx h=>(by cases h),by simp[EQ,val]⟩
 | i+1,hi=>by
  obtain⟨h1,h2,h3,h4⟩:=mulS_ok hx hm hc i (by omega);have aH:=hx _ (We (show i<l.length by omega));have hg:l[i]?.getD 0=l[i]:=by rw[VO (by omega)];rfl
  have ht:=mul_step aH hm h2;simp only[EQ,hg];refine⟨by simp[h1],?_,?_,?_⟩
  ·omega
  ·intro x kQ;rcases Wn.1 kQ with h | h
   ·exact h3 x h
   ·rw[Wm.1 h];exact Xz _ (by decide)
  ·rw[Wb (by omega),Cz,Cz,h1,Wj,WR (by omega)];have tD:=XK ((EQ l m c i).2+l[i]*m) 4294967296;simp only[val,Nat.mul_zero,Nat.add_zero];generalize ((EQ l m c i).2+l[i]*m) / 4294967296=q at *;generalize ((EQ l m c i).2+l[i]*m)%4294967296=r at *;rw[Nat.pow_succ,X0,WD,<-Xd,show r+4294967296*q=(EQ l m c i).2+l[i]*m by omega,Xd,WF];rw[<-WD,h4,X0];omega
theorem q_mul {l:List Nat}{tk:Tok}{m c:Nat}(H:Aa)(hx:Lim l)(hl:l.length<=1099511627776)(hm:m<4294967296)(hc:c<4294967296) :
  Sh.f3o (.sl (enL cU l) tk) (.int .u32 (m:Int)) (.int .u32 (c:Int)) H=some (.ret (.sl (enL cU (AA (val l*m+c))) .no),H):=by
 unfold Sh.f3o;have hn:IntKind.i64.wrap ((l.length:Int)+1)=((l.length+1:Nat):Int):=by rw[Ao] <;> omega
 have cX:=Fz (f:=cU) (a:=0) (n:=l.length+1) (bytes:=4) (H:=H) (by omega) (by omega);simp only[show cU 0=[Ab.int .u32 0] from rfl]at cX;have hcc:AJ .u64 (.int .u32 (c:Int))=some (.int .u64 (c:Int)):=by rw[B3,Cs (by omega) (by omega)]
 have pD:AJ .u64 (.int .u32 (m:Int))=some (.int .u64 (m:Int)):=by rw[B3,Cs (by omega) (by omega)]
 simp only[GMw,Ax,hn,cX,hcc];refine Cm l.length (λi=>[.sl (enL cU l) tk,.int .u32 (m:Int),.ms H.length 0 0 (l.length+1) (l.length+1) 1 true,.int .u64 ((EQ l m c i).2:Int),.sl (enL cU l) tk,.i6 (l.length:Int),.i6 (i:Int)])
  (λi=>H++[.cel 0 (flat cU ((EQ l m c i).1++List.replicate (l.length+1-i) 0))]) _ (by omega) (λrec i hi=>?_) (λrec=>?_)
 ·obtain⟨h1,h2,h3,h4⟩:=mulS_ok hx hm hc i (by omega);have aD:(i:Int)<(l.length:Int):=by omega
  have aH:=hx _ (We hi);have hg:l[i]?.getD 0=l[i]:=by rw[VO hi];rfl
  have ht:=mul_step aH hm h2;have hidx:=CL (sz:=1) (id:=H.length) (n:=l.length+1) (K:=.i64) (g:=0) (off:=0) (cap:=l.length+1) (ex:=true) (i:=i) (by omega);simp only[VU,Wg]at hidx;obtain⟨t,htt⟩:∃t,t=(EQ l m c i).2+l[i]*m:=⟨_,rfl⟩;have hP:l[i]*m<=4294967295*4294967295:=Ya (by omega) (by omega);have w1:AJ .u64 (.int .u32 (l[i]:Int))=some (.int .u64 (l[i]:Int)):=by rw[B3,Cs (by omega) (by omega)]
  have w2:IntKind.u64.wrap ((l[i]:Int)*(m:Int))=((l[i]*m:Nat):Int):=by rw[<-Int.natCast_mul,Cs (by omega) (by omega)]
  have w3:IntKind.u64.wrap (((EQ l m c i).2:Int)+((l[i]*m:Nat):Int))=(t:Int):=by rw[Cs] <;> omega
  have w4:AJ .u32 (.int .u64 (t:Int))=some (.int .u32 ((t%4294967296:Nat):Int)):=by rw[B3,Pz]
  have w5:Ae .none .shr (.int .u64 (t:Int)) (.int .u64 32)=some (.int .u64 ((t / 4294967296:Nat):Int)):=Nx t;have w6:IntKind.i64.wrap ((i:Int)+1)=((i+1:Nat):Int):=by rw[Ao] <;> omega
  have hst:=DS (f:=cU) (sz:=1) (l:=(EQ l m c i).1++List.replicate (l.length+1-i) 0) (i:=i) (a:=t%4294967296) (v:=.int .u32 ((t%4294967296:Nat):Int)) (H:=H++[Blk.cel 0 (flat cU ((EQ l m c i).1++List.replicate (l.length+1-i) 0))]) (id:=H.length) (Aw Al) (by simp;omega) rfl;have aI:((EQ l m c i).1++List.replicate (l.length+1-i) 0).set i (t%4294967296)=(EQ l m c (i+1)).1++List.replicate (l.length+1-(i+1)) 0:=by
   rw[show l.length+1-i=(l.length+1-(i+1))+1 by omega,zXm,W5 _ _ (by omega),h1,WB,List.set_cons_zero];simp[EQ,hg,<-htt]
  rw[Wg,Bt Al,Be,aI]at hst;unfold Sh.f6t;simp only[GMw,Aj,aD,A1 hi,AE,zXh,w1,pD,w2,w3,w4,hidx,hst,w5,w6];simp only[EQ,hg,<-htt]
 ·obtain⟨h1,h2,h3,h4⟩:=mulS_ok hx hm hc l.length (VV _);have hidx:=CL (sz:=1) (id:=H.length) (n:=l.length+1) (K:=.i64) (g:=0) (off:=0) (cap:=l.length+1) (ex:=true) (i:=l.length) (by omega);simp only[VU,Wg]at hidx;have w4:AJ .u32 (.int .u64 ((EQ l m c l.length).2:Int))=some (.int .u32 ((EQ l m c l.length).2:Int)):=by rw[B3,Do (by omega) (by omega)]
  have hst:=DS (f:=cU) (sz:=1) (l:=(EQ l m c l.length).1++List.replicate (l.length+1-l.length) 0) (i:=l.length) (a:=(EQ l m c l.length).2) (v:=.int .u32 ((EQ l m c l.length).2:Int)) (H:=H++[Blk.cel 0 (flat cU ((EQ l m c l.length).1++List.replicate (l.length+1-l.length) 0))]) (id:=H.length) (Aw Al) (by simp;omega) rfl;have aI:((EQ l m c l.length).1++List.replicate (l.length+1-l.length) 0).set l.length (EQ l m c l.length).2=(EQ l m c l.length).1++[(EQ l m c l.length).2]:=by
   rw[show l.length+1-l.length=1 by omega,W5 _ _ (by omega),h1,WB]
   rfl
  rw[Wg,Bt Al,Be,aI]at hst;obtain⟨o,ho⟩:∃o,o=(EQ l m c l.length).1++[(EQ l m c l.length).2]:=⟨_,rfl⟩;have hol:o.length=l.length+1:=by rw[ho];simp[h1]
  have aK:Lim o:=by
   intro x kQ;rw[ho]at kQ;rcases Wn.1 kQ with h | h
   ·exact h3 x h
   ·rw[Wm.1 h];exact h2
  have qE:val o=val l*m+c:=by
   rw[ho,Cz,h1,Kx];rw[WJ]at h4;exact h4
  rw[<-ho]at hst;have eM:=q_cut (l:=o) (H:=H++[Blk.cel 0 (flat cU o)]) (id:=H.length) Al (by omega);have htk:=JO aK o.length (VV _);rw[WJ,qE]at htk;have eA:=Ts (f:=cU) (sz:=1) (b:=H.length) (d:=5) (cap:=o.length) (ex:=true) (k:=Hr o o.length) (l:=o) (H:=H++[Blk.cel 0 (flat cU o)]) (id:=H.length) (Aw Al) (VV _) (On o _);rw[htk]at eA;rw[hol]at eM eA;unfold Sh.f6t;simp only[GMw,Aj,WL,Ax,w4,hidx,hst,eM,Cw,eA,zXb]
theorem MV (b:List Nat)(i:Nat):val (b.take (i+1))=val (b.take i)+4294967296^i*b[i]?.getD 0:=by
 rcases W7 i b.length with h | h
 ·rw[Wb h,Cz,VO h,Wj,WR (by omega)];simp[val]
 ·rw[Wd (by omega),Wd h,zYb h];simp
theorem Kd {b:List Nat}(h:Lim b)(i:Nat):b[i]?.getD 0<4294967296:=by
 rcases W7 i b.length with q | q
 ·rw[VO q];exact h _ (We q)
 ·rw[zYb q];decide
def EL (a b:List Nat):Nat->List Nat×Nat
 | 0=>([],0)
 | i+1=>((EL a b i).1++[(a[i]?.getD 0+b[i]?.getD 0+(EL a b i).2)%4294967296],(a[i]?.getD 0+b[i]?.getD 0+(EL a b i).2) / 4294967296)
theorem addS_ok {a b:List Nat}(ha:Lim a)(hb:Lim b):∀i,(EL a b i).1.length=i/\(EL a b i).2<=1/\Lim (EL a b i).1/\val (EL a b i).1+4294967296^i*(EL a b i).2=val (a.take i)+val (b.take i)
 | 0=>⟨rfl,Wv _,λx h=>(by cases h),by simp[EL,val]⟩
 | i+1=>by
  obtain⟨h1,h2,h3,h4⟩:=addS_ok ha hb i;have g1:=Kd ha i;have g2:=Kd hb i;simp only[EL];refine⟨by simp[h1],by omega,?_,?_⟩
  ·intro x hx;rcases Wn.1 hx with h | h
   ·exact h3 x h
   ·rw[Wm.1 h];exact Xz _ (by decide)
  ·rw[MV,MV,Cz,h1];have tD:=XK (a[i]?.getD 0+b[i]?.getD 0+(EL a b i).2) 4294967296;simp only[val,Nat.mul_zero,Nat.add_zero];generalize (a[i]?.getD 0+b[i]?.getD 0+(EL a b i).2) / 4294967296=q at *;generalize (a[i]?.getD 0+b[i]?.getD 0+(EL a b i).2)%4294967296=r at *;rw[Nat.pow_succ,X0,WD,<-Xd,show r+4294967296*q=a[i]?.getD 0+b[i]?.getD 0+(EL a b i).2 by omega,Xd,Xd];omega
theorem p_add32 {x y c:Nat}(hx:x<4294967296)(hy:y<4294967296)(hc:c<=1)(H:Aa):Sh.f3w (.int .u32 (x:Int)) (.int .u32 (y:Int)) (.int .u32 (c:Int)) H=some (.ret (.tup [.int .u32 (((x+y+c)%4294967296:Nat):Int),.int .u32 (((x+y+c) / 4294967296:Nat):Int)]),H):=by
 have w:∀n:Nat,n<4294967296->AJ .u64 (.int .u32 (n:Int))=some (.int .u64 (n:Int)):=λn h=>by rw[B3,Cs (by omega) (by omega)]
 have w1:IntKind.u64.wrap ((x:Int)+(y:Int))=((x+y:Nat):Int):=by rw[Cs] <;> omega
 have w2:IntKind.u64.wrap (((x+y:Nat):Int)+(c:Int))=((x+y+c:Nat):Int):=by rw[Cs] <;> omega
 have w4:AJ .u32 (.int .u64 ((x+y+c:Nat):Int))=some (.int .u32 (((x+y+c)%4294967296:Nat):Int)):=by rw[B3,Pz]
 have w5:=Nx (x+y+c);have w6:AJ .u32 (.int .u64 (((x+y+c) / 4294967296:Nat):Int))=some (.int .u32 (((x+y+c) / 4294967296:Nat):Int)):=by rw[B3,Do (by omega) (by omega)]
 unfold Sh.f3w;simp only[GMw,w x hx,w y hy,w c (by omega),w1,w2,w4,w5,w6]
theorem add_tail {H:Aa}{o:List Nat}{v:Nat}(hol:o.length<1099511627780)(aK:Lim o)(qE:val o=v) :
  (Sh.f1 (.ms H.length 0 0 o.length o.length 1 true) (H++[Blk.cel 0 (flat cU o)])).bind (λr=>match r.1 with | .ret x=>rPN H x r.2 | .pan x=>none)=some (.ret (.sl (enL cU (AA v)) .no),H):=by
 have eM:=q_cut (l:=o) (H:=H++[Blk.cel 0 (flat cU o)]) (id:=H.length) Al (by omega);have htk:=JO aK o.length (VV _);rw[WJ,qE]at htk;have hk:=On o o.length;have eA:=Ts (f:=cU) (sz:=1) (d:=5) (cap:=o.length) (ex:=true) (Aw (Al (cs:=flat cU o) (B:=H))) (VV H.length) hk;rw[eM];simp only[zXa,Cw];rw[eA,htk]
 rfl
theorem add_j1 {a b:List Nat}{ta tb:Tok}(H:Aa)(ha:Lim a)(hb:Lim b)(hl:a.length<=1099511627776)(hle:b.length<=a.length) :
  Sh.f6w H (.sl (enL cU a) ta) (.sl (enL cU b) tb) H=some (.ret (.sl (enL cU (AA (val a+val b))) .no),H):=by
 unfold Sh.f6w;have hn:IntKind.i64.wrap ((a.length:Int)+1)=((a.length+1:Nat):Int):=by rw[Ao] <;> omega
 have cX:=Fz (f:=cU) (a:=0) (n:=a.length+1) (bytes:=4) (H:=H) (by omega) (by omega);simp only[show cU 0=[Ab.int .u32 0] from rfl]at cX;simp only[GMw,Ax,hn,cX];refine Cm (G:=λaA vs H1=>Sh.f3x H aA (ag vs 0) (ag vs 1) (ag vs 2) (ag vs 3) (ag vs 4) (ag vs 5) (ag vs 6) H1) a.length
  (λi=>[.sl (enL cU a) ta,.sl (enL cU b) tb,.ms H.length 0 0 (a.length+1) (a.length+1) 1 true,.int .u32 ((EL a b i).2:Int),.sl (enL cU a) ta,.i6 (a.length:Int),.i6 (i:Int)])
  (λi=>H++[.cel 0 (flat cU ((EL a b i).1++List.replicate (a.length+1-i) 0))]) _ (by omega) (λrec i hi=>?_) (λrec=>?_)
 ·obtain⟨h1,h2,h3,h4⟩:=addS_ok ha hb i;have d1:decide ((i:Int)<(a.length:Int))=true:=zXc (by omega);have aH:=ha _ (We hi);have hg:a[i]?.getD 0=a[i]:=by rw[VO hi];rfl
  have hidx:=CL (sz:=1) (id:=H.length) (n:=a.length+1) (K:=.i64) (g:=0) (off:=0) (cap:=a.length+1) (ex:=true) (i:=i) (by omega);simp only[VU,Wg]at hidx;have w6:IntKind.i64.wrap ((i:Int)+1)=((i+1:Nat):Int):=by rw[Ao] <;> omega
  have hst:=DS (f:=cU) (sz:=1) (l:=(EL a b i).1++List.replicate (a.length+1-i) 0) (i:=i) (a:=(a[i]?.getD 0+b[i]?.getD 0+(EL a b i).2)%4294967296) (v:=.int .u32 (((a[i]?.getD 0+b[i]?.getD 0+(EL a b i).2)%4294967296:Nat):Int)) (H:=H++[Blk.cel 0 (flat cU ((EL a b i).1++List.replicate (a.length+1-i) 0))]) (id:=H.length) (Aw Al) (by simp;omega) rfl;have aI:((EL a b i).1++List.replicate (a.length+1-i) 0).set i ((a[i]?.getD 0+b[i]?.getD 0+(EL a b i).2)%4294967296)=(EL a b (i+1)).1++List.replicate (a.length+1-(i+1)) 0:=by
   rw[show a.length+1-i=(a.length+1-(i+1))+1 by omega,zXm,W5 _ _ (by omega),h1,WB,List.set_cons_zero];simp[EL]
  rw[Wg,Bt Al,Be,aI]at hst;rw[hg]at hst;have oF:=Kd hb i;have h32:=λK=>p_add32 aH oF h2 K;have cF:(EL a b (i+1)).2=(a[i]+b[i]?.getD 0+(EL a b i).2) / 4294967296:=by simp only[EL,hg]
  unfold Sh.f3x Sh.f7r;by_cases rJ:i<b.length
  ·have d2:decide ((i:Int)<(b.length:Int))=true:=zXc (by omega);have nX:b[i]?.getD 0=b[i]:=by rw[VO rJ];rfl
   rw[nX]at h32 hst cF;simp only[Am,Aj,Bg,Bk,B4,BS,DG,GMw,d1,d2,Ax,A1 hi,A1 rJ,AE,zXh,h32,B1,B8,hidx,hst,AL,w6,cF]
  ·have d2:decide ((i:Int)<(b.length:Int))=false:=zXd (by omega);have nX:b[i]?.getD 0=0:=by rw[zYb (by omega)];rfl
   rw[nX]at h32 hst cF;simp only[Int.natCast_zero]at h32;simp only[Am,Aj,Bg,Bk,B4,BS,DG,GMw,d1,d2,Ax,A1 hi,AE,zXh,h32,B1,B8,hidx,hst,AL,w6,cF]
 ·obtain⟨h1,h2,h3,h4⟩:=addS_ok ha hb a.length;have d1:decide ((a.length:Int)<(a.length:Int))=false:=zXd (by omega);have hidx:=CL (sz:=1) (id:=H.length) (n:=a.length+1) (K:=.i64) (g:=0) (off:=0) (cap:=a.length+1) (ex:=true) (i:=a.length) (by omega);simp only[VU,Wg]at hidx;have hst:=DS (f:=cU) (sz:=1) (l:=(EL a b a.length).1++List.replicate (a.length+1-a.length) 0) (i:=a.length) (a:=(EL a b a.length).2) (v:=.int .u32 ((EL a b a.length).2:Int)) (H:=H++[Blk.cel 0 (flat cU ((EL a b a.length).1++List.replicate (a.length+1-a.length) 0))]) (id:=H.length) (Aw Al) (by simp;omega) rfl;have aI:((EL a b a.length).1++List.replicate (a.length+1-a.length) 0).set a.length (EL a b a.length).2=(EL a b a.length).1++[(EL a b a.length).2]:=by
   rw[show a.length+1-a.length=1 by omega,W5 _ _ (by omega),h1,WB]
   rfl
  rw[Wg,Bt Al,Be,aI]at hst;obtain⟨o,ho⟩:∃o,o=(EL a b a.length).1++[(EL a b a.length).2]:=⟨_,rfl⟩;have hol:o.length=a.length+1:=by rw[ho];simp[h1]
  have aK:Lim o:=by
   intro x kQ;rw[ho]at kQ;rcases Wn.1 kQ with h | h
   ·exact h3 x h
   ·rw[Wm.1 h];omega
  have qE:val o=val a+val b:=by
   rw[ho,Cz,h1,Kx];rw[WJ,Wd hle]at h4;exact h4
  rw[<-ho]at hst;have ht:=add_tail (H:=H) (o:=o) (by omega) aK qE;rw[hol]at ht;unfold Sh.f3x;simp only[Am,Aj,Bg,Bk,B4,BS,DG,GMw,d1,Ax,hidx,hst,AL];have eM:=q_cut (l:=o) (H:=H++[Blk.cel 0 (flat cU o)]) (id:=H.length) Al (by omega);rw[hol]at eM;rw[eM]at ht ⊢;simp only[zXa]at ht;simp only[GMw];exact ht
theorem p_add {a b:List Nat}{ta tb:Tok}(H:Aa)(ha:Lim a)(hb:Lim b)(h1:a.length<=1099511627776)(h2:b.length<=1099511627776) :
  Sh.f3y (.sl (enL cU a) ta) (.sl (enL cU b) tb) H=some (.ret (.sl (enL cU (AA (val a+val b))) .no),H):=by
 unfold Sh.f3y;by_cases h:a.length<b.length
 ·have d1:decide ((a.length:Int)<(b.length:Int))=true:=zXc (by omega);simp only[GMw,Ax,d1];rw[add_j1 H hb ha h2 (by omega),Y2]
 ·have d1:decide ((a.length:Int)<(b.length:Int))=false:=zXd (by omega);simp only[GMw,Ax,d1];exact add_j1 H ha hb h1 (by omega)
theorem Kt (a b:BitVec 32):IA .and .u32 (a.toNat:Int) (b.toNat:Int)=some (.int .u32 ((a &&& b).toNat:Int))/\IA .or .u32 (a.toNat:Int) (b.toNat:Int)=some (.int .u32 ((a ||| b).toNat:Int))/\IA .xor .u32 (a.toNat:Int) (b.toNat:Int)=some (.int .u32 ((a ^^^ b).toNat:Int)):=by
 have ho:∀v:BitVec 32,BitVec.ofInt 32 (v.toNat:Int)=v:=λv=>by
  rw[BitVec.ofInt_natCast,BitVec.ofNat_toNat,BitVec.setWidth_eq]
 have hw:∀v:BitVec 32,IntKind.u32.wrap (v.toNat:Int)=(v.toNat:Int):=λv=>by
  have:=v.isLt;rw[Do (by omega) (by omega)]
 refine⟨?_,?_,?_⟩
 ·show some (Ab.int .u32 (IntKind.u32.wrap (((BitVec.ofInt 32 (a.toNat:Int)) &&& (BitVec.ofInt 32 (b.toNat:Int))).toNat:Int)))=_;rw[ho,ho,hw]
 ·show some (Ab.int .u32 (IntKind.u32.wrap (((BitVec.ofInt 32 (a.toNat:Int)) ||| (BitVec.ofInt 32 (b.toNat:Int))).toNat:Int)))=_;rw[ho,ho,hw]
 ·show some (Ab.int .u32 (IntKind.u32.wrap (((BitVec.ofInt 32 (a.toNat:Int)) ^^^ (BitVec.ofInt 32 (b.toNat:Int))).toNat:Int)))=_;rw[ho,ho,hw]
theorem not_u32 (a:BitVec 32):unA .xor (.int .u32 (a.toNat:Int))=some (.int .u32 ((~~~a).toNat:Int)):=by
 have h:=(Kt (BitVec.allOnes 32) a).2.2;have e:((BitVec.allOnes 32).toNat:Int)=4294967295:=by decide
 rw[e]at h;have hn : ~~~a=BitVec.allOnes 32 ^^^ a:=BitVec.allOnes_xor.symm;rw[hn];exact h
theorem msb_u32 (v:BitVec 32):Ae .none .shr (.int .u32 (v.toNat:Int)) (.int .u64 31)=some (.int .u32 ((if v.msb then 1 else 0:Nat):Int)):=by
 have hs:Ae .none .shr (.int .u32 (v.toNat:Int)) (.int .u64 31)=some (.int .u32 (Int.fdiv (v.toNat:Int) (2^(min (31:Int).toNat IntKind.u32.bits)))):=rfl;have hlt:=v.isLt;rw[hs,show (2:Int)^(min (31:Int).toNat IntKind.u32.bits)=2147483648 from by decide,XO _ (by omega)]
 congr 2
 rw[Yi];by_cases h:2147483648<=v.toNat
 ·have:decide (2^(32-1)<=v.toNat)=true:=zXc (by omega);rw[this];simp only[if_true];omega
 ·have:decide (2^(32-1)<=v.toNat)=false:=zXd (by omega);rw[this];simp only[VY,if_false];omega
theorem MP (op:BinOp)(aF:Dv op=false)(a b:Int)(hb:∀k x y,FF op k x y=IA op k x y):Ae .none op (.int .u32 a) (.int .u32 b)=IA op .u32 a b:=by
 show (if Dv op then _ else if IntKind.u32=IntKind.u32 then FF op .u32 a b else none)=_;rw[aF,if_neg (by decide),if_pos rfl,hb]
theorem p_sub32 {x y c:Nat}(hx:x<4294967296)(hy:y<4294967296)(hc:c<=1)(H:Aa):Sh.f25 (.int .u32 (x:Int)) (.int .u32 (y:Int)) (.int .u32 (c:Int)) H =
  some (.ret (.tup [.int .u32 (((x+4294967296-y-c)%4294967296:Nat):Int),.int .u32 ((if x<y+c then 1 else 0:Nat):Int)]),H):=by
 obtain⟨a,ha⟩:∃a:BitVec 32,a.toNat=x:=⟨BitVec.ofNat 32 x,by rw[X2];omega⟩;obtain⟨b,hb⟩:∃b:BitVec 32,b.toNat=y:=⟨BitVec.ofNat 32 y,by rw[X2];omega⟩;obtain⟨d,hd⟩:∃d:BitVec 32,d.toNat=(x+4294967296-y-c)%4294967296:=⟨BitVec.ofNat 32 ((x+4294967296-y-c)%4294967296),by rw[X2];omega⟩;have wP:∀z:Int,IntKind.u32.wrap z=z%4294967296:=λz=>by
  simp only[IntKind.wrap,IntKind.bits,IntKind.signed];simp
 have w1:IntKind.u32.wrap (IntKind.u32.wrap ((x:Int)-(y:Int))-(c:Int))=(d.toNat:Int):=by
  rw[wP,wP,hd];omega
 have e1:∀p q:BitVec 32,Ae .none .and (.int .u32 (p.toNat:Int)) (.int .u32 (q.toNat:Int))=some (.int .u32 ((p &&& q).toNat:Int)):=λp q=>by
  rw[MP .and rfl _ _ (λ_ _ _=>rfl)];exact (Kt p q).1
 have e2:∀p q:BitVec 32,Ae .none .or (.int .u32 (p.toNat:Int)) (.int .u32 (q.toNat:Int))=some (.int .u32 ((p ||| q).toNat:Int)):=λp q=>by
  rw[MP .or rfl _ _ (λ_ _ _=>rfl)];exact (Kt p q).2.1
 have e3:∀p q:BitVec 32,Ae .none .xor (.int .u32 (p.toNat:Int)) (.int .u32 (q.toNat:Int))=some (.int .u32 ((p ^^^ q).toNat:Int)):=λp q=>by
  rw[MP .xor rfl _ _ (λ_ _ _=>rfl)];exact (Kt p q).2.2
 have hm:(if ((~~~a &&& b) ||| (~~~(a ^^^ b) &&& d)).msb then 1 else 0:Nat)=if x<y+c then 1 else 0:=by
  rw[BitVec.msb_or,BitVec.msb_and,BitVec.msb_and,BitVec.msb_not,BitVec.msb_not,BitVec.msb_xor,Yi a,Yi b,Yi d,ha,hb,hd];have q1:decide (2^(32-1)<=x)=decide (2147483648<=x):=rfl;have q2:decide (2^(32-1)<=y)=decide (2147483648<=y):=rfl;have q3:decide (2^(32-1)<=(x+4294967296-y-c)%4294967296)=decide (2147483648<=(x+4294967296-y-c)%4294967296):=rfl;rw[q1,q2,q3];by_cases c1:2147483648<=x <;> by_cases c2:2147483648<=y <;> by_cases c3:2147483648<=(x+4294967296-y-c)%4294967296 <;> simp only[c1,c2,c3,decide_true,decide_false] <;> (first | (rw[if_pos (by decide),if_pos (by omega)]) | (rw[if_neg (by decide),if_neg (by omega)]))
 unfold Sh.f25;simp only[GMw,w1];rw[<-ha,<-hb];simp only[GMw,not_u32,e1,e2,e3,msb_u32,BH];rw[hm,hd,ha,hb]
theorem q_rightG {l:List Nat}{H:Aa}{id k:Nat}{ex:Bool}(hg:AC H id 0=some (flat cU l))(hk:k<=l.length)(hl:l.length<9223372036854775807):Sh.fa (.ms id 0 0 k l.length 1 ex) H=some (.ret (.bool (decide (k=0)||decide (l[k-1]?.getD 0≠0))),H):=by
 unfold Sh.fa;cases k with
 | zero=>simp[A7]
 | succ k=>
  have hidx:=CL (sz:=1) (id:=id) (n:=k+1) (K:=.i64) (g:=0) (off:=0) (cap:=l.length) (ex:=ex) (i:=k) (by omega);simp only[VU,Wg]at hidx;have hld:=Iy (f:=cU) (id:=id) (l:=l) (H:=H) hg (i:=k) (by omega);have h0:¬((k+1:Nat):Int)=0:=by omega
  have hw:IntKind.i64.wrap (((k+1:Nat):Int)-1)=(k:Int):=by rw[Ao] <;> omega
  have vN:l[k]? = some l[k]:=VO (by omega);simp only[show A7 (.ms id 0 0 (k+1) l.length 1 ex)=some (.i6 ((k+1:Nat):Int)) from rfl,GMw,h0,hw,hidx,hld,Wl,vN,Option.getD_some,XF];by_cases h:l[k]=0
  ·simp[h]
  ·have:¬(l[k]:Int)=0:=by omega
   simp[h,this]
theorem q_cutG {l:List Nat}{H:Aa}{id:Nat}{ex:Bool}(hg:AC H id 0=some (flat cU l))(hl:l.length<1152921504606846976):Sh.f1 (.ms id 0 0 l.length l.length 1 ex) H=some (.ret (.ms id 0 0 (Hr l l.length) l.length 1 ex),H):=by
 unfold Sh.f1;refine Bq (σ:=Nat) (λk=>k<=l.length/\Hr l k=Hr l l.length) (λk=>[.ms id 0 0 k l.length 1 ex]) (λ_=>H) (λk=>k) (λ_=>some (.ret (.ms id 0 0 (Hr l l.length) l.length 1 ex),H)) (λk rec hi hrec=>?_) l.length ⟨VV _,rfl⟩ (by omega);obtain⟨hk,ht⟩:=hi;unfold Sh.f12;simp only[Am,q_rightG hg hk (by omega),GMw];cases k with
 | zero=>simp[<-ht,Hr,rKN,fin,forget,Ev,fgt]
 | succ k=>
  by_cases h:l[k]?.getD 0=0
  ·have hw:IntKind.i64.wrap (((k+1:Nat):Int)-1)=(k:Int):=by rw[Ao] <;> omega
   have hsl:Bw 1 (.ms id 0 0 (k+1) l.length 1 ex) none (some (.i6 (k:Int))) none=some (.ms id 0 0 k l.length 1 ex):=by
    have:(0:Int)<=(k:Int):=by omega
    simp only[Bw,By,zXa,this,if_true,zXl];rw[if_pos ⟨trivial,by omega,by omega,by omega⟩];simp
   have dT:Hr l k=Hr l l.length:=by rw[<-ht];simp[Hr,h]
   have hr:=hrec k ⟨by omega,dT⟩ (by omega);simp only[h,show A7 (.ms id 0 0 (k+1) l.length 1 ex)=some (.i6 ((k+1:Nat):Int)) from rfl,GMw,hw,hsl,Wl,ne_eq,not_true_eq_false,XF];exact hr
  ·have dT:Hr l (k+1)=k+1:=by simp[Hr,h]
   have hr:(decide (k+1=0)||decide (l[k+1-1]?.getD 0≠0))=true:=by simp[h]
   simp only[hr,GMw,Ei,forget,Ev,fgt];rw[<-ht,dT]
theorem clone_u (l:List Nat)(tk:Tok)(H:Aa)(hl:l.length<=1099511627776):Sh.f24 (.sl (enL cU l) tk) H=some (if l=[]then (.ret (.sl [] .ti),H)else (.ret (.ms H.length 0 0 l.length l.length 1 false),H++[.buf 0 (flat cU l) Ce 1])):=by
 have hb:AS 1 []=some (.sl [] .ti):=rfl;unfold Sh.f24;cases l with
 | nil=>
  have ha:Gd Ce 1 4 (.sl [] .ti) (.sl (enL cU []) tk) H=some (.sl [] .ti,H):=rfl;have hn:Rn .eql (.sl (enL cU []) tk)=some .ubool:=rfl;have hu:∀x:Out,Ak .ubool x x=x:=λx=>if_pos rfl;simp only[hn,GMw,hb,ha];exact hu _
 | cons c l=>
  have hn:Rn .eql (.sl (enL cU (c::l)) tk)=some (.bool false):=rfl;have ha:Gd Ce 1 4 (.sl [] .ti) (.sl (enL cU (c::l)) tk) H=some (.ms H.length 0 0 (c::l).length (c::l).length 1 false,H++[.buf 0 (flat cU (c::l)) Ce 1]):=by
   have he:Cj 1 (.sl (enL cU (c::l)) tk) H=some (enL cU (c::l)):=Pb;have hlen:(enL cU (c::l)).length=(c::l).length:=by simp[enL]
   unfold Gd;rw[he];simp only[zXa];unfold IE;rw[hlen,if_neg (by simp)];simp only[zXk,VU,List.all_nil,List.nil_append];rw[if_pos ⟨trivial,by omega,by omega⟩]
   rfl
  simp only[hn,GMw,hb,ha];rw[if_neg (by simp)]
def dgS (x y c:Nat):Nat:=(x+4294967296-y-c)%4294967296
def bwS (x y c:Nat):Nat:=if x<y+c then 1 else 0
theorem dif_ar1 {P W x y c:Nat}(h:x<y+c)(hy:y+c<=x+W):P*(x+W-y-c)+P*y+P*c=P*x+P*W:=by
 rw[<-Xd,<-Xd,<-Xd,show x+W-y-c+y+c=x+W by omega]
theorem dif_ar2 {P x y c:Nat}(h:y+c<=x):P*(x-y-c)+P*y+P*c=P*x:=by
 rw[<-Xd,<-Xd,show x-y-c+y+c=x by omega]
theorem dif_mod {W x y c:Nat}(hx:x<W)(hy:y<W)(hc:c<=1):(x+W-y-c)%W=if x<y+c then x+W-y-c else x-y-c:=by
 by_cases h:x<y+c
 ·rw[if_pos h,WX (by omega)]
 ·rw[if_neg h,show x+W-y-c=(x-y-c)+W by omega,Nat.add_mod_right,WX (by omega)]
theorem dif_fin {v1 v2 u P Q W x y c d r:Nat}(h4:v1+v2=u+P*c)(hQ:Q=P*W)(hr:r=if x<y+c then x+W-y-c else x-y-c)(hd:d=if x<y+c then 1 else 0)(hy:y+c<=x+W):v1+P*r+(v2+P*y)=u+P*x+Q*d:=by
 by_cases h:x<y+c
 ·rw[if_pos h]at hr hd;have:=dif_ar1 (P:=P) h hy;rw[hr,hd,hQ,Wg];omega
 ·rw[if_neg h]at hr hd;have:=dif_ar2 (P:=P) (show y+c<=x by omega);rw[hr,hd,Nat.mul_zero];omega
theorem dg_eq {x y c:Nat}(hx:x<4294967296)(hy:y<4294967296)(hc:c<=1):dgS x y c=if x<y+c then x+4294967296-y-c else x-y-c:=dif_mod hx hy hc
theorem dg_lt (x y c:Nat):dgS x y c<4294967296:=Xz _ (by decide)
theorem bw_le (x y c:Nat):bwS x y c<=1:=by unfold bwS;split <;> omega
def FG (a b:List Nat):Nat->List Nat×Nat
 | 0=>([],0)
 | i+1=>((FG a b i).1++[dgS (a[i]?.getD 0) (b[i]?.getD 0) (FG a b i).2],bwS (a[i]?.getD 0) (b[i]?.getD 0) (FG a b i).2)
theorem difS_ok {a b:List Nat}(ha:Lim a)(hb:Lim b):∀i,(FG a b i).1.length=i/\(FG a b i).2<=1/\Lim (FG a b i).1/\val (FG a b i).1+val (b.take i)=val (a.take i)+4294967296^i*(FG a b i).2
 | 0=>⟨rfl,Wv _,λx h=>(by cases h),by simp[FG,val]⟩
 | i+1=>by
  obtain⟨h1,h2,h3,h4⟩:=difS_ok ha hb i;have g1:=Kd ha i;have g2:=Kd hb i;simp only[FG];refine⟨by simp[h1],bw_le _ _ _,?_,?_⟩
  ·intro x hx;rcases Wn.1 hx with h | h
   ·exact h3 x h
   ·rw[Wm.1 h];exact dg_lt _ _ _
  ·rw[MV,MV,Cz,h1,Kx];exact dif_fin h4 (Nat.pow_succ _ _) (dg_eq g1 g2 h2) rfl (Wu (Nat.add_le_add (Nat.le_of_lt_succ g2) h2) (Nat.le_add_left _ _))
theorem fpart_msT {α:Type}{f:α->List Ab}{sz:Nat}[hf:Sz f sz][hp:Pl f]{H:Aa}{l:List α}{id b d cap k:Nat}{ex:Bool}(hg:AC H id 0=some (flat f l))(hi:b<=id)(hk:k<=l.length):Fg H b (d+3) (.ms id 0 0 k cap sz ex)=some (.sl (enL f (l.take k)) .no):=by
 have h1:¬id<b:=by omega
 have h2:k*sz<=l.length*sz:=W4 _ hk;have h3:(l.take k).length=k:=by simp;omega
 have h4:=M4 (f:=f) (l.take k);rw[h3]at h4;unfold Fg;simp only[frz,h1,if_false,hg,zXa,Xm,VU,Fi,h2,if_true,Nr,Hu (Ns (f:=f) (l.take k)),OR (f:=f) (l.take k),h4,zXb,Ev,fgt]
theorem Gn {l:List Nat}(h:Lim l):val l<4294967296^l.length:=by
 induction l with
 | nil=>simp[val]
 | cons x l ih=>
  have h1:=h x (by simp);have h2:=ih λy hy=>h y (by simp[hy]);have e:val (x::l)=x+4294967296*val l:=rfl;rw[e,zXj,Nat.pow_succ,Xi _ 4294967296];have:4294967296*(val l+1)<=4294967296*4294967296^l.length:=Yk _ h2;rw[Xd]at this;omega
theorem cut_nil (H:Aa)(tk:Tok):Sh.f1 (.sl [] tk) H=some (.ret (.sl [] .no),H):=by
 have hr:Sh.fa (.sl [] tk) H=some (.ret (.bool true),H):=by unfold Sh.fa;simp[A7]
 unfold Sh.f1;rw[DU Fe];unfold Sh.f12;simp only[Am,GMw,hr,Ei,forget,Ev,fgt]
theorem p_sub {a b:List Nat}{ta tb:Tok}(H:Aa)(ha:Lim a)(hb:Lim b)(hl:a.length<=1099511627776)(hle:b.length<=a.length)(hv:val b<=val a) :
  Sh.f3z (.sl (enL cU a) ta) (.sl (enL cU b) tb) H=some (.ret (.tup [.sl (enL cU (AA (val a-val b))) .no,.bool true]),H):=by
 have dS:=λK=>Pg (t:=ta) (t':=tb) K ha hb hl (by omega);have lE:decide (FH (val a:Int) (val b:Int)<0)=false:=by
  rw[Ga];exact zXd (by omega)
 have aG:=clone_u a ta H hl;unfold Sh.f3z;by_cases h0:a=[]
 ·subst h0;rw[if_pos rfl]at aG;have sD:b=[]:=Wk (by simpa using hle);subst sD;have hlen:A7 (.sl [] .ti)=some (.i6 0):=rfl;have d0:decide ((0:Int)<0)=false:=rfl;have e0:AA (val []-val [])=[]:=EH;simp only[GMw,dS,lE,aG,hlen];rw[DU Fe];unfold Sh.f26;simp only[Am,Aj,Bg,Bk,B4,BS,GMw,d0,cut_nil,Mf,Ci,Bu,B6,Ja,Ff,zXb,e0]
  rfl
 ·rw[if_neg h0]at aG;have hlen:A7 (.ms H.length 0 0 a.length a.length 1 false)=some (.i6 (a.length:Int)):=rfl;simp only[GMw,dS,lE,aG,hlen];refine Cm (G:=λrec1 vs H1=>Sh.f26 H rec1 (ag vs 0) (ag vs 1) (ag vs 2) (ag vs 3) (ag vs 4) H1) a.length
   (λi=>[.sl (enL cU b) tb,.ms H.length 0 0 a.length a.length 1 false,.int .u32 ((FG a b i).2:Int),.i6 (a.length:Int),.i6 (i:Int)])
   (λi=>H++[.buf 0 (flat cU ((FG a b i).1++a.drop i)) Ce 1]) _ (by omega) (λrec i hi=>?_) (λrec=>?_)
  ·obtain⟨h1,h2,h3,h4⟩:=difS_ok ha hb i;have d1:decide ((i:Int)<(a.length:Int))=true:=zXc (by omega);have aH:=ha _ (We hi);have hg:a[i]?.getD 0=a[i]:=by rw[VO hi];rfl
   have hidx:=CL (sz:=1) (id:=H.length) (n:=a.length) (K:=.i64) (g:=0) (off:=0) (cap:=a.length) (ex:=false) (i:=i) hi;simp only[VU,Wg]at hidx;have iV:AC (H++[Blk.buf 0 (flat cU ((FG a b i).1++a.drop i)) Ce 1]) H.length 0=some (flat cU ((FG a b i).1++a.drop i)):=by simp[AC]
   have hil:i<((FG a b i).1++a.drop i).length:=by rw[VX,h1,Ws];omega
   have nZ:((FG a b i).1++a.drop i)[i]=a[i]:=by
    rw[Xa (by omega)];simp only[h1,WB];rw[XL];rfl
   have hld:=Iy (f:=cU) iV hil;rw[nZ]at hld;have w6:IntKind.i64.wrap ((i:Int)+1)=((i+1:Nat):Int):=by rw[Ao] <;> omega
   have hst:=DS (f:=cU) (sz:=1) (a:=dgS (a[i]?.getD 0) (b[i]?.getD 0) (FG a b i).2) (v:=.int .u32 (dgS (a[i]?.getD 0) (b[i]?.getD 0) (FG a b i).2:Int)) iV hil rfl;have aI:((FG a b i).1++a.drop i).set i (dgS (a[i]?.getD 0) (b[i]?.getD 0) (FG a b i).2)=(FG a b (i+1)).1++a.drop (i+1):=by
    rw[W5 _ _ (by omega),h1,WB,Ww hi,List.set_cons_zero];simp only[FG,VZ,List.cons_append,List.nil_append]
   have yZ:∀cs,FO (H++[Blk.buf 0 (flat cU ((FG a b i).1++a.drop i)) Ce 1]) H.length 0 cs=H++[Blk.buf 0 cs Ce 1]:=λcs=>by simp[FO]
   rw[Wg,yZ,aI]at hst;rw[hg]at hst;have oF:=Kd hb i;have h32:∀K,Sh.f25 (.int .u32 (a[i]:Int)) (.int .u32 ((b[i]?.getD 0:Nat):Int)) (.int .u32 ((FG a b i).2:Int)) K=some (.ret (.tup [.int .u32 (dgS a[i] (b[i]?.getD 0) (FG a b i).2:Int),.int .u32 (bwS a[i] (b[i]?.getD 0) (FG a b i).2:Int)]),K):=λK=>p_sub32 aH oF h2 K;have cF:(FG a b (i+1)).2=bwS a[i] (b[i]?.getD 0) (FG a b i).2:=by simp only[FG,hg]
   unfold Sh.f26 Sh.f7s;by_cases rJ:i<b.length
   ·have d2:decide ((i:Int)<(b.length:Int))=true:=zXc (by omega);have nX:b[i]?.getD 0=b[i]:=by rw[VO rJ];rfl
    rw[nX]at h32 hst cF;simp only[Am,Aj,Bg,Bk,B4,BS,DG,GMw,d1,d2,Ax,A1 rJ,AE,zXh,hidx,hld,h32,B1,B8,hst,AL,w6,cF]
   ·have d2:decide ((i:Int)<(b.length:Int))=false:=zXd (by omega);have nX:b[i]?.getD 0=0:=by rw[zYb (by omega)];rfl
    rw[nX]at h32 hst cF;simp only[Int.natCast_zero]at h32;simp only[Am,Aj,Bg,Bk,B4,BS,DG,GMw,d1,d2,Ax,zXh,hidx,hld,h32,B1,B8,hst,AL,w6,cF]
  ·obtain⟨h1,h2,h3,h4⟩:=difS_ok ha hb a.length;have d1:decide ((a.length:Int)<(a.length:Int))=false:=zXd (by omega);rw[WJ,Wd hle]at h4;have hlt:=Gn h3;rw[h1]at hlt;have vX:(FG a b a.length).2=0:=by
    rcases Xk (FG a b a.length).2 with q | q
    ·exact q
    ·have:(FG a b a.length).2=1:=by omega
     rw[this,Wg]at h4;omega
   rw[vX,Nat.mul_zero]at h4;rw[YT,Wx];obtain⟨o,ho⟩:∃o,o=(FG a b a.length).1:=⟨_,rfl⟩;rw[<-ho]at h1 h3 h4 ⊢;have iV:AC (H++[Blk.buf 0 (flat cU o) Ce 1]) H.length 0=some (flat cU o):=by simp[AC]
   have eM:=q_cutG (ex:=false) iV (by omega);have htk:=JO h3 o.length (VV _);rw[WJ,show val o=val a-val b by omega]at htk;have eA:=fpart_msT (f:=cU) (sz:=1) (d:=3) (cap:=o.length) (ex:=false) iV (VV H.length) (On o o.length);rw[htk]at eA;rw[h1]at eM eA;unfold Sh.f26;simp only[Am,Aj,Bg,Bk,B4,BS,GMw,d1,eM,Cw,Ci,Bu,B6,Ff,eA,zXb,BH]
theorem O0 (neg:Bool)(n:Nat)(tk:Tok)(H:Aa):Sh.fc (.bool neg) (.sl (enL cU (AA n)) tk) H=some (.ret (big (if neg then -(n:Int)else n)),H):=by
 unfold Sh.fc big;rw[<-big_sgn];have hp:=QV n;cases neg with
 | false=>simp[A6,Gy,CZ,sgn,BV]
 | true=>
  simp only[J2,C9,zXa,Ax,Dy,hp,sgn,zXn,alloc_eq (cs:=[.bool false,.sl [] .ti]) rfl,Bv];simp[A6,Gy,CZ,BV]
theorem p_minus (z:Int)(H:Aa):Sh.f2h (big z) H=some (.ret (big (-z)),H):=by
 have e:(if (!decide (z<0))=true then -(z.natAbs:Int)else (z.natAbs:Int)) = -z:=by
  by_cases h:z<0
  ·rw[zXc h,WH,if_neg (by decide)];omega
  ·rw[zXd h,WT,if_pos rfl];omega
 have ez:∀K,Sh.fc (.bool (!decide (z<0))) (.sl (enL cU (AA z.natAbs)) .no) K=some (.ret (big (-z)),K):=λK=>by
  rw[O0,e]
 unfold Sh.f2h;simp[DL,ez]
theorem u64_neg {n:Int}(h0:-9223372036854775808<=n)(h:n<0):unA .neg (.int .u64 (IntKind.u64.wrap n))=some (.int .u64 (n.natAbs:Int)):=by
 have w:IntKind.u64.wrap (0-IntKind.u64.wrap n)=(n.natAbs:Int):=by
  rw[JN (n:=n) (by omega) h,JN (by omega) (by omega)];omega
 rw[show unA .neg (.int .u64 (IntKind.u64.wrap n))=some (.int .u64 (IntKind.u64.wrap (0-IntKind.u64.wrap n))) from rfl,w]
theorem p_norm {l:List Nat}{tk:Tok}(H:Aa)(hx:Lim l)(hl:l.length<=1099511627776):Sh.f3v (.sl (enL cU l) tk) H=some (.ret (.sl (enL cU (AA (val l))) .no),H):=by
 have aG:=clone_u l tk H hl;unfold Sh.f3v;by_cases h0:l=[]
 ·subst h0;rw[if_pos rfl,HM]at aG;rw[HM];simp only[GMw,aG,cut_nil,Mf,show val []=0 from rfl,EH,I4,zXb,HM]
 ·rw[if_neg h0]at aG;have iV:AC (H++[Blk.buf 0 (flat cU l) Ce 1]) H.length 0=some (flat cU l):=by simp[AC]
  have eM:=q_cutG (ex:=false) iV (by omega);have htk:=JO hx l.length (VV _);rw[WJ]at htk;have eA:=Ts (f:=cU) (sz:=1) (d:=5) (cap:=l.length) (ex:=false) iV (VV H.length) (On l l.length);rw[htk]at eA;simp only[GMw,aG,eM,Cw,eA]
  rfl
theorem p_of (n:Int)(H:Aa)(h0:-9223372036854775808<=n)(h1:n<=9223372036854775807):Sh.f14 (.i6 n) H=some (.ret (big n),H):=by
 obtain⟨u,hu⟩:∃u:Nat,u=n.natAbs:=⟨_,rfl⟩;have hlim:Lim [u%4294967296,u / 4294967296]:=λx hx=>by
  simp at hx;rcases hx with rfl | rfl <;> omega
 have bB:val [u%4294967296,u / 4294967296]=u:=by simp[val];omega
 have ez:(if decide (n<0)=true then -(u:Int)else (u:Int))=n:=by
  by_cases h:n<0 <;> simp[h] <;> omega
 have uO:=λH=>p_norm (l:=[u%4294967296,u / 4294967296]) (tk:=.ti) H hlim (by simp);rw[bB]at uO;have a1:=λH=>O0 (decide (n<0)) u .no H;rw[ez]at a1;have e3:AJ .u32 (.int .u64 (u:Int))=some (.int .u32 ((u%4294967296:Nat):Int)):=by rw[B3,Pz]
 have e2:=Nx u;have e4:AJ .u32 (.int .u64 ((u / 4294967296:Nat):Int))=some (.int .u32 ((u / 4294967296:Nat):Int)):=by rw[B3,Do (by omega) (by omega)]
 have j1:Sh.f6v H (.i6 n) (.ptr H.length 0 0) (.int .u64 (u:Int)) (H++[.cel 0 [.bool false,.sl [] .ti]])=some (.ret (big n),H):=by
  unfold Sh.f6v;simp only[Br,zXa,e3,e2,e4,build_2U,uO,a1,CH];simp
 unfold Sh.f14;simp only[alloc_eq (cs:=[.bool false,.sl [] .ti]) rfl,Bv,B3,zXa,AK,Br,Am,Bg,Bk];by_cases h:n<0
 ·have un:=u64_neg h0 h;rw[<-hu]at un;rw[zXc h];simp only[AZ,un,zXa,Am,Bg,Bk];exact j1
 ·have w:IntKind.u64.wrap n=(u:Int):=by rw[Cs (by omega) (by omega)];omega
  rw[zXd h];simp only[AQ,w,Am,Bg,Bk];exact j1
theorem Nk {m n:Nat}(h:m<=n):(AA m).length<=(AA n).length:=by
 refine Fb ?_;have:=Gn (Bz n);rw[BA]at this;omega
theorem SD {a b:Int}(H:Aa)(ha:LB a)(hb:LB b):Sh.fs (big a) (big b) H=some (.ret (big (a+b)),H):=by
 have sg:∀(neg:Bool) (m:Nat) (z:Int) (tk:Tok) (K:Aa),(if neg then -(m:Int)else (m:Int))=z->Sh.fc (.bool neg) (.sl (enL cU (AA m)) tk) K=some (.ret (big z),K):=λneg m z tk K h=>by rw[O0,h]
 unfold LB at ha hb;have dK:=λK=>p_add (ta:=.no) (tb:=.no) K (Bz a.natAbs) (Bz b.natAbs) (by omega) (by omega);have dS:=λK=>Pg (t:=.no) (t':=.no) K (Bz a.natAbs) (Bz b.natAbs) (by omega) (by omega);simp only[BA]at dK dS;unfold Sh.fs;by_cases hn:decide (a<0)=decide (b<0)
 ·have ez:(if decide (a<0)=true then -((a.natAbs+b.natAbs:Nat):Int)else ((a.natAbs+b.natAbs:Nat):Int))=a+b:=by
   by_cases h1:a<0
   ·have h2:b<0:=by rw[zXc h1]at hn;exact of_decide_eq_true hn.symm
    rw[zXc h1,if_pos rfl];omega
   ·have h2:¬b<0:=by rw[zXd h1]at hn;exact of_decide_eq_false hn.symm
    rw[zXd h1,if_neg (by decide)];omega
  have hbb:(decide (a<0) == decide (b<0))=true:=by rw[hn];exact beq_self_eq_true _
  simp only[DL,Bv,VZ,List.singleton_append];simp[WD,DL,Kv,hbb,BP,dK,sg _ _ _ _ _ ez]
 ·have hbb:(decide (a<0) == decide (b<0))=false:=by
   rw[beq_eq_false_iff_ne];exact hn
  by_cases hv:a.natAbs<b.natAbs
  ·have jE:=λK=>p_sub (ta:=.no) (tb:=.no) K (Bz b.natAbs) (Bz a.natAbs) (by omega) (Nk (by omega)) (by rw[BA,BA];omega);simp only[BA]at jE;have hlt:decide (FH (a.natAbs:Int) (b.natAbs:Int)<0)=true:=by rw[Ga];exact zXc (by omega)
   have ez:(if decide (b<0)=true then -((b.natAbs-a.natAbs:Nat):Int)else ((b.natAbs-a.natAbs:Nat):Int))=a+b:=by
    by_cases h1:b<0
    ·have h2:¬a<0:=λh=>hn (by rw[zXc h1,zXc h]);rw[zXc h1,if_pos rfl];omega
    ·have h2:a<0:=by
      rcases Int.lt_or_le a 0 with h | h
      ·exact h
      ·exact (hn (by rw[zXd h1,zXd (by omega)])).elim
     rw[zXd h1,if_neg (by decide)];omega
   have c0:=AZ;simp only[DL,Bv,VZ,List.singleton_append];unfold Sh.f6x;simp[WD,DL,Kv,hbb,BP,dS,hlt,jE,sg _ _ _ _ _ ez,AK,B1,B8]
  ·have jE:=λK=>p_sub (ta:=.no) (tb:=.no) K (Bz a.natAbs) (Bz b.natAbs) (by omega) (Nk (by omega)) (by rw[BA,BA];omega);simp only[BA]at jE;have hlt:decide (FH (a.natAbs:Int) (b.natAbs:Int)<0)=false:=by rw[Ga];exact zXd (by omega)
   have ez:(if decide (a<0)=true then -((a.natAbs-b.natAbs:Nat):Int)else ((a.natAbs-b.natAbs:Nat):Int))=a+b:=by
    by_cases h1:a<0
    ·have h2:¬b<0:=λh=>hn (by rw[zXc h1,zXc h]);rw[zXc h1,if_pos rfl];omega
    ·have h2:b<0:=by
      rcases Int.lt_or_le b 0 with h | h
      ·exact h
      ·exact (hn (by rw[zXd h1,zXd (by omega)])).elim
     rw[zXd h1,if_neg (by decide)];omega
   simp only[DL,Bv,VZ,List.singleton_append];unfold Sh.f6x;simp[WD,DL,Kv,hbb,BP,dS,hlt,jE,sg _ _ _ _ _ ez,AK,B1,B8]
theorem p_subB {a b:Int}(H:Aa)(ha:LB a)(hb:LB b):Sh.f4e (big a) (big b) H=some (.ret (big (a-b)),H):=by
 unfold Sh.f4e;simp only[DL,Bv,VZ,List.singleton_append];simp[WD,DL,BP,p_minus,SD _ ha hb.neg,Int.sub_eq_add_neg]
theorem or_u32 {x y:Nat}(hx:x<4294967296)(hy:y<4294967296):Ae .none .or (.int .u32 (x:Int)) (.int .u32 (y:Int))=some (.int .u32 ((x ||| y:Nat):Int)):=by
 have h:=(Kt (BitVec.ofNat 32 x) (BitVec.ofNat 32 y)).2.1;rw[BitVec.toNat_or,X2,X2,WX hx,WX hy]at h;rw[MP .or rfl _ _ (λ_ _ _=>rfl)];exact h
theorem shl_one {K:IntKind}{r:Nat}(h:r<32)(hw:K.wrap ((2^r:Nat):Int)=((2^r:Nat):Int))(hb:32<=K.bits):Ae .none .shl (.int K 1) (.i6 (r:Int))=some (.int K ((2^r:Nat):Int)):=by
 show HR .shl K 1 (r:Int)=_;unfold HR;rw[if_neg (by omega)];have e:(2:Int)^r=((2^r:Nat):Int):=by simp
 simp only[zXl,WR (show r<=K.bits by omega),Int.one_mul,e,hw]
theorem Oz {r:Nat}(h:r<32):2^r<4294967296:=by
 have:(2:Nat)^r<2^32:=YA (by decide) h;simpa using this
theorem val_repl0 (k:Nat)(l:List Nat):val (List.replicate k 0++l)=4294967296^k*val l:=by
 rw[Cz,Yf];have:val (List.replicate k 0)=0:=by
  induction k with
  | zero=>rfl
  | succ k ih=>rw[zXm];show 0+4294967296*val (List.replicate k 0)=0;rw[ih]
 rw[this,VU]
theorem wrapN {n:Nat}(h:n<4294967296):IntKind.u32.wrap (n:Int)=(n:Int)/\IntKind.u64.wrap (n:Int)=(n:Int):=
 ⟨Do (by omega) (by omega),Cs (by omega) (by omega)⟩
def K5 (m:Nat):List Nat:=List.replicate (m / 32) 0++[2^(m%32),0]
theorem Mj (m:Nat):(K5 m).length=m / 32+2:=by simp[K5]
theorem powL_lim (m:Nat):Lim (K5 m):=by
 intro x hx;rcases Wn.1 hx with h | h
 ·rw[(XR.1 h).2];decide
 ·rcases WG.1 h with rfl | h
  ·exact Oz (Xz _ (by decide))
  ·rw[Wm.1 h];decide
theorem powL_val (m:Nat):val (K5 m)=2^m:=by
 unfold K5;rw[val_repl0];have:val [2^(m%32),0]=2^(m%32):=by simp[val]
 rw[this,show (4294967296:Nat)=2^32 from by decide,<-Yu,<-Nat.pow_add,XK]
theorem UE (v:Nat):∀k,(List.replicate (k+2) 0).set k v=List.replicate k 0++[v,0]
 | 0=>rfl
 | k+1=>by
  rw[zXm,List.set_cons_succ,UE v k,zXm,List.cons_append]
theorem powL_set1 (m:Nat):(List.replicate (m / 32+2) 0).set (m / 32) (2^(m%32))=K5 m:=by
 exact UE _ _
theorem powL_set2 (m:Nat):(K5 m).set (m / 32+1) 0=K5 m:=by
 unfold K5;rw[W5 _ _ (by simp)];simp
theorem p_shl1 {m:Nat}(hm:m<=10000)(H:Aa):Sh.f4j (.sl (enL cU [1]) .ti) (.i6 (m:Int)) H=some (.ret (.sl (enL cU (AA (2^m))) .no),H):=by
 have f1:decide ((m:Int)>=0)=true:=zXc (by omega);have f2:decide ((m:Int)<=10000)=true:=zXc (by omega);have hr:m%32<32:=Xz _ (by decide);have hq:Ae .none .quo (.i6 (m:Int)) (.i6 32)=some (.i6 ((m / 32:Nat):Int)):=by
  show some (Ab.i6 (IntKind.i64.wrap (((m / 32:Nat):Int))))=_;rw[Ao (by omega) (by omega)]
 have tZ:Ae .none .rem (.i6 (m:Int)) (.i6 32)=some (.i6 ((m%32:Nat):Int)):=rfl;have w1:IntKind.i64.wrap (((1:Nat):Int)+((m / 32:Nat):Int))=((m / 32+1:Nat):Int):=by rw[Ao] <;> omega
 have w2:IntKind.i64.wrap (((m / 32+1:Nat):Int)+1)=((m / 32+2:Nat):Int):=by rw[Ao] <;> omega
 have w3:IntKind.i64.wrap (((0:Nat):Int)+((m / 32:Nat):Int))=((m / 32:Nat):Int):=by rw[Ao] <;> omega
 have w4:IntKind.i64.wrap (((m / 32:Nat):Int)+1)=((m / 32+1:Nat):Int):=by rw[Ao] <;> omega
 have w5:IntKind.i64.wrap (((0:Nat):Int)+1)=((1:Nat):Int):=rfl;have cX:=Fz (f:=cU) (a:=0) (n:=m / 32+2) (bytes:=4) (H:=H) (by omega) (by omega);simp only[show cU 0=[Ab.int .u32 0] from rfl]at cX;have xI:(enL cU [1]).length=1:=rfl;have bI:∀K,Sh.f4h (.i6 (m:Int)) K=some (.ret (.bool true),K):=λK=>by
  unfold Sh.f4h;simp only[GMw,f1,f2]
 have d0:decide (((0:Nat):Int)<((1:Nat):Int))=true:=rfl;have d1:decide (((1:Nat):Int)<((1:Nat):Int))=false:=rfl;have ix0:Av 1 (.sl (enL cU [1]) .ti) (.i6 ((0:Nat):Int))=some (.cptr [.int .u32 1] 0):=rfl;have ld0:∀K,Ac false 1 (.cptr [.int .u32 1] 0) K=some (.int .u32 1):=λ_=>rfl;have lsl:A7 (.sl (enL cU [1]) .ti)=some (.i6 ((1:Nat):Int)):=rfl;have hlt:=Oz hr;have s1:=shl_one (K:=.u32) hr (wrapN hlt).1 (by decide);have s2:=shl_one (K:=.u64) hr (wrapN hlt).2 (by decide);have c1:AJ .u64 (.int .u32 1)=some (.int .u64 1):=rfl;have sh:Ae .none .shr (.int .u64 ((2^(m%32):Nat):Int)) (.int .u64 32)=some (.int .u64 0):=by
  rw[Nx,Xt (Oz hr)];rfl
 have c2:AJ .u32 (.int .u64 0)=some (.int .u32 0):=rfl;have o1:=or_u32 (x:=0) (y:=2^(m%32)) (by decide) (Oz hr);rw[Nat.zero_or]at o1;have o2:Ae .none .or (.int .u32 ((0:Nat):Int)) (.int .u32 0)=some (.int .u32 ((0:Nat):Int)):=or_u32 (x:=0) (y:=0) (by decide) (by decide);have hidx:=CL (sz:=1) (id:=H.length) (n:=m / 32+2) (K:=.i64) (g:=0) (off:=0) (cap:=m / 32+2) (ex:=true) (i:=m / 32) (by omega);have mJ:=CL (sz:=1) (id:=H.length) (n:=m / 32+2) (K:=.i64) (g:=0) (off:=0) (cap:=m / 32+2) (ex:=true) (i:=m / 32+1) (by omega);simp only[VU,Wg]at hidx mJ;have g1:AC (H++[Blk.cel 0 (flat cU (List.replicate (m / 32+2) 0))]) H.length 0=some (flat cU (List.replicate (m / 32+2) 0)):=Aw Al;have g2:AC (H++[Blk.cel 0 (flat cU (K5 m))]) H.length 0=some (flat cU (K5 m)):=Aw Al;have ld1:Ac false 1 (.ptr H.length 0 (m / 32)) (H++[Blk.cel 0 (flat cU (List.replicate (m / 32+2) 0))])=some (.int .u32 ((0:Nat):Int)):=by
  rw[Iy g1 (by simp),List.getElem_replicate];rfl
 have ld2:Ac false 1 (.ptr H.length 0 (m / 32+1)) (H++[Blk.cel 0 (flat cU (K5 m))])=some (.int .u32 ((0:Nat):Int)):=by
  have hi:m / 32+1<(K5 m).length:=by rw[Mj];omega
  have:(K5 m)[m / 32+1]=0:=by simp[K5,Xa]
  rw[Iy g2 hi,this];rfl
 have st1:=DS (f:=cU) (sz:=1) (i:=m / 32) (a:=2^(m%32)) (v:=.int .u32 ((2^(m%32):Nat):Int)) g1 (by simp) rfl;rw[Wg,Bt Al,Be,powL_set1]at st1;have st2:=DS (f:=cU) (sz:=1) (i:=m / 32+1) (a:=0) (v:=.int .u32 ((0:Nat):Int)) g2 (by rw[Mj];omega) rfl;rw[Wg,Bt Al,Be,powL_set2]at st2;have ht:=add_tail (H:=H) (o:=K5 m) (by rw[Mj];omega) (powL_lim m) (powL_val m);have eM:=q_cut (l:=K5 m) (H:=H++[Blk.cel 0 (flat cU (K5 m))]) (id:=H.length) Al (by rw[Mj];omega);rw[Mj]at ht eM;rw[eM]at ht;simp only[zXa]at ht;unfold Sh.f4j;simp only[bI,GMw,J8,WH,lsl,hq,w1,w2,cX];refine Cm (G:=λrec1 vs H1=>Sh.f4i H rec1 (ag vs 0) (ag vs 1) (ag vs 2) (ag vs 3) (ag vs 4) H1) 1
  (λi=>[.i6 (m:Int),.ms H.length 0 0 (m / 32+2) (m / 32+2) 1 true,.sl (enL cU [1]) .ti,.i6 ((1:Nat):Int),.i6 (i:Int)])
  (λi=>H++[.cel 0 (flat cU (if i=0 then List.replicate (m / 32+2) 0 else K5 m))]) _ (by decide) (λrec i hi=>?_) (λrec=>?_)
 ·have jC:i=0:=by omega
  subst jC;unfold Sh.f4i;simp only[if_true,if_neg (show ¬(0+1=0)by decide),Am,Aj,Bg,Bk,B4,BS,GMw,d0,ix0,ld0,hq,w3,hidx,ld1,tZ,s1,o1,st1,AL,w4,mJ,ld2,c1,s2,sh,c2,o2,st2,w5,BP]
 ·unfold Sh.f4i;simp only[if_neg (show ¬(1=0)by decide),Am,Aj,Bg,Bk,B4,BS,GMw,d1,eM];exact ht
set_option maxRecDepth 8000
theorem p_right (l:List Nat)(tk:Tok)(H:Aa)(hl:l.length<=1099511627776):Sh.fa (.sl (enL cU l) tk) H=some (.ret (.bool (Gg l)),H):=by
 unfold Sh.fa;rcases Ht l with rfl | ⟨l',x,rfl⟩
 ·simp[Gg]
 ·simp only[VX,zXi]at hl;have h1:l'.length<(l'++[x]).length:=by simp
  have h3:IntKind.i64.wrap ((((l'++[x]).length:Nat):Int)-1)=(l'.length:Int):=by rw[Ao] <;> simp <;> omega
  have hne:((((l'++[x]).length:Nat):Int) == 0)=false:=by simp;omega
  have hb:((x:Int) != 0)=(x != 0):=by rw[Wo];simp
  simp only[Ax,zXa,DR,hne,Mt,Dx,h3,A1 h1,AE,zXh,Xa (VV _),WB,List.getElem_cons_zero,IB,C2,NG,hb];simp[Gg]
theorem SC (neg:Bool)(l:List Nat)(tk:Tok)(H:Aa)(hl:l.length<=549755813888):Sh.f2a (.agg [.bool neg,.sl (enL cU l) tk]) H=some (.ret (.bool (HH neg l)),H):=by
 unfold Sh.f2a HH;have hq:=λH=>p_right l tk H (by omega);cases hr:Gg l with
 | false=>simp[Cp,hq,hr]
 | true=>
  cases neg with
  | false=>simp[Cp,hq,hr]
  | true=>cases l <;> simp[Cp,hq,hr] <;> omega
theorem p_pow {m:Nat}(hm:m<=10000)(H:Aa):Sh.f4k (.i6 (m:Int)) H=some (.ret (big (2^m)),H):=by
 have hs:∀K,Sh.fc (.bool false) (.sl (enL cU (AA (2^m))) .no) K=some (.ret (big (2^m)),K):=λK=>by
  rw[O0];have:(if false=true then -((2^m:Nat):Int)else ((2^m:Nat):Int))=2^m:=by simp
  rw[this]
 have hb:AS 1 [.int .u32 1]=some (.sl (enL cU [1]) .ti):=rfl;have h1:=λK=>p_shl1 hm K;unfold Sh.f4k;simp only[alloc_eq (cs:=[.bool false,.sl [] .ti]) rfl,GMw,hb,h1,hs];simp
def blN (n:Nat):Nat:=if n=0 then 0 else n.log2+1
theorem J5 {n k:Nat}:blN n<=k↔n<2^k:=by
 unfold blN;by_cases h:n=0
 ·have:0<2^k:=XV (by decide);rw[if_pos h];omega
 ·rw[if_neg h,<-Nat.log2_lt h];omega
theorem blN_div {n j:Nat}(h:2^j<=n):blN n=blN (n / 2^j)+j:=by
 have hp:0<2^j:=XV (by decide);refine Nat.le_antisymm (J5.2 ?_) ?_
 ·have:=J5.1 (VV (blN (n / 2^j)));rw[Nat.pow_add];exact (Xr hp).1 this
 ·have h1:=J5.1 (VV (blN n));have h2:j<blN n:=(Nat.pow_lt_pow_iff_right (by decide:1<2)).1 (WI h h1);have h3:blN (n / 2^j)<=blN n-j:=J5.2 ((Xr hp).2 (by rw[<-Nat.pow_add,Nat.sub_add_cancel (by omega)];exact h1));omega
theorem len_tab:∀x,x<256->(([0,1,2,2,3,3,3,3,4,4,4,4,4,4,4,4,5,5,5,5,5,5,5,5,5,5,5,5,5,5,5,5,6,6,6,6,6,6,6,6,6,6,6,6,6,6,6,6,6,6,6,6,6,6,6,6,6,6,6,6,6,6,6,6,7,7,7,7,7,7,7,7,7,7,7,7,7,7,7,7,7,7,7,7,7,7,7,7,7,7,7,7,7,7,7,7,7,7,7,7,7,7,7,7,7,7,7,7,7,7,7,7,7,7,7,7,7,7,7,7,7,7,7,7,7,7,7,7,8,8,8,8,8,8,8,8,8,8,8,8,8,8,8,8,8,8,8,8,8,8,8,8,8,8,8,8,8,8,8,8,8,8,8,8,8,8,8,8,8,8,8,8,8,8,8,8,8,8,8,8,8,8,8,8,8,8,8,8,8,8,8,8,8,8,8,8,8,8,8,8,8,8,8,8,8,8,8,8,8,8,8,8,8,8,8,8,8,8,8,8,8,8,8,8,8,8,8,8,8,8,8,8,8,8,8,8,8,8,8,8,8,8,8,8,8,8,8,8,8,8,8,8,8,8,8,8]:List UInt8)[x]?).map UInt8.toNat=some (blN x):=by decide +kernel
theorem len_idx {x:Nat}(h:x<256):Es (.str [0,1,2,2,3,3,3,3,4,4,4,4,4,4,4,4,5,5,5,5,5,5,5,5,5,5,5,5,5,5,5,5,6,6,6,6,6,6,6,6,6,6,6,6,6,6,6,6,6,6,6,6,6,6,6,6,6,6,6,6,6,6,6,6,7,7,7,7,7,7,7,7,7,7,7,7,7,7,7,7,7,7,7,7,7,7,7,7,7,7,7,7,7,7,7,7,7,7,7,7,7,7,7,7,7,7,7,7,7,7,7,7,7,7,7,7,7,7,7,7,7,7,7,7,7,7,7,7,8,8,8,8,8,8,8,8,8,8,8,8,8,8,8,8,8,8,8,8,8,8,8,8,8,8,8,8,8,8,8,8,8,8,8,8,8,8,8,8,8,8,8,8,8,8,8,8,8,8,8,8,8,8,8,8,8,8,8,8,8,8,8,8,8,8,8,8,8,8,8,8,8,8,8,8,8,8,8,8,8,8,8,8,8,8,8,8,8,8,8,8,8,8,8,8,8,8,8,8,8,8,8,8,8,8,8,8,8,8,8,8,8,8,8,8,8,8,8,8,8,8,8,8,8,8,8,8]) (.int .u8 (x:Int))=some (.int .u8 (blN x:Int)):=by
 have:=len_tab x h;obtain⟨b,h1,h2⟩:=XZ.1 this;unfold Es;simp only[];rw[if_pos (Xl x),zXl,h1,zXb,h2]
theorem len_j2 {x n:Nat}(hx:x<256)(hn:n<=24)(H:Aa):Sh.f76 H (.int .u32 (x:Int)) (.i6 (n:Int)) H=some (.ret (.i6 ((n+blN x:Nat):Int)),H):=by
 have hb:blN x<=8:=J5.2 hx;have c1:AJ .u8 (.int .u32 (x:Int))=some (.int .u8 (x:Int)):=by rw[B3,R1 (by omega) (by omega)]
 have c2:AJ .i64 (.int .u8 (blN x:Int))=some (.i6 (blN x:Int)):=by rw[B3,Ao (by omega) (by omega)]
 have w:IntKind.i64.wrap ((n:Int)+(blN x:Int))=((n+blN x:Nat):Int):=by rw[Ao] <;> omega
 unfold Sh.f76;simp only[c1,zXa];rw[len_idx hx];simp only[c2,GMw,w]
theorem shr_u32 (x k:Nat)(hk:k<=32):Ae .none .shr (.int .u32 (x:Int)) (.int .u64 (k:Int))=some (.int .u32 ((x / 2^k:Nat):Int)):=by
 show HR .shr .u32 (x:Int) (k:Int)=_;unfold HR;rw[if_neg (by omega)];simp only[zXl];rw[show min k IntKind.u32.bits=k from WR hk,XO _ (Int.le_of_lt (XA (by decide)))];have:((2:Int)^k)=((2^k:Nat):Int):=by simp
 rw[this]
 rfl
theorem len_j1 {x n:Nat}(hx:x<65536)(hn:n<=16)(H:Aa):Sh.f77 H (.int .u32 (x:Int)) (.i6 (n:Int)) H=some (.ret (.i6 ((n+blN x:Nat):Int)),H):=by
 unfold Sh.f77;by_cases h:256<=x
 ·have d:decide ((x:Int)>=256)=true:=zXc (by omega);have s:=shr_u32 x 8 (by decide);have w:IntKind.i64.wrap ((n:Int)+8)=((n+8:Nat):Int):=by rw[Ao] <;> omega
  have e:=blN_div (n:=x) (j:=8) h;simp only[show ((8:Nat):Int)=8 from rfl]at s;simp only[AK,GMw,d,s,w];rw[len_j2 (by omega) (by omega),e,show n+8+blN (x / 2^8)=n+(blN (x / 2^8)+8)by omega]
 ·have d:decide ((x:Int)>=256)=false:=zXd (by omega);simp only[AK,GMw,d];exact len_j2 (by omega) (by omega) H
theorem p_len32 {x:Nat}(hx:x<4294967296)(H:Aa):Sh.f4f (.int .u32 (x:Int)) H=some (.ret (.i6 (blN x:Int)),H):=by
 unfold Sh.f4f;by_cases h:65536<=x
 ·have d:decide ((x:Int)>=65536)=true:=zXc (by omega);have s:=shr_u32 x 16 (by decide);have e:=blN_div (n:=x) (j:=16) h;simp only[show ((16:Nat):Int)=16 from rfl]at s;have:=len_j1 (x:=x / 2^16) (n:=16) (by omega) (by omega) H;simp only[show ((16:Nat):Int)=16 from rfl]at this;simp only[AK,GMw,d,s];rw[this,e,Y2]
 ·have d:decide ((x:Int)>=65536)=false:=zXd (by omega);have:=len_j1 (x:=x) (n:=0) (by omega) (by omega) H;simp only[Int.natCast_zero,VU]at this;simp only[AK,GMw,d];exact this
theorem Hs {H:Aa}{p o:Nat}{cs:List Ab}{v:Ab}(h:H[p]? = some (.cel 0 cs))(hv:v.isScal=true)(ho:o<cs.length):Af 1 (.ptr p 0 o) v H=some (H.set p (.cel 0 (cs.set o v))):=by
 have hc:v.acells=some [v]:=by cases v <;> first | rfl | (simp[Ab.isScal]at hv)
 simp only[Af,Aw h,BH,hc,zXi];rw[if_pos ⟨trivial,by omega⟩,Bt h,show CZ cs o 1 [v]=cs.set o v from by rw[XX,if_pos ho];simp[CZ]]
theorem P4 {H:Aa}{p sz:Nat}{cs ws:List Ab}(h:H[p]? = some (.cel 0 cs))(hl:cs.length=sz)(gQ:ws.length=sz)(hs:ws.all Ab.isScal=true):Af sz (.ptr p 0 0) (.agg ws) H=some (H.set p (.cel 0 ws)):=by
 simp only[Af,Aw h,BH,BV hs,hl,gQ,VU,VV,and_self,if_true,Dq hl,Bt h]
theorem PM {H:Aa}{p sz:Nat}{cs:List Ab}(h:H[p]? = some (.cel 0 cs))(hl:cs.length=sz):Ac true sz (.ptr p 0 0) H=some (.agg cs):=by
 simp only[Ac,Aw h,BH,if_true,Xm,hl,VU,VV];rw[Wd (Yb hl)]
theorem C8 {H:Aa}{p o sz:Nat}{cs:List Ab}(h:H[p]? = some (.cel 0 cs)):Ac false sz (.ptr p 0 o) H=cs[o]? := by
 simp only[Ac,Aw h,BH];rfl
def TZ:Ab->Bool
 | .agg cs=>cs.all Jo
 | v=>Jo v
theorem plnT_frz {v:Ab}{H:Aa}{n d:Nat}(h:TZ v=true):frz H n (d+3) v=some v:=by
 cases v with
 | agg cs=>
  have h':cs.all Jo=true:=h;simp only[frz,Hu h',zXb]
 | _=>exact plnC_frz (d:=d+2) h
theorem Vb {H:Aa}{n d:Nat}:∀ {cs:List Ab},cs.all TZ=true->Gi H n (d+4) cs=some cs
 | [],_=>by simp[Gi]
 | c::cs,h=>by
  simp only[List.all_cons,Wc]at h;simp[Gi,plnT_frz h.1,Vb h.2]
theorem rP_aggP {H G:Aa}{cs:List Ab}(h:cs.all Jo=true):rP H (.agg cs) (H++G)=some (.ret (.agg cs),H):=by
 rw[rP_eq _ (by simp)];simp only[frz,Hu h,zXb]
theorem rP_tupP {H G:Aa}{cs:List Ab}(h:cs.all TZ=true):rP H (.tup cs) (H++G)=some (.ret (.tup cs),H):=by
 rw[rP_eq _ (by simp)];simp only[frz,Vb h,zXb]
theorem P0 {g o:Nat}{v:Ab}{cs:List Ab}{G:Aa}(hv:v.isScal=true)(h:o<cs.length):Af 1 (.ptr 0 g o) v (.cel g cs::G)=some (.cel g (cs.set o v)::G):=by
 have hc:v.acells=some [v]:=by cases v <;> first | rfl | (simp[Ab.isScal]at hv)
 rw[Sf,hc];simp only[BH,zXi];rw[if_pos ⟨trivial,by omega⟩,XX,if_pos h];simp[CZ]
theorem store_agg {sz g:Nat}{cs ws:List Ab}{G:Aa}(h:cs.length=sz)(h2:ws.length=sz)(h3:ws.all Ab.isScal=true):Af sz (.ptr 0 g 0) (.agg ws) (.cel g cs::G)=some (.cel g ws::G):=P1 (BV h3) h h2
theorem nil_ptr {id g o:Nat}:Ai (.ptr id g o)=some (.ptr id g o):=(rfl)
theorem app_app (a b c:Aa):a++b++c=a++(b++c):=VZ a b c
theorem len_app (a b:Aa):(a++b).length=a.length+b.length:=VX
theorem F4 (x:Ab)(b:List Ab):(x::b)[0]? = some x:=(rfl)
theorem Ke (x:Ab)(b:List Ab)(i:Nat):(x::b)[i+1]? = b[i]? := (rfl)
def Jz (x:Nd):List Ab:=[.i6 x.k0,.i6 x.k1,.i6 x.k2,.i6 x.k3]
theorem ld_kids (x:Nd)(H:Aa):Ac true 4 (.cptr (cNd x) 1) H=some (.agg (Jz x)):=(rfl)
theorem ag_kid (x:Nd){k:Nat}(hk:k<4)(K:IntKind):JG false 4 1 (.agg (Jz x)) (.int K (k:Int))=some (.i6 (x.kid k)):=by
 match k,hk with
 | 0,_=>rfl
 | 1,_=>rfl
 | 2,_=>rfl
 | 3,_=>rfl
theorem FR (g:Nat)(x:Nd)(G:Aa):Ac true 4 (.ptr 0 g 1) (.cel g (cNd x)::G)=some (.agg (Jz x)):=by
 rw[show Ac true 4 (.ptr 0 g 1) (.cel g (cNd x)::G)=if 1+4<=(cNd x).length then some (.agg (((cNd x).drop 1).take 4))else none from by simp only[Ac,Kb];rfl]
 rfl
theorem FY (x:Nd):(cNd x).length=5:=(rfl)
theorem HPa:(((∀(H G:Aa) (a:Bool) (sz k g o:Nat),Ac a sz (.ptr (H.length+k) g o) (H++G)=Ac a sz (.ptr k g o) G) /\
  (∀(H G:Aa) (a:Bool) (sz g o:Nat),Ac a sz (.ptr H.length g o) (H++G)=Ac a sz (.ptr 0 g o) G)) /\
  ((∀(b:Blk) (G:Aa) (a:Bool) (sz k g o:Nat),Ac a sz (.ptr (k+1) g o) (b::G)=Ac a sz (.ptr k g o) G) /\
  (∀(cs:List Ab) (G:Aa) (sz g o:Nat),Ac false sz (.ptr 0 g o) (.cel g cs::G)=cs[o]?) /\
  (∀(cs:List Ab) (G:Aa) (sz g:Nat),cs.length=sz->Ac true sz (.ptr 0 g 0) (.cel g cs::G)=some (.agg cs)))) /\
 (((∀(H G:Aa) (v:Ab) (sz k g o:Nat),Af sz (.ptr (H.length+k) g o) v (H++G)=(Af sz (.ptr k g o) v G).map (H++·)) /\
  (∀(H G:Aa) (v:Ab) (sz g o:Nat),Af sz (.ptr H.length g o) v (H++G)=(Af sz (.ptr 0 g o) v G).map (H++·))) /\
  ((∀(b:Blk) (G:Aa) (v:Ab) (sz k g o:Nat),Af sz (.ptr (k+1) g o) v (b::G)=(Af sz (.ptr k g o) v G).map (b::·)) /\
  (∀(cs:List Ab) (G:Aa) (v:Ab) (g o:Nat),v.isScal=true->o<cs.length->Af 1 (.ptr 0 g o) v (.cel g cs::G)=some (.cel g (cs.set o v)::G)) /\
  (∀(cs ws:List Ab) (G:Aa) (sz g:Nat),cs.length=sz->ws.length=sz->ws.all Ab.isScal=true->Af sz (.ptr 0 g 0) (.agg ws) (.cel g cs::G)=some (.cel g ws::G)))) /\
 ((∀(cs:List Ab) (H:Aa),cs.all Ab.isScal=true->Az (some cs) H=some (.ptr H.length 0 0,H++[.cel 0 cs])) /\
  (∀(cs:List Ab) (H:Aa) (sz:Nat),cs.all Ab.isScal=true->cs.length=sz->BD true sz (.agg cs) H=some (.ptr H.length 0 0,H++[.cel 0 cs]))):=
 ⟨⟨⟨λ_ _ _ _ _ _ _=>load_app,λ_ _ _ _ _ _=>F2⟩,λ_ _ _ _ _ _ _=>load_succ,λ_ _ _ _ _=>Hv,λ_ _ _ _ h=>SR h⟩,
  ⟨⟨λ_ _ _ _ _ _ _=>U9,λ_ _ _ _ _ _=>Kz⟩,λ_ _ _ _ _ _ _=>store_succ,λ_ _ _ _ _ h1 h2=>P0 h1 h2,λ_ _ _ _ _ h1 h2 h3=>store_agg h1 h2 h3⟩,
  λ_ _ h=>alloc_eq h,λ_ _ _ h1 h2=>Cp h1 h2⟩
theorem HPc:(((∀(K:IntKind) (n:Int),(Ab.int K n).isScal=true)/\(∀t:Bool,(Ab.bool t).isScal=true)/\(∀s:List UInt8,(Ab.str s).isScal=true)) /\
  ((∀(es:List (List Ab)) (tk:Tok),(Ab.sl es tk).isScal=true)/\(∀(id g off len cap sz:Nat) (ex:Bool),(Ab.ms id g off len cap sz ex).isScal=true)/\(∀id g off:Nat,(Ab.ptr id g off).isScal=true)) /\
  (∀id:Nat,(Ab.mp id).isScal=true)/\(∀(f:FuncId) (c:List Ab),(Ab.fn f c).isScal=true)/\(Ab.nilp.isScal=true)/\(Ab.nilmap.isScal=true)/\Ab.nilfn.isScal=true) /\
 (((∀(K:IntKind) (n:Int),Jo (Ab.int K n)=true)/\(∀t:Bool,Jo (Ab.bool t)=true)/\(∀s:List UInt8,Jo (Ab.str s)=true)) /\
  ((∀(es:List (List Ab)),Jo (Ab.sl es .no)=true)/\(∀(es:List (List Ab)),Jo (Ab.sl es .ti)=true)) /\
  ((∀(K:IntKind) (n:Int),TZ (Ab.int K n)=true)/\(∀t:Bool,TZ (Ab.bool t)=true)/\(∀s:List UInt8,TZ (Ab.str s)=true)) /\
  ((∀(es:List (List Ab)),TZ (Ab.sl es .no)=true)/\(∀(es:List (List Ab)),TZ (Ab.sl es .ti)=true))/\(∀cs:List Ab,TZ (.agg cs)=cs.all Jo)) /\
 ((∀(H G:Aa) (cs:List Ab),cs.all Jo=true->rP H (.agg cs) (H++G)=some (.ret (.agg cs),H)) /\
  (∀(H G:Aa) (cs:List Ab),cs.all TZ=true->rP H (.tup cs) (H++G)=some (.ret (.tup cs),H)) /\
  (∀(H G:Aa) (t:Bool),rP H (.bool t) (H++G)=some (.ret (.bool t),H)) /\
  (∀(H G:Aa) (K:IntKind) (n:Int),rP H (.int K n) (H++G)=some (.ret (.int K n),H)) /\
  (∀(H G:Aa) (s:List UInt8),rP H (.str s) (H++G)=some (.ret (.str s),H))):=
 ⟨⟨⟨λ_ _=>rfl,λ_=>rfl,λ_=>rfl⟩,⟨λ_ _=>rfl,λ_ _ _ _ _ _ _=>rfl,λ_ _ _=>rfl⟩,λ_=>rfl,λ_ _=>rfl,rfl,rfl,rfl⟩,
  ⟨⟨λ_ _=>rfl,λ_=>rfl,λ_=>rfl⟩,⟨λ_=>rfl,λ_=>rfl⟩,⟨λ_ _=>rfl,λ_=>rfl,λ_=>rfl⟩,⟨λ_=>rfl,λ_=>rfl⟩,λ_=>rfl⟩,
  λ_ _ _ h=>rP_aggP h,λ_ _ _ h=>rP_tupP h,λ_ _ _=>Fw,λ_ _ _ _=>Ij,λ_ _ _=>rP_str⟩
theorem HPd:((∀(H G:Aa) (v:Ab),rPN H v (H++G)=(Hx (H++G) H.length 8 v).map λv=>(.ret v,H)) /\
  (∀(H:Aa) (n d:Nat) (vs:List Ab),Hx H n (d+1) (.tup vs)=(IZ H n d vs).map .tup) /\
  (∀(H:Aa) (n d:Nat) (cs:List Ab),Hx H n (d+1) (.agg cs)=(Gj H n d cs).map .agg) /\
  (∀(H:Aa) (n d:Nat) (es:List (List Ab)) (tk:Tok),Hx H n (d+1) (.sl es tk)=some (.sl es .no))) /\
 ((∀(H:Aa) (n d:Nat),IZ H n (d+1) []=some []) /\
  (∀(H:Aa) (n d:Nat) (v:Ab) (vs:List Ab),IZ H n (d+1) (v::vs)=(Fg H n d v).bind λv'=>(IZ H n (d+1) vs).map (v'::·)) /\
  (∀(H:Aa) (n d:Nat),Gj H n (d+1) []=some []) /\
  (∀(H:Aa) (n d:Nat) (v:Ab) (vs:List Ab),Gj H n (d+1) (v::vs)=(Jc H n d v).bind λv'=>(Gj H n (d+1) vs).map (v'::·))) /\
 ((∀(H:Aa) (n d:Nat) (cs:List Ab),Fg H n (d+1) (.agg cs)=(Gj H n d cs).map .agg) /\
  (∀(H:Aa) (n d:Nat) (K:IntKind) (i:Int),Fg H n (d+1) (.int K i)=some (.int K i)) /\
  (∀(H:Aa) (n d:Nat) (t:Bool),Fg H n (d+1) (.bool t)=some (.bool t)) /\
  (∀(H:Aa) (n d:Nat) (s:List UInt8),Fg H n (d+1) (.str s)=some (.str s)) /\
  (∀(H:Aa) (n d:Nat) (es:List (List Ab)) (tk:Tok),Fg H n (d+1) (.sl es tk)=some (.sl es .no))) /\
 ((∀(H:Aa) (n d:Nat) (K:IntKind) (i:Int),Jc H n (d+1) (.int K i)=some (.int K i)) /\
  (∀(H:Aa) (n d:Nat) (t:Bool),Jc H n (d+1) (.bool t)=some (.bool t)) /\
  (∀(H:Aa) (n d:Nat) (s:List UInt8),Jc H n (d+1) (.str s)=some (.str s)) /\
  (∀(H:Aa) (n d:Nat) (es:List (List Ab)) (tk:Tok),Jc H n (d+1) (.sl es tk)=some (.sl es .no))) /\
 ((∀xs:List (Option Ab),Eh xs=(TX xs).map .tup)/\(TX []=some [])/\(∀(x:Option Ab) (xs:List (Option Ab)),TX (x::xs)=x.bind λv=>(TX xs).map (v::·))) /\
 ((∀(v:Ab) (vs:List Ab),Aq 0 (.tup (v::vs))=some v)/\(∀(v w:Ab) (vs:List Ab),Aq 1 (.tup (v::w::vs))=some w)/\(∀(v w u:Ab) (vs:List Ab),Aq 2 (.tup (v::w::u::vs))=some u)):=
 ⟨⟨λ_ _ _=>Cw,λ_ _ _ _=>Ci,λ_ _ _ _=>fall_agg,λ_ _ _ _ _=>I4⟩,⟨λ_ _ _=>B6,λ_ _ _ _ _=>Bu,λ_ _ _=>Ew,λ_ _ _ _ _=>DB⟩,
  ⟨λ_ _ _ _=>F5,λ_ _ _ _ _=>CM,λ_ _ _ _=>Ff,λ_ _ _ _=>fpart_str,λ_ _ _ _ _=>Ja⟩,⟨λ_ _ _ _ _=>fcell_int,λ_ _ _ _=>KP,λ_ _ _ _=>V5,λ_ _ _ _ _=>GL⟩,
  ⟨λ_=>rfl,rfl,λ_ _=>rfl⟩,λ_ _=>rfl,λ_ _ _=>rfl,λ_ _ _ _=>rfl⟩
theorem HPe:(∀(H:Aa) (j k:Nat),List.length H+j+k=List.length H+(j+k))/\(∀(H0 H:Aa) (v:Ab) (k:Ab->Aa->Out),bK H0 (some (.pan v,H)) k=some (.pan v,H))/\(∀(α β:Type) (a:α) (f:α->β),Option.map f (some a)=some (f a))/\(∀id g o:Nat,Ai (.ptr id g o)=some (.ptr id g o))/\(∀off id g o:Nat,Ad off (.ptr id g o)=some (.ptr id g (o+off))) /\
 ((∀a b c:Aa,a++b++c=a++(b++c))/\(∀(x:Blk) (b c:Aa),(x::b)++c=x::(b++c))/\(∀b:Aa,([]:Aa)++b=b)/\(∀a b:Aa,(a++b).length=a.length+b.length)/\(∀(x:Blk) (b:Aa),(x::b).length=b.length+1)/\(([]:Aa).length=0)) /\
 ((∀(x:Ab) (b:List Ab),(x::b).length=b.length+1)/\(([]:List Ab).length=0)/\(∀(x:Ab) (b:List Ab),(x::b)[0]? = some x)/\(∀(x:Ab) (b:List Ab) (i:Nat),(x::b)[i+1]? = b[i]?)) /\
 ((∀(x y:Ab) (b:List Ab),(x::b).set 0 y=y::b)/\(∀(x y:Ab) (b:List Ab) (i:Nat),(x::b).set (i+1) y=x::b.set i y)/\(∀(p:Ab->Bool) (x:Ab) (b:List Ab),(x::b).all p=(p x&&b.all p))/\(∀p:Ab->Bool,([]:List Ab).all p=true)) /\
 (∀s:List UInt8,CK (.str s)=some (.i6 (s.length:Int))):=
 ⟨λ_ _ _=>WD _ _ _,λ_ _ _ _=>rfl,λ_ _ _ _=>rfl,λ_ _ _=>rfl,λ_ _ _ _=>rfl,⟨app_app,λ_ _ _=>rfl,λ_=>rfl,len_app,λ_ _=>rfl,rfl⟩,⟨λ_ _=>rfl,rfl,λ_ _=>rfl,λ_ _ _=>rfl⟩,⟨λ_ _ _=>rfl,λ_ _ _ _=>rfl,λ_ _ _=>rfl,λ_=>rfl⟩,λ_=>rfl⟩
theorem HPz:((∀n:Nat,0+n=n)/\(∀n:Nat,n+0=n)/\(∀p:Prop,(p/\p)=p)/\(∀p:Prop,(p/\True)=p)/\(∀(α:Type) (a:α),(a=a)=True)/\(∀b:Bool,(b&&b)=b)):=
 ⟨VU,Nat.add_zero,and_self,and_true,λ_ a=>eq_self a,Bool.and_self⟩
open Go.Proofs
set_option maxRecDepth 100000
def HPw:=And.intro HPa (And.intro HPc (And.intro HPd (And.intro HPe HPz)))
theorem rightB_snoc (l:List Nat)(x:Nat):Gg (l++[x])=(x != 0):=by simp[Gg]
theorem p_cutG {l:List Nat}(tk:Tok)(H:Aa)(hx:Lim l)(hl:l.length<=1099511627776):Sh.f1 (.sl (enL cU l) tk) H=some (.ret (.sl (enL cU (AA (val l))) .no),H):=by
 unfold Sh.f1;have key:=Bq (G:=λrec1 vs H1=>Sh.f12 H rec1 (ag vs 0) H1) (σ:=Nat×Tok) (λs=>s.1<=l.length/\val (l.take s.1)=val l)
  (λs=>[.sl (enL cU (l.take s.1)) s.2]) (λ_=>H) (λs=>s.1) (λ_=>some (.ret (.sl (enL cU (AA (val l))) .no),H)) (λs rec hi hrec=>?_) (l.length,tk) ⟨VV _,by rw[WJ]⟩ (by dsimp only;omega)
 ·dsimp only at key
  rwa [WJ]at key
 ·obtain⟨k,t⟩:=s;dsimp only at hi hrec ⊢;obtain⟨h1,h2⟩:=hi;have hlk:(l.take k).length=k:=by rw[Wj];omega
  have hxk:Lim (l.take k):=λx h=>hx x (WZ h);have hr:=p_right (l.take k) t H (by omega);unfold Sh.f12;cases hb:Gg (l.take k)with
  | true=>
   rw[hb]at hr;have hn:=Mp ((NT hxk).1 hb);rw[h2]at hn;simp only[Am,GMw,hr,WH,Ei,forget,Ev,fgt];rw[<-hn]
  | false=>
   rw[hb]at hr;obtain⟨m,rfl⟩:∃m,k=m+1:=by
    cases k with
    | zero=>rw[List.take_zero]at hb;cases hb
    | succ m=>exact⟨m,rfl⟩
   have hm:m<l.length:=by omega
   have hz:l[m]=0:=by
    have:l.take (m+1)=l.take m++[l[m]]:=Wb hm;rw[this,rightB_snoc]at hb;simpa using hb
   have hv:val (l.take m)=val l:=by
    rw[<-h2,Wb hm,Cz,hz];simp[val]
   have hw:IntKind.i64.wrap (((m+1:Nat):Int)-1)=(m:Int):=by rw[Ao] <;> omega
   have hsl:∃t',Bw 1 (.sl (enL cU (l.take (m+1))) t) none (some (.i6 (m:Int))) none=some (.sl (enL cU (l.take m)) t'):=by
    refine⟨FM t 0 m (l.take (m+1)).length false,?_⟩;have:=Sj (f:=cU) (sz:=1) (l:=l.take (m+1)) (tk:=t) (K:=.i64) (h:=m) (by omega);rw[List.take_take,WR (by omega)]at this;exact this
   obtain⟨t',hsl⟩:=hsl;simp only[Am,GMw,hr,WT,Ax,hlk,hw,hsl];exact hrec (m,t') ⟨by omega,hv⟩ (YR m)
theorem cmA_res (kn:List Ab->Aa->Out)(x0:Ab)(eb:List (List Ab))(tb:Tok)(H:Aa) :
  cmA kn x0 (.sl eb tb) H=kn [x0,.sl eb tb,.undef,.ptr H.length 0 0,.ptr (H.length+1) 0 0,.undef,.undef,.undef,.undef,.undef,.undef,.undef,.undef,.undef,.undef,.undef,.undef,.undef,.undef,.undef,.undef,.undef,.undef,.undef,.undef,.undef,.undef,.undef,.undef,.undef,.undef,.undef,.undef,.undef,.undef,.undef,.undef,.undef,.undef] (H++[.cel 0 [.sl eb tb]]++[.cel 0 [.i6 0]]):=by
 have hbx:BD true 1 (.sl eb tb) H=some (.ptr H.length 0 0,H++[.cel 0 [.sl eb tb]]):=by
  unfold BD;simp only[QE,alloc_eq (cs:=[.sl eb tb]) rfl];rfl
 have hal:Az (some [(.i6 0)]) (H++[.cel 0 [.sl eb tb]])=some (.ptr (H++[Blk.cel 0 [.sl eb tb]]).length 0 0,H++[.cel 0 [.sl eb tb]]++[.cel 0 [.i6 0]]):=alloc_eq rfl;have hl:(H++[Blk.cel 0 [.sl eb tb]]).length=H.length+1:=by simp
 unfold cmA;rw[hbx];simp only[Bv];rw[hal];simp only[Bv,hl]
theorem cmB_res (kn:List Ab->Aa->Out){la lb:List Nat}(ta tb:Tok)(H:Aa)(xa:Lim la)(xb:Lim lb)(ha:la.length<=1099511627776)(hb:lb.length<=1099511627776) :
  cmB kn (.sl (enL cU la) ta) (.sl (enL cU lb) tb) (.ptr H.length 0 0) (.ptr (H.length+1) 0 0) (H++[.cel 0 [.sl (enL cU lb) tb]]++[.cel 0 [.i6 0]]) =
   kn [.sl (enL cU (AA (val la))) .no,.sl (enL cU lb) tb,.undef,.ptr H.length 0 0,.ptr (H.length+1) 0 0,.undef,.undef,.sl (enL cU la) ta,.sl (enL cU (AA (val la))) .no,.sl (enL cU lb) tb,.sl (enL cU (AA (val lb))) .no,.undef,.undef,.undef,.undef,.undef,.undef,.undef,.undef,.undef,.undef,.undef,.undef,.undef,.undef,.undef,.undef,.undef,.undef,.undef,.undef,.undef,.undef,.undef,.undef,.undef,.undef,.undef,.undef] (H++[.cel 0 [.sl (enL cU (AA (val lb))) .no]]++[.cel 0 [.i6 0]]):=by
 have e1:(H++[Blk.cel 0 [.sl (enL cU lb) tb]]++[.cel 0 [.i6 0]])[H.length]? = some (.cel 0 [.sl (enL cU lb) tb]):=by simp
 have ld:Ac false 1 (.ptr H.length 0 0) (H++[Blk.cel 0 [.sl (enL cU lb) tb]]++[.cel 0 [.i6 0]])=some (.sl (enL cU lb) tb):=by
  simp only[Ac,Aw e1,zXa];rfl
 have hst:Af 1 (.ptr H.length 0 0) (.sl (enL cU (AA (val lb))) .no) (H++[Blk.cel 0 [.sl (enL cU lb) tb]]++[.cel 0 [.i6 0]])=some (H++[.cel 0 [.sl (enL cU (AA (val lb))) .no]]++[.cel 0 [.i6 0]]):=by
  rw[Hs e1 rfl (by simp)]
  congr 1
  rw[List.set_append_left _ _ (by simp),Be]
  rfl
 have c1:=λK=>p_cutG ta K xa ha;have c2:=λK=>p_cutG tb K xb hb;unfold cmB;simp only[c1,B9,ld];rw[BP ⟨rfl,trivial⟩];simp only[c2,B9,hst,AL,Fq]
theorem cmC_res (kn kr:List Ab->Aa->Out)(a b:Nat)(ta tb:Tok)(H:Aa)(ha:(AA a).length<=1099511627776)(hb:(AA b).length<=1099511627776) :
  (∃tm:List Ab,tm.length=39/\tm[0]? = some (.sl (enL cU (AA a)) ta)/\tm[3]? = some (.ptr H.length 0 0)/\tm[4]? = some (.ptr (H.length+1) 0 0) /\
   cmC kn kr (.sl (enL cU (AA a)) ta) (.ptr H.length 0 0) (.ptr (H.length+1) 0 0) (H++[.cel 0 [.sl (enL cU (AA b)) tb]]++[.cel 0 [.i6 0]]) =
    if (AA a).length=(AA b).length then kn tm (H++[.cel 0 [.sl (enL cU (AA b)) tb]]++[.cel 0 [.i6 0]])
    else kr tm (H++[.cel 0 [.sl (enL cU (AA b)) tb]]++[.cel 0 [.i6 (if (AA a).length<(AA b).length then -1 else 1)]])):=by
 have e1:(H++[Blk.cel 0 [.sl (enL cU (AA b)) tb]]++[.cel 0 [.i6 0]])[H.length]? = some (.cel 0 [.sl (enL cU (AA b)) tb]):=by simp
 have e2:(H++[Blk.cel 0 [.sl (enL cU (AA b)) tb]]++[.cel 0 [.i6 0]])[H.length+1]? = some (.cel 0 [.i6 0]):=by simp
 have ld:Ac false 1 (.ptr H.length 0 0) (H++[Blk.cel 0 [.sl (enL cU (AA b)) tb]]++[.cel 0 [.i6 0]])=some (.sl (enL cU (AA b)) tb):=by
  simp only[Ac,Aw e1,zXa];rfl
 have hst:∀z:Int,Af 1 (.ptr (H.length+1) 0 0) (.i6 z) (H++[Blk.cel 0 [.sl (enL cU (AA b)) tb]]++[.cel 0 [.i6 0]])=some (H++[.cel 0 [.sl (enL cU (AA b)) tb]]++[.cel 0 [.i6 z]]):=λz=>by
  rw[Hs e2 rfl (by simp)]
  congr 1
  rw[W5 _ _ (by simp)];simp
 unfold cmC;simp only[Ax,zXa,ld];by_cases h:(AA a).length=(AA b).length
 ·have hn:Ae .none .neq (.i6 ((AA a).length:Int)) (.i6 ((AA b).length:Int))=some (.bool false):=by
   show some (Ab.bool (((AA a).length:Int) != ((AA b).length:Int)))=_;rw[h];simp
  simp only[hn,if_pos h,zXa,AQ];exact⟨_,rfl,rfl,rfl,rfl,rfl⟩
 ·have hn:Ae .none .neq (.i6 ((AA a).length:Int)) (.i6 ((AA b).length:Int))=some (.bool true):=by
   show some (Ab.bool (((AA a).length:Int) != ((AA b).length:Int)))=_;have:(((AA a).length:Int) != ((AA b).length:Int))=true:=by simp;omega
   rw[this]
  simp only[hn,if_neg h,zXa,AZ,Br];by_cases h2:(AA a).length<(AA b).length
  ·simp only[zXc (show ((AA a).length:Int)<((AA b).length:Int)by omega),if_pos h2,AZ,hst,AL,Fq];exact⟨_,rfl,rfl,rfl,rfl,rfl⟩
  ·simp only[zXd (show ¬((AA a).length:Int)<((AA b).length:Int)by omega),if_neg h2,AQ,hst,AL,Fq];exact⟨_,rfl,rfl,rfl,rfl,rfl⟩
open Go.RowKit
open Go.RowKit Go.Proofs Go.Shelf
attribute [local go_sem] Oper.semAt_some
def GoodC (n:Nat)(za zb:Nat->Nat)(z:Int):Prop:=
 (z=0/\∀j,j<n->za j=zb j)\/∃i,i<n/\za i≠zb i/\(∀j,i<j->j<n->za j=zb j)/\z=if za i<zb i then -1 else 1
def AllEq {n:Nat}(za zb:Nat->Nat)(pre:List (Fin n)):Prop:=∀x∈pre,za x.1=zb x.1
def TopNe {n:Nat}(za zb:Nat->Nat)(pre:List (Fin n))(z:Int):Prop:=
 ∃x:Fin n,za x.1≠zb x.1/\AllEq za zb pre.dropLast/\pre.getLast? = some x/\z=if za x.1<zb x.1 then -1 else 1
def Laid (B R:Nat)(w1:World)(z:Int)(W:World):Prop:=Below B (w1.setCell ⟨R,0,none⟩ (.i6 z)) W/\B+1<=W.heap.size
theorem HJ {W:World}{R k:Nat}{v:Value}(h:k≠R):(W.setCell ⟨R,0,none⟩ v).heap[k]? = W.heap[k]? := by
 simp[World.setCell,X4,h.symm]
theorem K1 {W:World}{R:Nat}{u v:Value}{t:TypeId}(h:W.heap[R]? = some (.cells #[u] t (0,0))):(W.setCell ⟨R,0,none⟩ v).heap[R]? = some (.cells #[v] t (0,0)):=by
 simp[World.setCell,X4,h]
theorem Fv (W:World)(R:Nat)(v:Value):(W.setCell ⟨R,0,none⟩ v).heap.size=W.heap.size:=by simp[World.setCell]
theorem laid_of {B R:Nat}{w1 W:World}{t:TypeId}{z:Int}(h:Below B w1 W)(hR:R<B)(hr:w1.heap[R]? = some (.cells #[.i6 0] t (0,0)))(h5:B+1<=W.heap.size):Laid B R w1 z (W.setCell ⟨R,0,none⟩ (.i6 z)):=by
 refine⟨⟨h.os,h.tape,h.output,?_,λk hk=>?_⟩,by rw[Fv];exact h5⟩
 ·rw[Fv,Fv];exact h.size
 ·by_cases e:k=R
  ·subst e;rw[K1 ((h.block k hk).trans hr),K1 hr]
  ·rw[HJ e,HJ e];exact h.block k hk
theorem Vq {B R:Nat}{W:World}{v:Value}(hR:R<B):KeepsFrom B W (W.setCell ⟨R,0,none⟩ v):=
 ⟨by rw[Fv];exact VV _,λk o hB hk _=>by rw[HJ (by omega)];exact hk⟩
theorem results_one {P:Program}{fn:Func}{p:Tmp}{ty:TypeId}{d:TypeDesc}(h:fn.results = #[.cell p ty])(hu:P.underlying ty=some d)(ha:BG P ty=false)(tmps:Array Value)(w:World)(R:Nat)(v:Value)(hp:tmps.getD p undef=.pointer (some ⟨R,0,none⟩))(hc:w.cell? ⟨R,0,none⟩=some v) :
  (results fn tmps).run P w=.ok v w:=by
 have hp':tmps[p]?.getD undef=.pointer (some ⟨R,0,none⟩):=by simpa using hp
 simp[results,h,hp',asAddr,Lu hu w _ v hc ha]
theorem cmp_end {fu B R:Nat}{w1 W:World}{Rr:Ending->World->Prop}{z:Int}{t:TypeId}{D:Nat}{ts:Array Value}(hR:R<B)(hB:w1.heap.size=B)(hr:w1.heap[R]? = some (.cells #[.i6 0] t (0,0)))(hl:Laid B R w1 z W)(hD:B+1<=D)(hK:W.heap[D]? = some (.deferred (some [])))
  (hp:ts.getD 4 undef=.pointer (some ⟨R,0,none⟩))(hRr:∀W,Below B (w1.setCell ⟨R,0,none⟩ (.i6 z)) W->Rr (.returned (.i6 z)) W) :
  bodyPostM Fence.wide fu Tryz.prog Tryz.f156 Rr .ret { tmps:=ts,defers:=[{ target:=.collected D,args:=#[] }] } W:=by
 have hb:Below B (w1.setCell ⟨R,0,none⟩ (.i6 z)) (W.putObj D (.deferred none)):=
  hl.1.trans (belowK_b (w:=w1) (n₀:=B) (by omega) W D _ _ (by omega) hK rfl rfl)
 have hh:(W.putObj D (.deferred none)).heap[R]? = some (.cells #[.i6 z] t (0,0)):=(hb.block R hR).trans (K1 hr);show LeavesInM _ _ _ _ _ _ (_::_) _ _;refine⟨by simp,.inl ⟨_,_,rfl,run_takeDeferred hK,?_⟩⟩;show LeavesIn _ _ _ _ _ _ [] _ _;exact⟨_,results_one (p:=4) (ty:=3) (d:=.int .i64) (by kernel_rfl) (by kernel_rfl) (by kernel_rfl) ts _ R (.i6 z) hp (by rw[Bl hh];rfl),hRr _ hb⟩
set_option maxRecDepth 100000 in
set_option maxHeartbeats 4000000 in
theorem cmp_tail {fu n:Nat}(hn:3<=fu){w1:World}{Rr:Ending->World->Prop}(bA R bb ob cb ba oa ca:Nat)(ao bo:Option Addr)(za zb:Nat->Nat)(hreach:n<=1099511627776)
  (hao:0<n->ao=some ⟨ba,oa,none⟩)(hbo:0<n->bo=some ⟨bb,ob,none⟩)(hA:bA<w1.heap.size)(hR:R<w1.heap.size)(hba:ba<w1.heap.size)(hbb:bb<w1.heap.size)
  (hbx:w1.cell? ⟨bA,0,none⟩=some (.slice bo n cb))(hrx:∃t,w1.heap[R]? = some (.cells #[.i6 0] t (0,0)))(hca:∀j,j<n->w1.cell? ⟨ba,oa+j,none⟩=some (.int .u32 (za j:Int)))(hcb:∀j,j<n->w1.cell? ⟨bb,ob+j,none⟩=some (.int .u32 (zb j:Int)))
  (hRr:∀z W,GoodC n za zb z->Below w1.heap.size (w1.setCell ⟨R,0,none⟩ (.i6 z)) W->Rr (.returned (.i6 z)) W)
  (va:Value)(hva:va=.slice ao n ca)(t1 t2 t5 t6 t7 t8 t9 t10 t11 t12 t13 t14 t15 t16 t17 t18 t19 t20 t21 t22 t23 t24 t25 t26 t27 t28 t29 t30 t31 t32 t33 t34 t35 t36 t37 t38:Value) :
  cdD.wpIn Fence.wide fu Tryz.prog (bodyPostM Fence.wide fu Tryz.prog Tryz.f156 Rr) { tmps:=#[va,t1,t2,.pointer (some ⟨bA,0,none⟩),.pointer (some ⟨R,0,none⟩),t5,t6,t7,t8,t9,t10,t11,t12,t13,t14,t15,t16,t17,t18,t19,t20,t21,t22,t23,t24,t25,t26,t27,t28,t29,t30,t31,t32,t33,t34,t35,t36,t37,t38],defers:=[] } w1:=by
 subst hva;have h1:1<=fu:=by omega
 have hro:Fence.wide.round=none:=rfl;have h205:Fence.wide.fn 205:=trivial
 conv in cdD=>whnf
 gi_wp2_with (gi_at_call 205;refine (Tryz.back_in Fence.wide (fu-1) trivial hro _ _ _ _).mono ?_;rintro e w' ⟨rfl,rfl⟩)
 obtain⟨tr,hrx⟩:=hrx;generalize hB:w1.heap.size=B at *;obtain⟨W0,hW0⟩:∃W0,w1.alloc (Obj.cells #[Value.slice ao n ca] 44)=W0:=⟨_,rfl⟩;rw[hW0];have hW0s:W0.heap.size=B+1:=by rw[<-hW0,World.size_alloc,hB]
 have hB0:Below B w1 W0:=by rw[<-hW0];exact Below.alloc (Below.refl _ _) (by omega) _
 have hbx0:W0.cell? ⟨B,0,none⟩=some (.slice ao n ca):=by
  have:W0.heap[B]? = some (Obj.cells #[Value.slice ao n ca] 44):=by have:=World.heap_new w1 (Obj.cells #[Value.slice ao n ca] 44);rw[hB]at this;rw[<-hW0];exact this
  rw[Bl this];rfl
 refine wpIn_rangeFunc_ownG hro h1 (gf:=229) (lb:=#[.pointer (some ⟨B,0,none⟩)]) rfl trivial (enters_of Tryz.func229 (by kernel_rfl) rfl)
  (Tryz.back_stops Fence.wide (fu-1) trivial hro (by omega) B B ba oa n ca ao hao za hreach W0 (by omega) hba (by omega) hbx0 (λj hj=>(hB0.cell (p:=⟨ba,oa+j,none⟩) hba).trans (hca j hj)))
  (λh k=>h.trans k) (λW l o o' hl ho h1 h2=>⟨belowK_b (by omega) W l o o' hl ho h1 h2,?hKb⟩) (Below.refl _ _) (λ_=>rfl)
  (λpre W=>AllEq za zb pre/\Below B w1 W/\B+1<=W.heap.size)
  (λc pre W=>c=.ret/\∃z:Int,TopNe za zb pre z/\Laid B R w1 z W)
  ?hI ?hIx
  ⟨λx hx=>(by cases hx),hB0,by omega⟩
  (λx=>{ tmps:=#[.slice ao n ca,t1,t2,.pointer (some ⟨bA,0,none⟩),.pointer (some ⟨R,0,none⟩),.i6 (x.1:Int),.int .u32 (za x.1:Int),t7,t8,t9,t10,t11,t12,t13,t14,t15,t16,t17,t18,t19,t20,.slice ao n ca,.func (.func 229) #[] #[.pointer (some ⟨B,0,none⟩)],.i6 (x.1:Int),.int .u32 (za x.1:Int),t25,t26,t27,t28,t29,t30,t31,t32,t33,t34,t35,t36,t37,t38],defers:=[] }) ?assign ?body ?done ?stop
 case hKb=>
  have hcB:∀(U V:World),V.heap[B]? = U.heap[B]? -> V.cell? ⟨B,0,none⟩=U.cell? ⟨B,0,none⟩:=λU V h=>World.cell?_of_block h;exact hcB _ _ (World.putObj_heap_other (by omega))
 case hI=>
  exact OwnFrom.and (λ_ _ _ _ h _ _=>h) (OwnFrom.and (ownFrom_below (by omega) (by omega)) (λ_ _ _ _ h hg _=>Wu h hg.size))
 case hIx=>
  rintro c pre W W' row ⟨h1,z,h2,h3,h4⟩ hg hr;refine⟨h1,z,h2,?_,Wu h4 hg.size⟩;exact ownFrom_below (β:=List (Fin n)) (B:=W0.heap.size) (by rw[Fv];omega) (by omega) pre W W' row h3 hg hr
 case assign=>
  intro l x W K hK
  gi_wp2
  exact hK
 case body=>
  rintro l pre x W ⟨hE,hBw,h5⟩ _;have hx:=x.2;have hbo':=hbo (by omega);subst hbo';have hbx':=(hBw.cell (p:=⟨bA,0,none⟩) hA).trans hbx;have hcb':=(hBw.cell (p:=⟨bb,ob+x.1,none⟩) hbb).trans (hcb x.1 hx);have hR':=(hBw.block R hR).trans hrx;have hRf:W.frozen? ⟨R,0,none⟩=false:=by simp[World.frozen?,hR']
  have hRc:W.cell? ⟨R,0,none⟩=some (.i6 0):=by rw[Bl hR'];rfl
  by_cases hlt:za x.1<zb x.1
  ·have hlt':(za x.1:Int)<(zb x.1:Int):=by omega
   have hlaid:∀z:Int,z = -1->TopNe za zb (pre++[x]) z/\Laid B R w1 z (W.setCell ⟨R,0,none⟩ (.i6 z)):=λz hz=>
    ⟨⟨x,by omega,by simpa using hE,by simp,by rw[if_pos hlt];exact hz⟩,laid_of hBw hR hrx h5⟩
   have hl:=hlaid (-1) rfl;generalize hT:TopNe za zb (pre++[x]) (-1)=T at hl;clear hlaid
   gi_wp2
   exact⟨Vq (by omega),rfl,-1,by rw[hT];exact hl.1,hl.2⟩
  ·by_cases hgt:zb x.1<za x.1
   ·have hlt':¬(za x.1:Int)<(zb x.1:Int):=by omega
    have hgt':(zb x.1:Int)<(za x.1:Int):=by omega
    have hlaid:∀z:Int,z=1->TopNe za zb (pre++[x]) z/\Laid B R w1 z (W.setCell ⟨R,0,none⟩ (.i6 z)):=λz hz=>
     ⟨⟨x,by omega,by simpa using hE,by simp,by rw[if_neg hlt];exact hz⟩,laid_of hBw hR hrx h5⟩
    have hl:=hlaid 1 rfl;generalize hT:TopNe za zb (pre++[x]) 1=T at hl;clear hlaid
    gi_wp2
    exact⟨Vq (by omega),rfl,1,by rw[hT];exact hl.1,hl.2⟩
   ·have hlt':¬(za x.1:Int)<(zb x.1:Int):=by omega
    have hgt':¬(zb x.1:Int)<(za x.1:Int):=by omega
    have hE2:AllEq za zb (pre++[x]):=λy hy=>by
     rcases Wn.1 hy with h | h
     ·exact hE y h
     ·rw[Wm.1 h];omega
    gi_wp2
    exact⟨KeepsFrom.refl _ _,⟨Below.refl _ _,rfl⟩,hE2,hBw,h5⟩
 case done=>
  rintro D ys W hD rfl ⟨hE,hBw,h5⟩ hK;have hR':=(hBw.block R hR).trans hrx;have hRf:W.frozen? ⟨R,0,none⟩=false:=by simp[World.frozen?,hR']
  have hRc:W.cell? ⟨R,0,none⟩=some (.i6 0):=by rw[Bl hR'];rfl
  have hgood:GoodC n za zb 0:=.inl ⟨rfl,λj hj=>hE ⟨j,hj⟩ (QB n ⟨j,hj⟩ (VV _) (by omega))⟩;have hl:Laid B R w1 0 (W.setCell ⟨R,0,none⟩ (.i6 0)):=laid_of hBw hR hrx h5
  gi_wp2
  refine cmp_end hR hB hrx hl (by omega) ?_ rfl (λW h=>hRr 0 W hgood h);rw[HJ (by omega)];exact hK
 case stop=>
  rintro D c pre W hD ⟨k,hk,hpre⟩ ⟨rfl,z,⟨x,x1,x2,x3,x4⟩,hl⟩ hK;subst hpre;rw[Oh hk]at x2 x3;simp only[List.dropLast_concat,List.getLast?_concat,Wa]at x2 x3;subst x3;have hgood:GoodC n za zb z:=.inr ⟨n-1-k,by omega,x1,λj h1 h2=>x2 ⟨j,h2⟩ (QB k ⟨j,h2⟩ (by omega) (by dsimp only;omega)),x4⟩
  gi_wp2
  exact cmp_end hR hB hrx hl (by omega) hK rfl (λW h=>hRr z W hgood h)
open Go.RowKit Go.Proofs
set_option maxRecDepth 100000
def PC (tm:List Ab)(H:Aa):Out:=some (.ret (.tup tm),H)
def Rm (tm:List Ab)(H:Aa):Out:=some (.ret (.agg tm),H)
theorem rec_n {x:AExit}{tm tm':List Ab}{H H':Aa}(h:kK PC Rm x tm H=some (.ret (.tup tm'),H')):x=.normal/\tm=tm'/\H=H':=by
 cases x with
 | normal=>simp only[kK,PC,Wa,Wq,Res.ret.injEq,Ab.tup.injEq]at h;exact⟨rfl,h⟩
 | ret=>simp[kK,Rm]at h
 | pan v=>simp[kK]at h
 | exit i=>simp[kK]at h
theorem rec_r {x:AExit}{tm tm':List Ab}{H H':Aa}(h:kK PC Rm x tm H=some (.ret (.agg tm'),H')):x=.ret/\tm=tm'/\H=H':=by
 cases x with
 | normal=>simp[kK,PC]at h
 | ret=>simp only[kK,Rm,Wa,Wq,Res.ret.injEq,Ab.agg.injEq]at h;exact⟨rfl,h⟩
 | pan v=>simp[kK]at h
 | exit i=>simp[kK]at h
theorem sl_view {E:Env}{H:Aa}{w:World}(hs:Sim E H w){L:List Nat}{tk:Tok}{v:Value}(h:Ay E (.sl (enL cU L) tk) v)(hw:0<w.heap.size) :
  ∃(ao:Option Addr) (b o cap:Nat),v=.slice ao L.length cap/\(0<L.length->ao=some ⟨b,o,none⟩)/\b<w.heap.size/\∀j,j<L.length->w.cell? ⟨b,o+j,none⟩=some (.int .u32 ((L[j]?.getD 0:Nat):Int)):=by
 have hge:∀j (hj:j<L.length),(enL cU L)[j]? = some (cU L[j]):=λj hj=>by simp[enL,hj]
 have hle:(enL cU L).length=L.length:=by simp[enL]
 generalize hes:enL cU L=es at *;cases h with
 | @sl0 _ a cap ht ha=>
  have:L.length=0:=by simpa using hle.symm
  exact⟨a,0,0,cap,by rw[this],λh=>by omega,hw,λj hj=>by omega⟩
 | @sl _ _ b o s cap f hlen hI hmm hvv hcc htt=>
  by_cases hpos:0<L.length
  ·have hs1:s=1:=by
    have:=hlen 0 _ (hge 0 hpos);simpa using this.symm
   subst hs1;refine⟨_,b,o,cap,by rw[hle],λ_=>rfl,hs.imm_lt (hI 0 0 (by omega) (by omega)),λj hj=>?_⟩;have h1:=hs.imm _ _ _ (hI j 0 (by omega) (by omega));have h2:=hvv j _ 0 _ (hge j hj) rfl;rw[R2 h2]at h1;rw[VO hj];simpa using h1
  ·exact⟨_,0,o,cap,by rw[hle],λh=>absurd h hpos,hw,λj hj=>by omega⟩
theorem Uw {l:List Nat}{i:Nat}(h:i<l.length):val l=val (l.take i)+4294967296^i*(l[i]+4294967296*val (l.drop (i+1))):=by
 have e:l=l.take i++(l[i]::l.drop (i+1)):=by rw[<-Ww h,WC]
 conv=>lhs;rw[e]
 rw[Cz,Wj,WR (by omega)]
 rfl
theorem ar_lt {a b P W x y d:Nat}(ha:a<P)(hxy:x<y):a+P*(x+W*d)<b+P*(y+W*d):=by
 have h1:P*(x+W*d)+P<=P*(y+W*d):=by
  rw[<-Nat.mul_succ];exact Yk _ (by omega)
 omega
theorem topV_lt {l m:List Nat}(hl:Lim l)(he:l.length=m.length){i:Nat}(h:i<l.length)(h':i<m.length)(hd:l.drop (i+1)=m.drop (i+1))(hlt:l[i]<m[i]):val l<val m:=by
 have h1:=Gn (l:=l.take i) λy hy=>hl y (WZ hy);rw[Wj,WR (by omega)]at h1;rw[Uw h,Uw h',hd];exact ar_lt h1 hlt
theorem good_val {A B:Nat}(hlen:(AA A).length=(AA B).length){z:Int}(h:GoodC (AA A).length (λj=>(AA A)[j]?.getD 0) (λj=>(AA B)[j]?.getD 0) z):z=if A<B then -1 else if A=B then 0 else 1:=by
 rcases h with ⟨rfl,h⟩ | ⟨i,hi,hne,hab,rfl⟩
 ·have:AA A=AA B:=by
   apply List.ext_getElem hlen;intro j h1 h2;have:=h j h1;dsimp only at this;rw[VO h1,VO h2]at this;exact this
  have e:A=B:=by rw[<-BA A,<-BA B,this]
  rw[if_neg (by omega),if_pos e]
 ·have hi2:i<(AA B).length:=by omega
  have g1:(AA A)[i]?.getD 0=(AA A)[i]:=by rw[VO hi];rfl
  have g2:(AA B)[i]?.getD 0=(AA B)[i]:=by rw[VO hi2];rfl
  have hd:(AA A).drop (i+1)=(AA B).drop (i+1):=by
   apply List.ext_getElem (by simp[hlen]);intro j h1 h2;rw[Ws]at h1 h2;have:=hab (i+1+j) (by omega) (by omega);dsimp only at this;rw[VO (by omega),VO (by omega)]at this;rw[XL,XL];exact this
  dsimp only at hne ⊢;rw[g1,g2]at hne;have e:((AA A)[i]?.getD 0<(AA B)[i]?.getD 0)↔(AA A)[i]<(AA B)[i]:=by rw[g1,g2]
  by_cases hlt:(AA A)[i]<(AA B)[i]
  ·have:=topV_lt (Bz A) hlen hi hi2 hd hlt;rw[BA,BA]at this;rw[if_pos (e.2 hlt),if_pos this]
  ·have:=topV_lt (Bz B) hlen.symm hi2 hi hd.symm (by omega);rw[BA,BA]at this;rw[if_neg (λh=>hlt (e.1 h)),if_neg (by omega),if_neg (by omega)]
theorem len_val {A B:Nat}(hne:¬(AA A).length=(AA B).length):(if (AA A).length<(AA B).length then (-1:Int)else 1)=if A<B then -1 else if A=B then 0 else 1:=by
 by_cases h:(AA A).length<(AA B).length
 ·have:A<B:=by
   rcases W7 A B with q | q
   ·exact q
   ·have:=Nk q;omega
  rw[if_pos h,if_pos this]
 ·have:B<A:=by
   rcases W7 B A with q | q
   ·exact q
   ·have:=Nk q;omega
  rw[if_neg h,if_neg (by omega),if_neg (by omega)]
theorem one_of {E:Env}{x:Ab}{vs:Array Value}(h:A5 E [x] vs.toList):∃v,vs = #[v]/\Ay E x v:=args1 h
theorem Bx {α:Type}{n:Nat}{l:List α}(h:l.length=n+1):∃x r,l=x::r/\r.length=n:=by
 cases l with
 | nil=>cases h
 | cons x r=>exact⟨x,r,rfl,by simpa using h⟩
theorem lit39 (ts:Array Value)(h:ts.toList.length=39):∃t0 t1 t2 t3 t4 t5 t6 t7 t8 t9 t10 t11 t12 t13 t14 t15 t16 t17 t18 t19 t20 t21 t22 t23 t24 t25 t26 t27 t28 t29 t30 t31 t32 t33 t34 t35 t36 t37 t38:Value,ts = #[t0,t1,t2,t3,t4,t5,t6,t7,t8,t9,t10,t11,t12,t13,t14,t15,t16,t17,t18,t19,t20,t21,t22,t23,t24,t25,t26,t27,t28,t29,t30,t31,t32,t33,t34,t35,t36,t37,t38]:=by
 obtain⟨l⟩:=ts;dsimp only at h;obtain⟨t0,l0,rfl,h0⟩:=Bx h;obtain⟨t1,l1,rfl,h1⟩:=Bx h0;obtain⟨t2,l2,rfl,h2⟩:=Bx h1;obtain⟨t3,l3,rfl,h3⟩:=Bx h2;obtain⟨t4,l4,rfl,h4⟩:=Bx h3;obtain⟨t5,l5,rfl,h5⟩:=Bx h4;obtain⟨t6,l6,rfl,h6⟩:=Bx h5;obtain⟨t7,l7,rfl,h7⟩:=Bx h6;obtain⟨t8,l8,rfl,h8⟩:=Bx h7;obtain⟨t9,l9,rfl,h9⟩:=Bx h8;obtain⟨t10,l10,rfl,h10⟩:=Bx h9;obtain⟨t11,l11,rfl,h11⟩:=Bx h10;obtain⟨t12,l12,rfl,h12⟩:=Bx h11;obtain⟨t13,l13,rfl,h13⟩:=Bx h12;obtain⟨t14,l14,rfl,h14⟩:=Bx h13;obtain⟨t15,l15,rfl,h15⟩:=Bx h14;obtain⟨t16,l16,rfl,h16⟩:=Bx h15;obtain⟨t17,l17,rfl,h17⟩:=Bx h16;obtain⟨t18,l18,rfl,h18⟩:=Bx h17;obtain⟨t19,l19,rfl,h19⟩:=Bx h18;obtain⟨t20,l20,rfl,h20⟩:=Bx h19;obtain⟨t21,l21,rfl,h21⟩:=Bx h20;obtain⟨t22,l22,rfl,h22⟩:=Bx h21;obtain⟨t23,l23,rfl,h23⟩:=Bx h22;obtain⟨t24,l24,rfl,h24⟩:=Bx h23;obtain⟨t25,l25,rfl,h25⟩:=Bx h24;obtain⟨t26,l26,rfl,h26⟩:=Bx h25;obtain⟨t27,l27,rfl,h27⟩:=Bx h26;obtain⟨t28,l28,rfl,h28⟩:=Bx h27;obtain⟨t29,l29,rfl,h29⟩:=Bx h28;obtain⟨t30,l30,rfl,h30⟩:=Bx h29;obtain⟨t31,l31,rfl,h31⟩:=Bx h30;obtain⟨t32,l32,rfl,h32⟩:=Bx h31;obtain⟨t33,l33,rfl,h33⟩:=Bx h32;obtain⟨t34,l34,rfl,h34⟩:=Bx h33;obtain⟨t35,l35,rfl,h35⟩:=Bx h34;obtain⟨t36,l36,rfl,h36⟩:=Bx h35;obtain⟨t37,l37,rfl,h37⟩:=Bx h36;obtain⟨t38,l38,rfl,h38⟩:=Bx h37;obtain rfl:=Wk h38;exact⟨t0,t1,t2,t3,t4,t5,t6,t7,t8,t9,t10,t11,t12,t13,t14,t15,t16,t17,t18,t19,t20,t21,t22,t23,t24,t25,t26,t27,t28,t29,t30,t31,t32,t33,t34,t35,t36,t37,t38,rfl⟩
theorem frel0 {E:Env}{H:Aa}{w:World}{args:List Ab}{vs:Array Value}{n:Nat}(hs:Sim E H w)(hv:A5 E args vs.toList)(hn:args.length<=n):Ip n E H (args++List.replicate (n-args.length) .undef) { tmps:=vs++Array.replicate (n-vs.size) undef,defers:=[] } w:=by
 have hlen:args.length=vs.size:=by simpa using hv.1
 refine⟨?_,by simp;omega,rfl,hs⟩;rw[XE];refine hv.append ⟨by simp[hlen],λi c v h1 h2=>?_⟩;rw[XW]at h1;split at h1
 ·simp at h1;subst h1;exact .undef _
 ·cases h1
def O9:List Bool->List Ab->List Ab
 | true::m,x::xs=>x::O9 m xs
 | _::m,_::xs=>.undef::O9 m xs
 | [],xs=>xs
 | _,[]=>[]
theorem PK:∀(m:List Bool) (xs:List Ab),(O9 m xs).length=xs.length
 | [],[]=>rfl
 | [],_::_=>rfl
 | _::_,[]=>by simp[O9]
 | true::m,x::xs=>by simp[O9,PK m xs]
 | false::m,x::xs=>by simp[O9,PK m xs]
theorem PB {E:Env}:∀(m:List Bool) (xs:List Ab) (vs:List Value),A5 E xs vs->A5 E (O9 m xs) vs
 | [],[],_,h=>h
 | [],_::_,_,h=>h
 | _::_,[],_,h=>by simpa[O9]using h
 | b::m,x::xs,[],h=>absurd h.1 (by simp)
 | true::m,x::xs,v::vs,h=>A5.cons h.head (PB m xs vs h.tail)
 | false::m,x::xs,v::vs,h=>A5.cons (.undef _) (PB m xs vs h.tail)
theorem frel_mask {n:Nat}{E:Env}{H:Aa}{tm:List Ab}{a:Act}{w:World}(m:List Bool)(h:Ip n E H tm a w):Ip n E H (O9 m tm) a w:=
 ⟨PB m tm _ h.rel,by rw[PK];exact h.len,h.defers,h.sim⟩
theorem setCells_one (w:World)(R:Nat)(v:Value):w.setCells R 0 [v]=w.setCell ⟨R,0,none⟩ v:=rfl
theorem JJ:AI Tryz.prog Gs 156 (ap2 Sh.fq):=by
 intro args H res H' h;unfold ap2 at h;split at h
 ·rename_i a b;unfold Sh.fq at h;split at h
  ·rename_i es ta fs tb;split at h
   ·rename_i hex;have hsp:=hex.choose_spec;generalize hp:hex.choose=p at hsp h;obtain⟨la,lb⟩:=p;dsimp only at hsp h;obtain⟨rfl,rfl,xa,xb,ha,hb⟩:=hsp;simp only[Wa,Wq]at h;obtain⟨rfl,rfl⟩:=h;intro E w vs hG hs hv;obtain⟨va,vb,rfl,k1,k2⟩:=args2 hv;have hlA:(AA (val la)).length<=1099511627776:=Wu (Fb (Gn xa)) ha;have hlB:(AA (val lb)).length<=1099511627776:=Wu (Fb (Gn xb)) hb;refine .inl ⟨F6 Tryz.func156 (by kernel_rfl) (by kernel_rfl) _ w,?_⟩;refine callsIn_wide.1 (callsIn_of_wp_marks (n:=3) Tryz.func156 body_156 trivial ?_ rfl);have hC:MT Ug:=mk_ok (Ag DK (At _ _));have hD:DrawOk Ug:=draw_ok hC mixed;have hfr:Ip 39 E H [.sl (enL cU la) ta,.sl (enL cU lb) tb,.undef,.undef,.undef,.undef,.undef,.undef,.undef,.undef,.undef,.undef,.undef,.undef,.undef,.undef,.undef,.undef,.undef,.undef,.undef,.undef,.undef,.undef,.undef,.undef,.undef,.undef,.undef,.undef,.undef,.undef,.undef,.undef,.undef,.undef,.undef,.undef,.undef] { tmps:=#[va,vb]++Array.replicate (39 - #[va,vb].size) undef,defers:=[] } w:=frel0 hs hv (by simp);rw[Tryz.ntmps156];obtain⟨HB,hHB⟩:∃HB:Aa,HB=H++[.cel 0 [.sl (enL cU (AA (val lb))) .no]]++[.cel 0 [.i6 0]]:=⟨_,rfl⟩;have hAev:=cmA_eq PC Rm (.sl (enL cU la) ta) (.sl (enL cU lb) tb) H;rw[cmA_res,<-ev_eq]at hAev;refine wpIn_seq (wpIn_mono (wpIn_wide.2 (Tt hC hD cdA _ (kK PC Rm) E _ H _ w hG (BM.refl E H w) hfr hAev)) ?_);rintro e1 a1 w1 ⟨E1,H1,tm1,x1,hG1,st1,hf1,hx1,hk1⟩;obtain⟨rfl,rfl,rfl⟩:=rec_n hk1;cases e1 <;> first | exact hx1.elim | skip
    have hBev:=cmB_eq PC Rm (.sl (enL cU la) ta) (.sl (enL cU lb) tb) (.ptr H.length 0 0) (.ptr (H.length+1) 0 0) (H++[.cel 0 [.sl (enL cU lb) tb]]++[.cel 0 [.i6 0]]);rw[cmB_res PC ta tb H xa xb ha hb,<-ev_eq]at hBev;refine wpIn_seq (wpIn_mono (wpIn_wide.2 (Tt hC hD cdB _ (kK PC Rm) E1 _ _ a1 w1 hG1 st1 hf1 hBev)) ?_);rintro e2 a2 w2 ⟨E2,H2,tm2,x2,hG2,st2,hf2,hx2,hk2⟩;obtain⟨rfl,rfl,rfl⟩:=rec_n hk2;cases e2 <;> first | exact hx2.elim | skip
    have hf2':Ip 39 E2 HB [.sl (enL cU (AA (val la))) .no,.undef,.undef,.ptr H.length 0 0,.ptr (H.length+1) 0 0,.undef,.undef,.undef,.undef,.undef,.undef,.undef,.undef,.undef,.undef,.undef,.undef,.undef,.undef,.undef,.undef,.undef,.undef,.undef,.undef,.undef,.undef,.undef,.undef,.undef,.undef,.undef,.undef,.undef,.undef,.undef,.undef,.undef,.undef] a2 w2:=hHB ▸ frel_mask [true,false,false,true,true,false,false,false,false,false,false,false,false,false,false,false,false,false,false,false,false,false,false,false,false,false,false,false,false,false,false,false,false,false,false,false,false,false,false] hf2;have hCev:=cmC_eq PC Rm (.sl (enL cU (AA (val la))) .no) (.ptr H.length 0 0) (.ptr (H.length+1) 0 0) HB;obtain⟨tm3,hl3,g0,g3,g4,hres⟩:=cmC_res PC Rm (val la) (val lb) .no .no H hlA hlB;have fin2:∀(z:Int) (HX:Aa) (E3:Env) (W:World),HX=H++[.cel 0 [.sl (enL cU (AA (val lb))) .no]]++[.cel 0 [.i6 z]]->Sim E3 HX W->BM E H w E3 HX W->∃E',Jn E' (.ret (.i6 z)) (.returned (.i6 z))/\Sim E' H W/\BM E H w E' H W:=by
     intro z HX E3 W hHX hsim hst;have hfin:fin .pure H (.ret (.i6 z)) HX=some (.ret (.i6 z),H):=by
      have:rP H (.i6 z) HX=some (.ret (.i6 z),H):=by rw[hHX,VZ];exact Ij
      exact this
     obtain⟨E',q1,q2,q3⟩:=fin_ok (r:=.ret (.i6 z)) (e:=.returned (.i6 z)) hs hst hsim (show Jn E3 _ _ from Ay.int _ _) hfin;exact⟨E',q1,q2,q3⟩
    rw[<-hHB]at hres;rw[hres,<-ev_eq]at hCev;by_cases hlen:(AA (val la)).length=(AA (val lb)).length
    ·rw[if_pos hlen]at hCev;refine wpIn_seq (wpIn_mono (wpIn_wide.2 (Tt hC hD cdC _ (kK PC Rm) E2 _ HB a2 w2 hG2 (hHB ▸ st2) hf2' hCev)) ?_);rintro e3 a3 w3 ⟨E3,H3,tm4,x3,hG3,st3,hf3,hx3,hk3⟩;obtain⟨rfl,rfl,hHH⟩:=rec_n hk3;rw[hHH]at hf3 st3;cases e3 <;> first | exact hx3.elim | skip
     have hl39:a3.tmps.toList.length=39:=by rw[<-hf3.rel.1];exact hf3.len
     obtain⟨ts,ds⟩:=a3;obtain⟨t0,t1,t2,t3,t4,t5,t6,t7,t8,t9,t10,t11,t12,t13,t14,t15,t16,t17,t18,t19,t20,t21,t22,t23,t24,t25,t26,t27,t28,t29,t30,t31,t32,t33,t34,t35,t36,t37,t38,hts⟩:=lit39 ts hl39;have hds:ds=[]:=hf3.defers;subst hds;subst hts;obtain⟨u0,p0,r0⟩:=hf3.rel.get g0;obtain⟨u3,p3,r3⟩:=hf3.rel.get g3;obtain⟨u4,p4,r4⟩:=hf3.rel.get g4;obtain rfl:t0=u0:=by simpa using p0
     obtain rfl:t3=u3:=by simpa using p3
     obtain rfl:t4=u4:=by simpa using p4
     have hsim:=hf3.sim;obtain⟨bA,f3,rfl⟩:=r3.ptr_inv;obtain⟨R,f4,rfl⟩:=r4.ptr_inv;have e1:HB[H.length]? = some (.cel 0 [.sl (enL cU (AA (val lb))) .no]):=by rw[hHB];simp
     have e2:HB[H.length+1]? = some (.cel 0 [.i6 0]):=by rw[hHB];simp
     obtain⟨b0,c0,y0,q0,q1,q2,_⟩:=hsim.blk _ _ e1;obtain⟨b1,c1,y1,q4,q5,q6,_⟩:=hsim.blk _ _ e2;rw[f3]at q0;rw[f4]at q4;cases q0;cases q4;obtain⟨vb3,rfl,rb⟩:=one_of q2;obtain⟨vr3,rfl,rr⟩:=one_of q6;have hvr:=R2 rr;subst hvr;have hw0:bA<w3.heap.size:=(W6.1 q1).1;have hwR:R<w3.heap.size:=(W6.1 q5).1;obtain⟨ao,ba,oa,ca,rfl,hao,hba,hca⟩:=sl_view hsim r0 (by omega);obtain⟨bo,bb,ob,cb,rfl,hbo,hbb,hcb⟩:=sl_view hsim rb (by omega);rw[<-hlen]at hbo hcb q1;refine cmp_tail (n:=(AA (val la)).length) (VV 3) bA R bb ob cb ba oa ca ao bo (λj=>(AA (val la))[j]?.getD 0) (λj=>(AA (val lb))[j]?.getD 0) hlA hao hbo hw0 hwR hba hbb (by rw[Bl q1];rfl) ⟨y1,q5⟩ hca hcb (λz W hg hbel=>?_) _ rfl t1 t2 t5 t6 t7 t8 t9 t10 t11 t12 t13 t14 t15 t16 t17 t18 t19 t20 t21 t22 t23 t24 t25 t26 t27 t28 t29 t30 t31 t32 t33 t34 t35 t36 t37 t38;have hz:=good_val hlen hg;have hst:Af 1 (.ptr (H.length+1) 0 0) (.i6 z) HB=some (H++[.cel 0 [.sl (enL cU (AA (val lb))) .no]]++[.cel 0 [.i6 z]]):=by
      rw[Hs e2 rfl (by simp),hHB]
      congr 1
      rw[W5 _ _ (by simp)];simp
     obtain⟨b',o',cs',tt',w1',w2',w3',w4',w5',w6',w7'⟩:=LT hsim (.ptr f4) (.i6 z) hst;injection w1' with w1';injection w1' with w1';injection w1' with w1a w1b;subst w1a;subst w1b;have hce:(Value.i6 z).cells.toList=[Value.i6 z]:=rfl;rw[hce,setCells_one]at w6' w7';have hext:=w6'.ext (.refl E3) (λ_ _ _ h=>h) (λ_ _ _ h=>h) (λb hb=>hbel.block b (by rw[Fv]at hb;exact hb)) (λ_ _=>rfl) (λb o v hv hb=>by have:=w6'.imm_lt hv;omega) hbel.os hbel.tape hbel.output hbel.size;obtain⟨E',k1',k2',k3'⟩:=fin2 z _ E3 W rfl hext.1 ((st3.trans w7').trans hext.2);refine⟨E',?_,k2',k3'⟩;rw[<-hz];exact k1'
    ·rw[if_neg hlen]at hCev;refine wpIn_seq (wpIn_mono (wpIn_wide.2 (Tt hC hD cdC _ (kK PC Rm) E2 _ HB a2 w2 hG2 (hHB ▸ st2) hf2' hCev)) ?_);rintro e3 a3 w3 ⟨E3,H3,tm4,x3,hG3,st3,hf3,hx3,hk3⟩;obtain⟨rfl,rfl,rfl⟩:=rec_r hk3;cases e3 <;> first | exact hx3.elim | skip
     have hz:=len_val hlen;have hra:FQ Ug Tryz.f156.results.toList tm4 (H++[.cel 0 [.sl (enL cU (AA (val lb))) .no]]++[.cel 0 [.i6 (if (AA (val la)).length<(AA (val lb)).length then -1 else 1)]])=some (.i6 (if (AA (val la)).length<(AA (val lb)).length then -1 else 1)):=by
      have hrs:Tryz.f156.results.toList=[.cell 4 3]:=by kernel_rfl
      have hld:Ac false 1 (.ptr (H.length+1) 0 0) (H++[Blk.cel 0 [.sl (enL cU (AA (val lb))) .no]]++[.cel 0 [.i6 (if (AA (val la)).length<(AA (val lb)).length then -1 else 1)]])=some (.i6 (if (AA (val la)).length<(AA (val lb)).length then -1 else 1)):=by
       simp only[Ac,Aw (show (H++[Blk.cel 0 [.sl (enL cU (AA (val lb))) .no]]++[Blk.cel 0 [.i6 (if (AA (val la)).length<(AA (val lb)).length then -1 else 1)]])[H.length+1]? = some (.cel 0 [.i6 (if (AA (val la)).length<(AA (val lb)).length then -1 else 1)])by simp),zXa]
       rfl
      rw[hrs];show Iu Ug tm4 _ (.cell 4 3)=_;have hd4:tm4.getD 4 .undef=.ptr (H.length+1) 0 0:=by rw[VW,g4];rfl
      have hok:okT Ug.P 3=true:=by kernel_rfl
      have hagg:BG Ug.P 3=false:=by kernel_rfl
      have hsz:As Ug.P 3=1:=by kernel_rfl
      simp only[Iu,hok,hagg,hsz,hd4,WH,VY,if_false];exact hld
     obtain⟨v,r1,r2⟩:=Sx (fn:=Tryz.f156) hf3 hra;have hv3:=R2 r2;subst hv3;show LeavesInM _ _ _ _ _ _ a3.defers _ _;rw[hf3.defers];show LeavesIn _ _ _ _ _ _ [] _ _;refine⟨_,r1,?_⟩;obtain⟨E',q1,q2,q3⟩:=fin2 _ _ E3 w3 rfl hf3.sim st3;refine⟨E',?_,q2,q3⟩;rw[<-hz];exact q1
   ·cases h
  ·cases h
 ·cases h
open Go.Proofs Go.RowKit Go.Shelf
theorem dig1 (x:Nat)(H:Aa):Sh.f6m (.int .i32 x) H=some (.ret (.bool (Ly x)),H):=by
 unfold Sh.f6m Ly;by_cases h:x<48
 ·have h':(x:Int)<48:=by omega
  simp[h,h']
 ·have h':¬(x:Int)<48:=by omega
  by_cases h2:57<x
  ·have oJ:(57:Int)<x:=by omega
   simp[h,h',h2,oJ]
  ·have oJ:¬(57:Int)<x:=by omega
   simp[h,h',h2,oJ]
theorem KV:AI Tryz.prog Gs 234 (ap2 Sh.f20):=by
 intro args H res H' h;unfold ap2 at h;split at h
 ·unfold Sh.f20 at h;split at h
  ·rename_i s;cases h;refine lib_ok Tryz.func234 (by kernel_rfl) λE w vs hG hs hv=>?_;obtain⟨v,u,rfl,h1,h2⟩:=args2 hv;rw[val_str h1];have hu:u=.func (.func 235) #[] #[]:=by
    cases h2 with
    | @fn _ _ vs' mF aO=>exact congrArg _ (Array.eq_empty_of_size_eq_zero mF.symm)
   rw[hu];refine⟨_,.int _ _,Tryz.strings_IndexFunc_grows 235 #[] (λa w=>F6 Tryz.func235 (by kernel_rfl) (by kernel_rfl) a w) Ly ⟨s.toArray⟩ w λW x hx hb=>?_⟩;refine (fn_calls Po Tryz.func235 (by kernel_rfl) (λ_ _ h=>nomatch h) (UC hs hb).1 (args:=[.int .i32 x]) (A5.cons (.int _ _) (A5.nil _)) (dig1 x [])).mono λe w' ⟨⟨E',he⟩,hw⟩=>⟨?_,hw⟩;cases e with
   | returned v=>rw[Ay.bool_inv he]
   | panicked c=>exact he.elim
   | outgrown=>exact he.elim
  ·cases h
 ·cases h
theorem KW:AI Tryz.prog Gs 177 (ap2 Sh.f21):=by
 intro args H res H' h;unfold ap2 at h;split at h
 ·unfold Sh.f21 at h;split at h
  ·rename_i s c;cases h;refine lib_ok Tryz.func177 (by kernel_rfl) λE w vs hG hs hv=>?_;obtain⟨v,u,rfl,h1,h2⟩:=args2 hv;rw[val_str h1,R2 h2];exact⟨_,.int _ _,(Tryz.strings_IndexByte ⟨s.toArray⟩ c w).mono λe w' ⟨he,hw⟩=>⟨by simpa using he,hw ▸ Below.refl _ _⟩⟩
  ·cases h
 ·cases h
end Go.Gm
namespace Go.Proofs
open Go.RowKit
set_option maxRecDepth 10000 in
theorem Tryz.catch_panicking5 (p:Addr)(c0 c1:Value)(older:List PanicEntry)(w:World){wa w1:World}(hs0:Sem.run Tryz.prog (store p c0) w=.ok () wa)(hs1:Sem.run Tryz.prog (store { block:=p.block,off:=p.off+1 } c1) wa=.ok () w1) :
  CallsD Tryz.prog 110 #[.pointer (some p)] (.panicking ({ v:=.iface 107 (.agg #[c0,c1]),recovered:=false }::older)) w λe u' w'=>
   e=.returned (.tuple #[])/\u'=.panicking ({ v:=.iface 107 (.agg #[c0,c1]),recovered:=true }::older)/\w'=w1:=by
 have hta:Sem.run Tryz.prog (Instr.typeAssert (.iface 107 (.agg #[c0,c1])) 20 107 false) w=.ok (.agg #[c0,c1]) w:=by
  kernel_rfl
 refine callsD_of_wpS Tryz.func110 rfl λc₀ cs hu=>?_;apply wpS_seq;apply wpS_region;simp[wpOpsS,go_sem,recoverD,hu,Tryz.ntmps110,Exit.thenS];apply wpS_seq;apply wpS_region;simp[wpOpsS,go_sem,Exit.thenS];refine wpS_cond (t:=true) (by simp[Act.eval,Array.replicate]) ?_;simp only[if_true];apply wpS_region;simp[wpOpsS,go_sem,bodyPostS,results,Tryz.results110,hta,hs0,hs1]
set_option maxRecDepth 10000 in
theorem Tryz.catch_idle5 (p:Addr)(w:World) :
  CallsD Tryz.prog 110 #[.pointer (some p)] .returning w λe u' w'=>e=.returned (.tuple #[])/\u'=.returning/\w'=w:=by
 refine callsD_of_wpS Tryz.func110 rfl λc₀ cs hu=>?_;apply wpS_seq;apply wpS_region;simp[wpOpsS,go_sem,recoverD,hu,Tryz.ntmps110,Exit.thenS];apply wpS_seq;apply wpS_region;simp[wpOpsS,go_sem,Exit.thenS];refine wpS_cond (t:=false) (by simp[Act.eval,Array.replicate]) ?_;simp only[Bool.false_eq_true,if_false];refine wpS_of_wp (wp_skip ?_);cases c₀
 simp_all [bodyPostS,results,Tryz.results110]
end Go.Proofs
namespace Go.Proofs
open Go.RowKit
theorem Tryz.box_cells5 {w:World}{b:Nat}{x0 x1:Value}{t:TypeId}(hbox:w.heap[b]? = some (.cells #[x0,x1] t (0,0)))(y0 y1:Value) :
  (w.setCell ⟨b,0,none⟩ y0).cell? ⟨b,1,none⟩=some x1/\(w.setCell ⟨b,0,none⟩ y0).frozen? ⟨b,1,none⟩=false /\
   ((w.setCell ⟨b,0,none⟩ y0).setCell ⟨b,1,none⟩ y1).cell? ⟨b,0,none⟩=some y0/\((w.setCell ⟨b,0,none⟩ y0).setCell ⟨b,1,none⟩ y1).cell? ⟨b,1,none⟩=some y1:=by
 have sz:b<w.heap.size:=by
  rcases Nat.lt_or_ge b w.heap.size with h | h
  ·exact h
  ·rw[Array.getElem?_eq_none h]at hbox;cases hbox
 have hx:w.heap[b]=.cells #[x0,x1] t (0,0):=by
  rw[Array.getElem?_eq_getElem sz]at hbox;exact Option.some.inj hbox
 refine⟨?_,?_,?_,?_⟩ <;> simp[World.cell?,World.frozen?,World.setCell,hx,sz,Array.getElem_modify]
set_option maxRecDepth 10000 in
set_option maxHeartbeats 1000000 in
theorem Tryz.caught_in5 (g:Nat)(caps:Array Value)(w:World)(eg:∀args w,(callFunc g args).run Tryz.prog w=.ok (.enter g args) w){R:Ending->World->Prop}
  (hj:Calls Tryz.prog g caps (w.alloc (.cells #[.i6 0,.string ⟨#[]⟩] 107)) R)
  (hR:∀e w2,R e w2->(∃t c0 c1,w2.heap[w.heap.size]? = some (.cells #[c0,c1] t (0,0)))/\((∃v,e=.returned v)\/∃c0 c1,Value.oneCell' c0=true/\Value.oneCell' c1=true/\e=.panicked [{ v:=.iface 107 (.agg #[c0,c1]),recovered:=false }])) :
  Calls Tryz.prog 58 #[.func (.func g) caps #[]] w λe w'=>∃e2 w2,R e2 w2/\∃c0 c1,e=.returned (.agg #[c0,c1])/\w'=(w2.setCell ⟨w.heap.size,0,none⟩ c0).setCell ⟨w.heap.size,1,none⟩ c1 /\
   ((∃v,e2=.returned v/\c0=.i6 0/\c1=.string ⟨#[]⟩)\/e2=.panicked [{ v:=.iface 107 (.agg #[c0,c1]),recovered:=false }]):=by
 have hmf:∀(fn:Fn) (first cap:Array Value) (w:World),(Instr.makeFunc fn first cap).run Tryz.prog w=.ok (.func fn first cap) w:=λ_ _ _ _=>rfl
 go_enter_defers Tryz.func58,Tryz.ntmps58
 go_wp2
 refine hj.mono ?_;rintro e w2 hr;obtain⟨⟨t,x0,x1,hbox⟩,h⟩:=hR _ _ hr;have c0:w2.cell? ⟨w.heap.size,0,none⟩=some x0:=by simp[World.cell?,hbox]
 have c1:w2.cell? ⟨w.heap.size,1,none⟩=some x1:=by simp[World.cell?,hbox]
 have f0:w2.frozen? ⟨w.heap.size,0,none⟩=false:=by simp[World.frozen?,hbox]
 have f1:w2.frozen? ⟨w.heap.size,1,none⟩=false:=by simp[World.frozen?,hbox]
 have K:=λy0 y1=>Tryz.box_cells5 (w:=w2) hbox y0 y1;rcases h with ⟨v,rfl⟩ | ⟨y0,y1,o0,o1,rfl⟩
 ·obtain⟨k1,k2,k3,k4⟩:=K (.i6 0) (.string ⟨#[]⟩)
  go_wp2
  refine leaves_cons (f:=110) (args:=#[.pointer (some ⟨w.heap.size,0,none⟩)]) (by simp) (by simp[go_sem]) ?_;refine (Tryz.catch_idle5 ⟨w.heap.size,0,none⟩ _).mono ?_;rintro e u' w'' ⟨rfl,rfl,rfl⟩;simp[Leaves,settle,results,Tryz.results58,go_sem,k3,k4];exact⟨_,_,hr,_,_,⟨rfl,rfl⟩,rfl,Or.inl ⟨⟨_,rfl⟩,rfl,rfl⟩⟩
 ·obtain⟨k1,k2,k3,k4⟩:=K y0 y1;refine leaves_cons (f:=110) (args:=#[.pointer (some ⟨w.heap.size,0,none⟩)]) (by simp) (by simp[go_sem]) ?_;refine (Tryz.catch_panicking5 ⟨w.heap.size,0,none⟩ y0 y1 [] _ (wa:=w2.setCell ⟨w.heap.size,0,none⟩ y0) (w1:=(w2.setCell ⟨w.heap.size,0,none⟩ y0).setCell ⟨w.heap.size,1,none⟩ y1) ?_ ?_).mono ?_
  ·rw[run_store _ _ _ _ _ o0];simp[c0,f0]
  ·rw[run_store _ _ _ _ _ o1];simp[k1,k2]
  rintro e u' w'' ⟨rfl,rfl,rfl⟩;simp[Leaves,settle,results,Tryz.results58,go_sem,k3,k4];exact⟨_,_,hr,_,_,⟨rfl,rfl⟩,rfl,Or.inr rfl⟩
end Go.Proofs
namespace Go.Gm
open Go.Proofs Go.RowKit
theorem Sim.aside5 {E:Env}{H:Aa}{w w':World}(hs:Sim E H w){b:Nat}(h1:¬MS E H b)(h2:∀o,E.I b o=none)(hh:∀x,x≠b->w'.heap[x]? = w.heap[x]?):Sim E H w':=by
 have ne:∀id b',loc E H id=some b'->b'≠b:=λid b' hl e=>h1 ⟨id,e ▸ hl⟩;constructor
 ·intro id B hB;refine ((hs.blk id B hB).keep (.refl E) (λb' hl=>hh b' (ne id b' ?_)) (λ_ _=>rfl)).1;unfold loc;rw[hB];exact hl
 ·exact hs.dom
 ·exact hs.domk
 ·exact hs.late
 ·exact hs.inj
 ·intro b' o v hv;have hne:b'≠b:=λe=>by rw[e,h2 o]at hv;cases hv
  have:=hs.imm b' o v hv;simp only[World.cell?]at this ⊢;rw[hh b' hne];exact this
 ·intro b' cs hf;obtain⟨⟨t,fr,k1⟩,⟨v,k2⟩,k3⟩:=hs.fix b' cs hf;have hne:b'≠b:=λe=>by rw[e,h2 0]at k2;cases k2
  exact⟨⟨t,fr,by rw[hh b' hne];exact k1⟩,⟨v,k2⟩,k3⟩
theorem Up {orc:Orc}(ho:GZ Tryz.prog Gs orc):AI Tryz.prog Gs 58 (ap1 (Pk orc)):=by
 intro args H res H' h;unfold ap1 at h;split at h
 case h_2=>cases h
 rename_i job;unfold Pk at h;split at h
 case h_2=>cases h
 rename_i caps;cases hr:orc 59 caps H with
 | none=>rw[hr]at h;cases h
 | some r=>
  obtain⟨r,H1⟩:=r;rw[hr]at h;cases hc:RU r with
  | none=>simp[hc]at h
  | some x=>
   have hx:Res.ret x=res/\H1=H':=by simpa[hc]using h
   obtain⟨rfl,rfl⟩:=hx;intro E w vs hG hs hv;obtain⟨v,rfl,h1⟩:=args1 hv;cases h1 with
   | bfn hn hcv=>
    rename_i cv;obtain⟨s1,st1⟩:=hs.laid (.cells #[.i6 0,.string ⟨#[]⟩] 107);have hcs:A5 E caps cv.toList:=⟨by simpa using hn,λi c u hi hu=>hcv i c u hi (by simpa using hu)⟩;obtain⟨b1,b2,b3⟩:=FT (show fnB 0 Tryz.f59=true by kernel_rfl);obtain⟨d1,d2,d3⟩:=FT (show fnB 0 Tryz.f58=true by kernel_rfl);have f59:Tryz.prog.funcs[59]? = some Tryz.f59:=Tryz.func59;have f58:Tryz.prog.funcs[58]? = some Tryz.f58:=Tryz.func58;have nb:¬MS E H w.heap.size:=hs.free_new;have lt:w.heap.size<(w.alloc (.cells #[.i6 0,.string ⟨#[]⟩] 107)).heap.size:=by simp[World.alloc,-World.alloc_eq]
    rcases ho 59 caps H r H1 hr E _ cv hG s1 hcs with ⟨_,hj⟩ | ⟨v,w',h1,_⟩
    ·refine .inl ⟨F6 f58 d1 d2 _ w,?_⟩;have hj':=Tryz.caught_in5 59 cv w (λa w=>F6 f59 b1 b2 a w) hj ?_
     ·refine hj'.mono ?_;rintro e w' ⟨e2,w2,⟨E',k1,k2,k3⟩,c0,c1,rfl,rfl,hcase⟩;have no:¬MS E' H1 w.heap.size:=λho=>(k3.own _ ho).elim nb (λh=>by omega);have ni:∀o,E'.I w.heap.size o=none:=λo=>by rw[k3.imm _ o lt nb];exact hs.imm_new o
      have hh:∀b,b≠w.heap.size->((w2.setCell ⟨w.heap.size,0,none⟩ c0).setCell ⟨w.heap.size,1,none⟩ c1).heap[b]? = w2.heap[b]? := λb hb=>by
       simp[World.setCell,X4,Ne.symm hb]
      have st2:=st1.trans k3;refine⟨E',?_,k2.aside5 no ni hh,st2.le,st2.os,st2.tape,st2.output,?_,λb hb ho=>?_,st2.own,st2.imm⟩
      ·rcases hcase with ⟨v,rfl,rfl,rfl⟩ | rfl
       ·cases r with
        | ret y=>cases hc;exact Ay.agg rfl (by intro i c v hi hv;match i with
          | 0=>simp at hi hv;subst hi;subst hv;exact .int _ _
          | 1=>simp at hi hv;subst hi;subst hv;exact .str []
          | _+2=>simp at hi)
        | pan y=>exact absurd k1 id
       ·cases r with
        | ret y=>exact absurd k1 id
        | pan y=>
         obtain⟨v,hv1,hv2⟩:=k1;cases hv1;unfold RU at hc;split at hc
         ·rename_i heq;cases heq
         ·rename_i heq;cases heq;cases hc;cases hv2 with
          | iface h=>exact h
         ·cases hc
      ·simpa[World.setCell]using st2.size
      ·rw[hh b (by omega)];exact st2.frame b hb ho
     ·rintro e w2 ⟨E',k1,k2,k3⟩;refine⟨⟨107,_,_,by rw[k3.frame _ lt nb];exact World.heap_new w _⟩,?_⟩;cases r with
      | ret y=>cases e with
       | returned v=>exact .inl ⟨v,rfl⟩
       | _=>exact absurd k1 id
      | pan y=>cases e with
       | panicked ch=>
        obtain⟨v,rfl,hv2⟩:=k1;unfold RU at hc;split at hc
        ·rename_i heq;cases heq
        ·rename_i heq;cases heq;cases hv2 with
         | iface h=>cases h with
          | agg hn hv => 
           rename_i n s vs;obtain⟨l⟩:=vs
           match l,hn,hv with
           | [a,b],hn,hv=>
            have h0:=hv 0 _ a rfl rfl;have h1:=hv 1 _ b rfl rfl;cases h0;cases h1;exact .inr ⟨_,_,rfl,rfl,rfl⟩
        ·cases hc
       | _=>exact absurd k1 id
    ·rw[F6 f59 b1 b2]at h1;cases h1
open Go.Proofs
set_option maxRecDepth 100000
theorem LE:AI Tryz.prog Gs 16 (ap0 Sh.fr):=mk0 .pure (At _ _) [] Tryz.func16
theorem Rp:AI Tryz.prog Gs 77 (ap2 Sh.f3g):=mk2 .keep (At _ _) [] Tryz.func77
theorem Pn:AI Tryz.prog Gs 36 (ap1 Sh.f3h):=mk1 .pure ((Ag Rp (At _ _))) [] Tryz.func36
theorem Q2:AI Tryz.prog Gs 134 (ap2 Sh.f3i):=mk2 .keep (At _ _) [[0,1,5,12,13],[]] Tryz.func134
theorem Cf:AI Tryz.prog Gs 113 (ap1 Sh.fk):=mk1 .keep (At _ _) [[]] Tryz.func113
theorem Cq:AI Tryz.prog Gs 117 (ap2 Sh.f5):=mk2 .keep ((Ag Cf (At _ _))) [[1000000]] Tryz.func117
theorem Hm:AI Tryz.prog Gs 111 (ap3 Sh.fb):=mk3 .keep ((Ag Q2 ((Ag Cq (At _ _))))) [[]] Tryz.func111
theorem Cr:AI Tryz.prog Gs 114 (ap2 Sh.f4):=mk2 .keep ((Ag Cf ((Ag KW (At _ _))))) [[]] Tryz.func114
theorem M9:AI Tryz.prog Gs 112 (ap2 Sh.f1g):=mk2 .keep ((Ag Cf ((Ag Cr ((Ag Cq (At _ _))))))) [[1000003,0,1],[1000006,0]] Tryz.func112
theorem MA:AI Tryz.prog Gs 178 (ap1 Sh.f3j):=mk1 .keep ((Ag Cf ((Ag Cr (At _ _))))) [[0]] Tryz.func178
theorem TC:AI Tryz.prog Gs 194 (ap1 Sh.f3k):=mk1 .keep (At _ _) [] Tryz.func194
theorem LD:AI Tryz.prog Gs 179 (ap2 Sh.f1h):=mk2 .keep ((Ag Cf ((Ag TC ((Ag Cq (At _ _))))))) [[0,1,5],[],[1000006,0,5],[]] Tryz.func179
theorem GR:AI Tryz.prog Gs 181 (ap1 Sh.f22):=mk1 .keep (At _ _) [] Tryz.func181
theorem Jh:AI Tryz.prog Gs 232 (ap2 Sh.f3l):=mk2 .keep (At _ _) [] Tryz.func232
theorem Ji:AI Tryz.prog Gs 233 (ap2 Sh.f6s):=mk2 .keep ((Ag Jh (At _ _))) [] Tryz.func233
theorem KX:AI Tryz.prog Gs 224 (ap2 Sh.f3m):=mk2 .keep ((Ag Ji (At _ _))) [] Tryz.func224
theorem Rv:AI Tryz.prog Gs 225 (ap2 Sh.f3n):=mk2 .keep ((Ag KV (At _ _))) [] Tryz.func225
theorem Uk:AI Tryz.prog Gs 226 (ap3 Sh.f3o):=mk3 .pureN ((Ag DK (At _ _))) [[0,1,7,8,17,18,19]] Tryz.func226
theorem TF:AI Tryz.prog Gs 196 (ap1 Sh.f3q):=mk1 .pureN ((Ag KX ((Ag Uk ((Ag Rv (At _ _))))))) [[1000003,2,4,5,14],[2,5,6,36]] Tryz.func196
theorem Kj:AI Tryz.prog Gs 180 (ap3 Sh.f13):=mk3 .keepN ((Ag Cr ((Ag Cq ((Ag GR ((Ag TF (At _ _))))))))) [[1000002,0,2,6,7],[0,2,6,7,8],[1000013,0,2,6,7,8],[1000018,0,6,7],[0,1,2,3,4,5,6,7,8,9,10,11,12,14,15,13,16]] Tryz.func180
theorem KY:AI Tryz.prog Gs 115 (ap1 Sh.f3u):=mk1 .keep ((Ag Cr ((Ag MA ((Ag Hm ((Ag LD ((Ag Kj ((Ag Cq (At _ _))))))))))))) [[9,0,1,2,3,5,6,4,7,8],[9,0,1,2,3,5,6,4,7,8]] Tryz.func115
theorem Dt:AI Tryz.prog Gs 206 (ap1 Sh.f24):=mv1 .keep (At _ _) [] Tryz.func206
theorem TE:AI Tryz.prog Gs 200 (ap1 Sh.f3v):=mk1 .pureN ((Ag Dt ((Ag DK (At _ _))))) [] Tryz.func200
theorem Gc:AI Tryz.prog Gs 153 (ap2 Sh.fc):=mk2 .pureN (At _ _) [] Tryz.func153
theorem Rc:AI Tryz.prog Gs 151 (ap1 Sh.f14):=mk1 .pureN ((Ag TE ((Ag Gc (At _ _))))) [[1000002,0,2,3]] Tryz.func151
end Go.Gm
