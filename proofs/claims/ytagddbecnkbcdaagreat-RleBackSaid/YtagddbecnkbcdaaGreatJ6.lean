/- Texts of this proof, joined. -/
import Derived.Test.YtagddbecnkbcdaaGreatJ3
import Derived.Test.YtagddbecnkbcdaaGreatJ4
import Derived.Test.YtagddbecnkbcdaaGreatJ5
import Derived.OrdersIn
import Derived.TacticsIn
import Derived.RangeFuncCalls
import Derived.Shelf.RegionOpen
import Derived.Laws.ResultCell
import Derived.Test.YtagddbecnkbcdaaGreatProg
import Derived.WalkKit
import Derived.Tactics
import Derived.Tactics2
import Derived.Defers
import Derived.Recover
import Derived.Laws.Pointers
set_option linter.all false
namespace Go.Gm
theorem PN {nf:Nat->Nat}{E:List (Option Int)}{x:Nd}:∀(n:Nat),n<=4->∀j,j<n->x.kid (nf j)≠0->(CJ nf E x n).1=true/\bo (CJ nf E x n).2<=Dd nf E x j
 |0,_,j,h,_=>by omega
 |n+1,hn,j,h,hk=>by
  unfold CJ;by_cases hj:j=n;subst hj;rw[if_neg hk];by_cases hc:(CJ nf E x j).1=false\/Dd nf E x j<bo (CJ nf E x j).2;rw[if_pos hc];exact⟨rfl,by rw[K1];exact Yl _⟩;rw[if_neg hc];have h1:(CJ nf E x j).1=true:=(by cases hq:(CJ nf E x j).1 with|true=>rfl|false=>exact absurd (.inl hq) hc);have h2:¬Dd nf E x j<bo (CJ nf E x j).2:=λh=>hc (.inr h);exact⟨h1,by omega⟩;obtain⟨i1,i2⟩:=PN (nf:=nf) (E:=E) (x:=x) n (by omega) j (by omega) hk;by_cases h0:x.kid (nf n)=0;rw[if_pos h0];exact⟨i1,i2⟩;rw[if_neg h0];by_cases hc:(CJ nf E x n).1=false\/Dd nf E x n<bo (CJ nf E x n).2;rw[if_pos hc];refine⟨rfl,?_⟩;rw[K1];rcases hc with hc | hc;rw[i1]at hc;cases hc;omega;rw[if_neg hc];exact⟨i1,i2⟩
theorem Lj {nf:Nat->Nat}{E:List (Option Int)}{x:Nd}:∀(n:Nat),(∀j,j<n->x.kid (nf j)=0)->CJ nf E x n=(false,none)
 |0,_=>rfl
 |n+1,h=>by unfold CJ;rw[if_pos (h n (by omega))];exact Lj n λj hj=>h j (by omega)
def Opp (nf nf':Nat->Nat):Prop:=(∀j,nf j<4)/\(∀j,nf' j<4)/\∀k,k<4->∃j1 j2,j1<4/\j2<4/\nf j1=k/\nf' j2=k/\(1<j1↔¬1<j2)
theorem Vpz:Opp nfW nfE:=⟨MG,Q8,λk hk=>by
 match k,hk with
 |0,_=>exact⟨0,2,by decide,by decide,rfl,rfl,by decide⟩
 |1,_=>exact⟨2,0,by decide,by decide,rfl,rfl,by decide⟩
 |2,_=>exact⟨1,3,by decide,by decide,rfl,rfl,by decide⟩
 |3,_=>exact⟨3,1,by decide,by decide,rfl,rfl,by decide⟩⟩
theorem Vp0:Opp nfN nfS:=⟨MH,Q7,λk hk=>by
 match k,hk with
 |0,_=>exact⟨0,2,by decide,by decide,rfl,rfl,by decide⟩
 |1,_=>exact⟨1,3,by decide,by decide,rfl,rfl,by decide⟩
 |2,_=>exact⟨2,0,by decide,by decide,rfl,rfl,by decide⟩
 |3,_=>exact⟨3,1,by decide,by decide,rfl,rfl,by decide⟩⟩
theorem VcR {nf nf':Nat->Nat}(ho:Opp nf nf'){L:List Nd}(hl:AF L=true):∀i,i<=L.length->∀m x,m<i->L[m]? = some x->bo ((BX nf (L.take i)).getD (m+1) none)+bo ((BX nf' (L.take i)).getD (m+1) none)<2^x.lv.toNat
 |0,_,m,x,h,_=>by omega
 |i+1,h,m,x,hm,hx=>by
  have ih:=VcR ho hl i (by omega);have len:∀nf:Nat->Nat,(BX nf (L.take i)).length=i+1:=λnf=>by rw[FJ];simp;omega
  rw[HN nf L h,HN nf' L h];by_cases rD:m<i;rw[W6,W6,W8 (by rw[len];omega),W8 (by rw[len];omega),<-W6,<-W6];exact ih m x rD hx;have e:m=i:=(by omega);subst e;rw[W4 h]at hx;injection hx with hx;rw[W6,W6,WX (by rw[len];omega),WX (by rw[len];omega),len,len,Xi];simp only[zXh,Option.getD_some];obtain⟨v1,v2,v3⟩:=AQ hl h;rw[hx]at v1 v2 v3⊢;have hp:(0:Int)<2^(x.lv.toNat-1):=Yv (by omega);have e2:(2:Int)^x.lv.toNat=2^(x.lv.toNat-1)*2:=(by rw[<-Ya];congr 1;omega);by_cases aD:∀k,k<4->x.kid k=0;rw[Lj 4 λj _=>aD _ (ho.1 j),Lj 4 λj _=>aD _ (ho.2.1 j),e2];show(0:Int)+0<_;omega;obtain⟨k,hk⟩:=Classical.not_forall.1 aD;obtain⟨bX,jS⟩:=Classical.not_imp.1 hk;obtain⟨j1,j2,l1,l2,n1,n2,aF⟩:=ho.2.2 k bX;have a1:=(PN (nf:=nf) (E:=BX nf (L.take m)) (x:=x) 4 (W7 _) j1 l1 (by rw[n1];exact jS)).2;have a2:=(PN (nf:=nf') (E:=BX nf' (L.take m)) (x:=x) 4 (W7 _) j2 l2 (by rw[n2];exact jS)).2;refine Int.lt_of_le_of_lt (Int.add_le_add a1 a2) ?_;unfold Dd;rw[n1,n2,e2];have gT:(1<x.lv->bo ((BX nf (L.take m)).getD (x.kid k).toNat none)+bo ((BX nf' (L.take m)).getD (x.kid k).toNat none)<2^(x.lv.toNat-1)):=(by intro h1;obtain⟨q1,q2,q3⟩:=v3 k bX;obtain⟨r1,r2⟩:=q3 h1 (by omega);obtain⟨c,hc⟩:∃c:Nat,(x.kid k).toNat=c+1:=⟨(x.kid k).toNat-1,by omega⟩;have aG:c<L.length:=(by omega);have aJ:=r2 L[c] (by rw[show(x.kid k-1).toNat=c from by omega];exact W4 aG);have:=ih c L[c] (by omega) (W4 aG);rw[hc,show x.lv.toNat-1=L[c].lv.toNat from by omega];exact this);by_cases h1:1<x.lv;have hs:=gT h1;rw[if_pos h1,if_pos h1];generalize (2:Int)^(x.lv.toNat-1)=p at *;by_cases hj:1<j1;rw[if_pos hj,if_neg (aF.1 hj)];omega;have mR:1<j2:=Classical.byContradiction λh=>hj (aF.2 h);rw[if_neg hj,if_pos mR];omega;rw[if_neg h1,if_neg h1];generalize (2:Int)^(x.lv.toNat-1)=p at *;by_cases hj:1<j1;rw[if_pos hj,if_neg (aF.1 hj)];omega;have mR:1<j2:=Classical.byContradiction λh=>hj (aF.2 h);rw[if_neg hj,if_pos mR];omega
theorem Vkx {L:List Nd}(hl:AF L=true)(h0:L≠[]):1<=bxW L/\1<=bxH L:=by
 have hlen:0<L.length:=Xd.2 h0;have hm:L.length-1<L.length:=by omega
 have ht:Bq L=L[L.length-1].lv:=by unfold Bq;rw[E7 (n:=L.length-1) (by omega) hm]
 have key:∀nf nf':Nat->Nat,Opp nf nf'->bo (G6 nf L)+bo (G6 nf' L)<2^(Bq L).toNat:=λnf nf' ho=>by have:=VcR ho hl L.length (W7 _) (L.length-1) L[L.length-1] hm (W4 hm);rw[WH (W7 _),show L.length-1+1=L.length from by omega]at this;rw[ht];exact this
 have k1:=key _ _ Vpz;have k2:=key _ _ Vp0;unfold bxW bxH;generalize (2:Int)^(Bq L).toNat=p at *;omega
section
variable {α:Type}{f:α->List Ab}{ty:TypeId}{sz:Nat}
def RS (f:α->List Ab)(ty:TypeId)(sz b:Nat)(out:List α)(v:Ab)(H:Aa):Prop:=(out=[]/\v=.sl [] .ti)\/∃t,b<=t/\v=.sl (enL f out) (.own t)/\H[t]? = some (.tok out.length ty sz)
theorem RS.sl {b:Nat}{out:List α}{v:Ab}{H:Aa}(h:RS f ty sz b out v H):∃tk,v=.sl (enL f out) tk:=by rcases h with ⟨rfl,rfl⟩ | ⟨t,_,rfl,_⟩;exact⟨_,rfl⟩;exact⟨_,rfl⟩
theorem RS.left {b:Nat}{out:List α}{v:Ab}{H:Aa}(h:RS f ty sz b out v H)(G:Aa):RS f ty sz b out v (H++G):=by rcases h with h1 | ⟨t,h1,h2,h3⟩;exact .inl h1;exact .inr ⟨t,h1,h2,A1 h3⟩
theorem RS.put {b p:Nat}{out:List α}{v:Ab}{H:Aa}{c c':List Ab}(h:RS f ty sz b out v H)(hp:H[p]? = some (.c0 c)):RS f ty sz b out v (H.set p (.c0 c')):=by
 rcases h with h1 | ⟨t,h1,h2,h3⟩;exact .inl h1
 ·refine .inr ⟨t,h1,h2,?_⟩;have:p≠t:=λe=>by rw[<-e,hp]at h3;cases h3
  rw[WA this];exact h3
theorem RS.snoc [hf:Sz f sz]{bytes b:Nat}{out:List α}{v:Ab}{H:Aa}(h:RS f ty sz b out v H)(hb:b<=H.length)(x:α)(tk:Tok)(hl:(out.length+1)*bytes<=140737488355328)(gK:out.length+1<=140737488355328):∃v' H',AW ty sz bytes v (.sl (enL f [x]) tk) H=some (v',H')/\RS f ty sz b (out++[x]) v' H'/\Kp b H H':=by
 rcases h with ⟨rfl,rfl⟩ | ⟨t,h1,rfl,h3⟩;have:=Dh (f:=f) (l:=[]) (m:=[x]) (ty:=ty) (bytes:=bytes) (tk:=tk) (H:=H) (by simp) (by simpa using hl) (by simp);exact⟨_,_,this,.inr ⟨H.length,hb,rfl,by simp⟩,Kp.app hb _⟩;have:=F4 (f:=f) (l:=out) (m:=[x]) (ty:=ty) (bytes:=bytes) (tk:=tk) (H:=H) (t:=t) (by simp) h3 (by simpa using hl) (by simpa using gK);have iI:=(W5.1 h3).1;refine⟨_,_,this,.inr ⟨t,h1,rfl,by simp[iI]⟩,⟨by simp,λi cs hc=>?_,λi hi=>?_⟩⟩;have:t≠i:=λe=>(by rw[<-e,h3]at hc;cases hc);rw[WA this];exact hc;rw[WA (by omega)]

end
def LR (L:List Nd)(X Y:Int)(y x:Nat):UInt8:=UInt8.ofNat (Sc L (X+(x:Int)) (Y+(y:Int))).toNat
def Qy (L:List Nd)(X Y:Int)(w y:Nat):zAa:=(List.range w).map (LR L X Y y)
theorem VlQ {L:List Nd}(hl:AF L=true)(x y:Int):St (Sc L x y):=by unfold Sc;split;exact⟨Yl _,by show(0:Int)<=255;decide⟩;split;exact Vgi hl _ _ _ _ ⟨W7 _,.inr rfl⟩;exact⟨Yl _,by show(0:Int)<=255;decide⟩
theorem VgR {L:List Nd}(hl:AF L=true)(X Y:Int)(y x:Nat):((LR L X Y y x).toNat:Int)=Sc L (X+(x:Int)) (Y+(y:Int)):=by have h:=VlQ hl (X+(x:Int)) (Y+(y:Int));unfold LR;have h1:=h.1;have h2:=h.2;rw[XZ (show(Sc L (X+(x:Int)) (Y+(y:Int))).toNat<256 by omega)];omega
theorem R1 {n:Nat}(h:n<=1000):SB 44 (n:Int):=by unfold SB;have h1:(4294967296:Nat)^1<=4294967296^44:=Gd (by omega);omega
theorem ViY (H:Aa)(rec1:LK)(L:List Nd)(X Y:Int)(w h y p3 p5 p28 p54:Nat)(Hc:Aa)(out:Out)(hL:L.length<549755813888)(hl:AF L=true)(hw:w<=1000)(hy:y<=1000)(sX:SB 44 X)(sY:SB 44 Y)
  (hq:Ad true 1 (.ptr p3 0 0) Hc=some (Dp L))(hX:Ad true 2 (.ptr p28 0 0) Hc=some (big X))(hY:Ad true 2 (.ptr p28 0 2) Hc=some (big Y))
  (fin:∀aA:LK,UaG H rec1 aA (.ptr p3 0 0) (.ptr p5 0 0) (.ptr p28 0 0) (.i6 (w:Int)) (.i6 (h:Int)) (.ptr p54 0 0) (.i6 (y:Int)) (.ms Hc.length 0 0 w w 1 true) (.i6 (w:Int)) (Hc++[.c0 (flat cY (Qy L X Y w y))])=out):Al (λaA vs H1=>UaG H rec1 aA (ag vs 0) (ag vs 1) (ag vs 2) (ag vs 3) (ag vs 4) (ag vs 5) (ag vs 6) (ag vs 7) (ag vs 8) H1) AU [.ptr p3 0 0,.ptr p5 0 0,.ptr p28 0 0,.i6 (w:Int),.i6 (h:Int),.ptr p54 0 0,.i6 (y:Int),.ms Hc.length 0 0 w w 1 true,.i6 0] (Hc++[.c0 (flat cY (List.replicate w 0))])=out:=by
 have key:=Cx (G:=λaA vs H1=>UaG H rec1 aA (ag vs 0) (ag vs 1) (ag vs 2) (ag vs 3) (ag vs 4) (ag vs 5) (ag vs 6) (ag vs 7) (ag vs 8) H1) w
  (λx=>[.ptr p3 0 0,.ptr p5 0 0,.ptr p28 0 0,.i6 (w:Int),.i6 (h:Int),.ptr p54 0 0,.i6 (y:Int),.ms Hc.length 0 0 w w 1 true,.i6 (x:Int)]) (λx=>Hc++[.c0 (flat cY ((List.range x).map (LR L X Y y)++List.replicate (w-x) 0))]) out (by omega) (λaA x hx=>?_) (λaA=>?_)
 simpa using key
 ·have hx':(x:Int)<(w:Int):=by omega
  have aK:=Au (show x<9223372036854775807 by omega);generalize hR:(List.range x).map (LR L X Y y)++List.replicate (w-x) 0=R;have hRl:R.length=w:=by rw[<-hR];simp;omega
  have aI:R.set x (LR L X Y y x)=(List.range (x+1)).map (LR L X Y y)++List.replicate (w-(x+1)) 0:=by rw[<-hR,Xl _ _ (by simp),show w-x=(w-(x+1))+1 from by omega,zXm];simp[Y2]
  rw[<-aI];have ox:=λH=>OA (x:Int) H (by omega) (by omega);have oy:=λH=>OA (y:Int) H (by omega) (by omega);have sx:=R1 (show x<=1000 by omega);have sy:=R1 hy;have ax:=λH=>Ie X (x:Int) H (sX.lb (by decide)) (sx.lb (by decide));have ay:=λH=>Ie Y (y:Int) H (sY.lb (by decide)) (sy.lb (by decide));have bB:=λH=>VkW L (X+(x:Int)) (Y+(y:Int)) H (by omega) hl ((sX.add sx).mono (by omega)) ((sY.add sy).mono (by omega));have g1:=B8 (G:=[Blk.c0 (flat cY R)]) hq;have g2:=B8 (G:=[Blk.c0 (flat cY R)]) hX;have g3:=B8 (G:=[Blk.c0 (flat cY R)]) hY;have hidx:=Db (sz:=1) (id:=Hc.length) (n:=w) (K:=.i64) (g:=0) (off:=0) (cap:=w) (ex:=true) (i:=x) hx;simp only[W9,WK]at hidx;have hst:=Ee (f:=cY) (sz:=1) (l:=R) (i:=x) (a:=LR L X Y y x) (v:=.int .u8 (Sc L (X+(x:Int)) (Y+(y:Int)))) (H:=Hc++[Blk.c0 (flat cY R)]) (id:=Hc.length) (Ax An) (by omega) (by rw[<-VgR hl];rfl);rw[WK,Bw An,Be]at hst;unfold UaG;simp only[GMw,Aj,hx',ox,Ae,W9,g1,g2,g3,and_true,eq_self,ax,oy,ay,bB,hidx,hst,aK]
 rw[Xi,List.replicate_zero,WU];exact fin aA
def Cr (X Y:Int)(v:Ab):List Ab:=A2 X++A2 Y++[v]
def P6 (X Y:Int)(rows:List (zAa)):Ab:=.agg (Cr X Y (.sl (enL cS rows) .no))
def DZ:List Ab:=[.bool false,.sl [] .ti,.bool false,.sl [] .ti,.sl [] .ti]
def GC (L:List Nd)(X Y:Int)(w n:Nat):List (zAa):=(List.range n).map (Qy L X Y w)
theorem VdM (X Y:Int)(es:List (List Ab))(tk:Tok)(H':Aa)(n d:Nat):Ft H' n (d+3) (.agg (Cr X Y (.sl es tk)))=some (.agg (Cr X Y (.sl es .no))):=by unfold Cr A2;simp
theorem Jn (X Y:Int)(es:List (List Ab))(tk:Tok):(Cr X Y (.sl es tk)).all Ab.isScal=true:=by unfold Cr A2;simp
theorem Nx (H:Aa):A0 (some [(.bool false),(.sl [] .ti),(.bool false),(.sl [] .ti),(.sl [] .ti)]) H=some (.ptr H.length 0 0,H++[.c0 DZ]):=alloc_eq rfl
theorem Vge {H Hq:Aa}{p5:Nat}{X Y:Int}{es:List (List Ab)}{tk:Tok}{e:Int}{c:List Ab}(hp:H.length<=p5)(hc:Hq[p5]? = some (.c0 c))(hl:c.length=5)(hold:∀i,i<H.length->Hq[i]? = H[i]?):(bP H (AA (Ai 5 (.ptr p5 0 0) (.agg (Cr X Y (.sl es tk))) Hq)) λ_ H37=>(Ex [Ad true 5 (.ptr p5 0 0) H37,some (.i6 e)]).bind λx38=>rPN H x38 H37)=some (.ret (.tup [.agg (Cr X Y (.sl es .no)),.i6 e]),H):=by
 have aG:=(W5.1 hc).1;have hst:Ai 5 (.ptr p5 0 0) (.agg (Cr X Y (.sl es tk))) Hq=some (Hq.set p5 (.c0 (Cr X Y (.sl es tk)))):=by simp only[Ai,Ax hc,zXa,Cb (Jn X Y es tk),Bw hc,D6 (sz:=5) hl];rw[if_pos ⟨rfl,by omega⟩]
 have hld:Ad true 5 (.ptr p5 0 0) (Hq.set p5 (.c0 (Cr X Y (.sl es tk))))=some (.agg (Cr X Y (.sl es tk))):=by
  have:(Hq.set p5 (.c0 (Cr X Y (.sl es tk))))[p5]? = some (.c0 (Cr X Y (.sl es tk))):=by rw[WJ aG]
  simp only[Ad,Ax this,zXa];rfl
 have aT:(Hq.set p5 (.c0 (Cr X Y (.sl es tk)))).take H.length=H:=Cv λi hi=>by rw[WA (by omega),hold i hi]
 simp only[GMw,hst,hld,EX,Dl,DN,zXb,Gz aT,Cs,By,BB,VdM,Dc]
theorem NM {H Hq:Aa}{p5:Nat}{e:Int}(hp:H.length<=p5)(hc:Hq[p5]? = some (.c0 DZ))(hold:∀i,i<H.length->Hq[i]? = H[i]?):((A6 (some [(.bool false),(.sl [] .ti),(.bool false),(.sl [] .ti),(.sl [] .ti)]) []).bind λx11=>bP H (AA (Ai 5 (.ptr p5 0 0) x11 Hq)) λ_ H37=>(Ex [Ad true 5 (.ptr p5 0 0) H37,some (.i6 e)]).bind λx38=>rPN H x38 H37)=some (.ret (.tup [P6 0 0 [],.i6 e]),H):=by
 have hb:A6 (some [(.bool false),(.sl [] .ti),(.bool false),(.sl [] .ti),(.sl [] .ti)]) []=some (.agg DZ):=rfl;have aG:=(W5.1 hc).1;have hst:Ai 5 (.ptr p5 0 0) (.agg DZ) Hq=some (Hq.set p5 (.c0 DZ)):=by
  simp only[Ai,Ax hc,zXa,Cb (cs:=DZ) rfl,Bw hc,D6 (cs:=DZ) (sz:=5) rfl]
  rfl
 have hld:Ad true 5 (.ptr p5 0 0) (Hq.set p5 (.c0 DZ))=some (.agg DZ):=by
  have:(Hq.set p5 (.c0 DZ))[p5]? = some (.c0 DZ):=by rw[WJ aG]
  simp only[Ad,Ax this,zXa];rfl
 have aT:(Hq.set p5 (.c0 DZ)).take H.length=H:=Cv λi hi=>by rw[WA (by omega),hold i hi]
 simp only[hb,GMw,hst,hld,EX,Dl,DN,zXb,Gz aT,Cs,By,BB,FH];simp only[DZ,BA,zXb,DR,EE,Lh,GV,Dc]
 rfl
theorem Vgf (H:Aa)(L:List Nd)(X Y:Int)(W Hh:Int)(w h p3 p5 p28 p54:Nat)(hL:L.length<549755813888)(hl:AF L=true)(hw:w<=1000)(hh:h<=1000)(sX:SB 44 X)(sY:SB 44 Y)
  (q3:H.length<=p3)(q5:H.length<=p5)(q28:H.length<=p28)(q54:H.length<=p54)(d3:p3≠p54)(d5:p5≠p54)(d28:p28≠p54)(Hc:Aa)
  (f3:Hc[p3]? = some (.c0 (Bl L)))(f5:Hc[p5]? = some (.c0 DZ))(f28:Hc[p28]? = some (.c0 (IL X Y W Hh)))(f54:Hc[p54]? = some (.c0 (Cr X Y (.sl [] .ti))))(hold:∀i,i<H.length->Hc[i]? = H[i]?):Al (λrec1 vs H1=>Ub5 H rec1 (ag vs 0) (ag vs 1) (ag vs 2) (ag vs 3) (ag vs 4) (ag vs 5) (ag vs 6) H1) AU [.ptr p3 0 0,.ptr p5 0 0,.ptr p28 0 0,.i6 (w:Int),.i6 (h:Int),.ptr p54 0 0,.i6 0] Hc=some (.ret (.tup [P6 X Y (GC L X Y w h),.i6 0]),H):=by
 have rQ:H.length<=Hc.length:=by have:=(W5.1 f3).1;omega
 have loop:=Fk (G:=λrec1 vs H1=>Ub5 H rec1 (ag vs 0) (ag vs 1) (ag vs 2) (ag vs 3) (ag vs 4) (ag vs 5) (ag vs 6) H1) h
  (λy vs Hd=>∃v,vs=[.ptr p3 0 0,.ptr p5 0 0,.ptr p28 0 0,.i6 (w:Int),.i6 (h:Int),.ptr p54 0 0,.i6 (y:Int)]/\Hd[p3]? = some (.c0 (Bl L))/\Hd[p5]? = some (.c0 DZ)/\Hd[p28]? = some (.c0 (IL X Y W Hh))/\Hd[p54]? = some (.c0 (Cr X Y v))/\RS cS DJ 1 H.length (GC L X Y w y) v Hd/\(∀i,i<H.length->Hd[i]? = H[i]?)/\H.length<=Hd.length)
  (by omega) (λy vs Hd hy hI=>?_) (vs:=[.ptr p3 0 0,.ptr p5 0 0,.ptr p28 0 0,.i6 (w:Int),.i6 (h:Int),.ptr p54 0 0,.i6 0]) (H:=Hc) ⟨_,rfl,f3,f5,f28,f54,.inl ⟨rfl,rfl⟩,hold,rQ⟩
 ·obtain⟨vs',Hd,⟨v,rfl,g3,g5,g28,g54,gR,go,gl⟩,rec,aB⟩:=loop;rw[aB];obtain⟨tk,rfl⟩:=gR.sl;have hld:Ad true 5 (.ptr p54 0 0) Hd=some (.agg (Cr X Y (.sl (enL cS (GC L X Y w h)) tk))):=by simp only[Ad,Ax g54,zXa];rfl
  unfold Ub5;simp only[Ao,Aj,Bn,BA,Xm,decide_false,AL,hld];exact Vge q5 g5 rfl go
 ·obtain⟨v,rfl,g3,g5,g28,g54,gR,go,gl⟩:=hI;have kR:(y:Int)<(h:Int):=by omega
  have aK:=Au (show y<9223372036854775807 by omega);have dC:=FB (f:=cY) (a:=0) (n:=w) (bytes:=1) (H:=Hd) (by omega) (by omega);simp only[show cY 0=[Ab.int .u8 0] from rfl]at dC;have hX:Ad true 2 (.ptr p28 0 0) Hd=some (big X):=by simp only[Ad,Ax g28,zXa];rfl
  have hY:Ad true 2 (.ptr p28 0 2) Hd=some (big Y):=by simp only[Ad,Ax g28,zXa];rfl
  have kU:(Qy L X Y w y).length=w:=by simp[Qy]
  have gR':=gR.left [Blk.c0 (flat cY (Qy L X Y w y))];have hrn:(GC L X Y w y).length=y:=by simp[GC]
  obtain⟨v2,He,a1,a2,a3⟩:=gR'.snoc (bytes:=16) (by simp;omega) (Qy L X Y w y) .ti (by omega) (by omega);obtain⟨tk0,rfl⟩:=gR.sl;obtain⟨tk2,rfl⟩:=a2.sl;have e54:=a3.cel p54 _ (A1 g54);have e54l:=(W5.1 e54).1;have eA:GC L X Y w y++[Qy L X Y w y]=GC L X Y w (y+1):=by simp[GC,Y2]
  rw[eA]at a1 a2;have vU:Ad false 1 (.ptr p54 0 4) (Hd++[Blk.c0 (flat cY (Qy L X Y w y))])=some (.sl (enL cS (GC L X Y w y)) tk0):=B8 (by simp only[Ad,Ax g54,zXa];rfl);have uJ:Ai 1 (.ptr p54 0 4) (.sl (enL cS (GC L X Y w (y+1))) tk2) He=some (He.set p54 (.c0 (Cr X Y (.sl (enL cS (GC L X Y w (y+1))) tk2)))):=by simp only[Ai,Ax e54,zXa,Rz,Bw e54];rfl
  have lF:=Vh0 (l:=Qy L X Y w y) (H:=Hd++[Blk.c0 (flat cY (Qy L X Y w y))]) (id:=Hd.length) (Ax An);rw[kU]at lF;refine⟨[.ptr p3 0 0,.ptr p5 0 0,.ptr p28 0 0,.i6 (w:Int),.i6 (h:Int),.ptr p54 0 0,.i6 ((y+1:Nat):Int)],He.set p54 (.c0 (Cr X Y (.sl (enL cS (GC L X Y w (y+1))) tk2))),⟨_,rfl,by rw[WA d3.symm];exact a3.cel _ _ (A1 g3),by rw[WA d5.symm];exact a3.cel _ _ (A1 g5),by rw[WA d28.symm];exact a3.cel _ _ (A1 g28),by rw[WJ e54l],a2.put e54,λi hi=>?_,?_⟩,λrec=>?_⟩;rw[WA (by omega),a3.old i hi,W8 (by omega)];exact go i hi;have:=a3.len;simp at this;simp;omega;unfold Ub5;simp only[Ao,Aj,Bn,BA,kR,decide_true,AZ,dC,Br];refine ViY H rec L X Y w h y p3 p5 p28 p54 Hd _ hL hl hw (by omega) sX sY (NH g3) hX hY λaA=>?_;unfold UaG;simp only[GMw,Xm,Ae,W9,vU,lF,SH,a1,uJ,aK]
def Vgg (L:List Nd)(m:Int):Ab×Int:=
 if m<0\/m>1000 then (P6 0 0 [],1)
 else if EU L m=false then (P6 0 0 [],4)
 else if L=[]then (P6 0 0 [],0)
 else (P6 (bxX L) (bxY L) (GC L (bxX L) (bxY L) (bxW L).toNat (bxH L).toNat),0)
theorem Vky {L:List Nd}(hl:AF L=true)(h0:L≠[]):SB 44 (bxX L)/\SB 44 (bxY L):=by
 have hlen:0<L.length:=Xd.2 h0;have eW:=HM MG hl hlen;have eN:=HM MH hl hlen;have hLv:Lv L (Bq L).toNat L.length:=⟨W7 _,.inr rfl⟩;obtain⟨_,hn2⟩:=hLv.num hlen hl;have hle:(Bq L).toNat<=1329:=Pt hl hlen (W7 _);unfold bxX bxY;generalize (Bq L).toNat=v at *;obtain⟨u,rfl⟩:∃u,v=u+1:=⟨v-1,by omega⟩;rw[WQ];have e:(2:Int)^(u+1)=2^u*2:=Ya _ _;have hs:=EW (show u<=1400 by omega);have ha:=J1 u;have key:∀a:Int,0<=a->a<2^(u+1)->SB 44 (-(2^u)+a):=λa h1 h2=>by unfold SB at hs⊢;refine Xt ?_ hs;rw[e]at h2;generalize (2:Int)^u=p at *;omega
 exact⟨key _ eW.1 eW.2,key _ eN.1 eN.2⟩
theorem Vn0 (L:List Nd)(m:Int)(H:Aa)(hL:L.length<549755813888)(hl:AF L=true)(h0:-9223372036854775808<=m)(h1:m<=9223372036854775807):Udf (Dp L) (.i6 m) H=some (.ret (.tup [(Vgg L m).1,.i6 (Vgg L m).2]),H):=by
 unfold Udf Vgg;have e3:(H++[Blk.c0 (Bl L)]++[Blk.c0 DZ])[H.length]? = some (.c0 (Bl L)):=by simp
 have e5:(H++[Blk.c0 (Bl L)]++[Blk.c0 DZ])[(H++[Blk.c0 (Bl L)]).length]? = some (.c0 DZ):=An;have eo:∀i,i<H.length->(H++[Blk.c0 (Bl L)]++[Blk.c0 DZ])[i]? = H[i]? := λi hi=>by rw[WD,W8 hi]
 have l5:H.length<=(H++[Blk.c0 (Bl L)]).length:=by simp
 simp only[GMw,VmW,Nx];by_cases hm0:m<0;rw[if_pos (.inl hm0)];simp only[hm0,GMw];exact NM l5 e5 eo
 ·by_cases nW:m>1000;rw[if_pos (.inr nW)];simp only[hm0,nW,GMw];exact NM l5 e5 eo
  ·rw[if_neg (by omega)];have cJ:=λH=>Tn L m H hL hl h0 h1;simp only[hm0,nW,GMw,NH e3,cJ];cases xM:EU L m with
   |false=>simp only[GMw];exact NM l5 e5 eo
   |true=>
    have vC:=λH=>Vfb L H hL hl;simp only[GMw,NH e3,vC,B4,BE,OP];generalize hB:H++[Blk.c0 (Bl L)]++[Blk.c0 DZ]=B at e3 e5 eo;generalize xW:(H++[Blk.c0 (Bl L)]).length=p5 at e5 l5;have d35:H.length≠p5:=(by rw[<-xW];simp);have hbl:B.length=H.length+2:=(by rw[<-hB];simp);have p5e:p5=H.length+1:=(by rw[<-xW];simp);have uI:∀x y w h:Int,Ai 8 (.ptr B.length 0 0) (Rv x y w h) (B++[Blk.c0 Hm])=some (B++[Blk.c0 (IL x y w h)]):=λx y w h=>by
     simp only[Ai,Ax (An (B:=B) (cs:=Hm)),zXa,Uy,Bw (An (B:=B) (cs:=Hm)),D6 (cs:=Hm) (sz:=8) rfl,Be]
     rfl
    simp only[uI,GMw];by_cases hn:L=[];simp only[hn,ne_eq,not_true_eq_false,GMw];exact NM l5 (A1 e5) λi hi=>by rw[W8 (by omega)];exact eo i hi
    ·rw[if_neg hn];simp only[hn,ne_eq,not_false_eq_true,GMw];obtain⟨w1,w2⟩:=Vkx hl hn;obtain⟨sx,sy⟩:=Vky hl hn;have jE:bxW L<=m/\bxH L<=m:=(by simp only[EU,bx,if_neg hn,WG,zXe]at xM;exact xM);simp only[bx,if_neg hn];obtain⟨w,hw⟩:=X3 (show 0<=bxW L by omega);obtain⟨h,hh⟩:=X3 (show 0<=bxH L by omega);rw[hw]at jE w1⊢;rw[hh]at jE w2⊢;have zJ:=jE.1;have uC:=jE.2;generalize bxX L=X at *;generalize bxY L=Y at *;have g0:Ad true 2 (.ptr B.length 0 0) (B++[Blk.c0 (IL X Y w h)])=some (big X):=(by simp only[Ad,Ax (An (B:=B)),zXa];rfl);have g2:Ad true 2 (.ptr B.length 0 2) (B++[Blk.c0 (IL X Y w h)])=some (big Y):=(by simp only[Ad,Ax (An (B:=B)),zXa];rfl);have g4:Ad true 2 (.ptr B.length 0 4) (B++[Blk.c0 (IL X Y w h)])=some (big w):=(by simp only[Ad,Ax (An (B:=B)),zXa];rfl);have g6:Ad true 2 (.ptr B.length 0 6) (B++[Blk.c0 (IL X Y w h)])=some (big h):=(by simp only[Ad,Ax (An (B:=B)),zXa];rfl);have iw:∀H,Ufg (big (w:Int)) H=some (.ret (.tup [.i6 (w:Int),.bool true]),H):=λH=>(by rw[Vcb _ _ (Vdp (by omega) (by omega))];have:Ht (w:Int)=true:=(by unfold Ht;rw[zXe];omega);unfold UJ;rw[this];rfl);have ih:∀H,Ufg (big (h:Int)) H=some (.ret (.tup [.i6 (h:Int),.bool true]),H):=λH=>(by rw[Vcb _ _ (Vdp (by omega) (by omega))];have:Ht (h:Int)=true:=(by unfold Ht;rw[zXe];omega);unfold UJ;rw[this];rfl);have iP:A6 (some [(.bool false),(.sl [] .ti),(.bool false),(.sl [] .ti),(.sl [] .ti)]) [(0,2,big X),(2,2,big Y)]=some (.agg (Cr X Y (.sl [] .ti))):=(by unfold Cr;simp[A6,GF,D7,A2]);simp only[GMw,Ae,W9,g0,g2,g4,g6,iw,ih,B4,BE,iP,Nx];generalize hC:B++[Blk.c0 (IL X Y w h)]=C;have aG:C.length=H.length+3:=(by rw[<-hC];simp;omega);have nF:Ai 5 (.ptr C.length 0 0) (.agg (Cr X Y (.sl [] .ti))) (C++[Blk.c0 DZ])=some (C++[Blk.c0 (Cr X Y (.sl [] .ti))]):=by
      simp only[Ai,Ax (An (B:=C) (cs:=DZ)),zXa,Cb (Jn X Y [] .ti),Bw (An (B:=C) (cs:=DZ)),D6 (cs:=DZ) (sz:=5) rfl,Be]
      rfl
     simp only[GMw,nF,zXl];exact Vgf H L X Y w h w h H.length p5 B.length C.length hL hl (by omega) (by omega) sx sy (W7 _) l5 (by omega) (by omega) (by omega) (by omega) (by omega) _ (by rw[<-hC];exact A1 (A1 e3)) (by rw[<-hC];exact A1 (A1 e5)) (by rw[<-hC];exact A1 An) An (λi hi=>by rw[<-hC,WD,W8 (by omega)];exact eo i hi)
def IE (b n:Int):List Ab:=[.i6 b,.i6 n]
def Js (f:Int)(L:List Nd)(b:Int):Bool:=decide (f=5)||(EU L b&&(decide (f=4)||decide (Ow L<=1)))
def Iw (f:Int)(rule:zAa)(L:List Nd)(b n:Int):Int:=
 if (decide (1<=f)&&decide (f<=5)&&(Hs rule&&DO L)&&K0 b n)=false then 1 else if Js f L b=false then 5 else 0
theorem I9 {L:List Nd}(h:DO L=true):AF L=true:=by
 simp only[DO,X0,zXe,WG]at h;rcases h with h | h;subst h;rfl
 exact h.1.1.1
theorem RB (f:Int)(rule:zAa)(L:List Nd)(b n:Int)(H:Aa)(hL:L.length<549755813888)(hl:AF L=true)(h0:-9223372036854775808<=b)(h1:b<=9223372036854775807):Ufb (.i6 f) (pat rule L) (.agg (IE b n)) H=some (.ret (.bool (Js f L b)),H):=by
 unfold Ufb Js;have hbx:∀H,BC true 2 (.agg (IE b n)) H=some (.ptr H.length 0 0,H++[.c0 (IE b n)]):=λH=>Ce rfl rfl;have e4:(H++[Blk.c0 (Fb rule L)]++[Blk.c0 (IE b n)])[H.length]? = some (.c0 (Fb rule L)):=by simp
 have g6:Ad false 1 (.ptr (H++[Blk.c0 (Fb rule L)]).length 0 0) (H++[Blk.c0 (Fb rule L)]++[Blk.c0 (IE b n)])=some (.i6 b):=by simp only[Ad,Ax (An (B:=H++[Blk.c0 (Fb rule L)])),zXa];rfl
 have fin:∀q:Bool,rP H (.bool q) (H++[Blk.c0 (Fb rule L)]++[Blk.c0 (IE b n)])=some (.ret (.bool q),H):=λq=>by rw[WD];exact Ey
 have cJ:=λH=>Tn L b H hL hl h0 h1;have rB:=λH=>Vfc H (show L.length<1152921504606846976 by omega) hl;simp only[GMw,Vdg,hbx];by_cases h5:f=5;simp only[h5,GMw,fin];simp only[h5,GMw,Ae,W9,KY e4,g6,cJ];cases EU L b with|false=>simp only[GMw,fin]|true=>by_cases h4:f=4;simp only[h4,GMw,fin];simp only[h4,GMw,Ae,W9,KY e4,rB,fin]
theorem VeZ (f:Int)(rule:zAa)(L:List Nd)(b n:Int)(H:Aa)(hr:rule.length<1152921504606846976)(hL:L.length<549755813888)(h0:-9223372036854775808<=b)(h1:b<=9223372036854775807):Udc (.i6 f) (pat rule L) (.agg (IE b n)) H=some (.ret (.i6 (Iw f rule L b n)),H):=by
 unfold Udc Iw;have hbx:∀H,BC true 2 (.agg (IE b n)) H=some (.ptr H.length 0 0,H++[.c0 (IE b n)]):=λH=>Ce rfl rfl;have e4:(H++[Blk.c0 (Fb rule L)]++[Blk.c0 (IE b n)])[H.length]? = some (.c0 (Fb rule L)):=by simp
 have g6:Ad true 2 (.ptr (H++[Blk.c0 (Fb rule L)]).length 0 0) (H++[Blk.c0 (Fb rule L)]++[Blk.c0 (IE b n)])=some (.agg (IE b n)):=by simp only[Ad,Ax (An (B:=H++[Blk.c0 (Fb rule L)])),zXa];rfl
 have fin:∀q:Int,rP H (.i6 q) (H++[Blk.c0 (Fb rule L)]++[Blk.c0 (IE b n)])=some (.ret (.i6 q),H):=λq=>by rw[WD];exact It
 have tS:=λH=>Vd6 f H;have tG:=λH=>VeY rule L H hr (by omega);have dW:=λH=>Vic b n H;simp only[GMw,Vdg,hbx,tS];cases hf:(decide (1<=f)&&decide (f<=5))with
 |false=>simp only[GMw,fin]
 |true=>
  simp only[GMw,NI e4,tG];cases hq:(Hs rule&&DO L)with
  |false=>simp only[GMw,fin]
  |true=>
   have hl:AF L=true:=(by simp only[WG]at hq;exact I9 hq.2);have hex:=λH=>RB f rule L b n H hL hl h0 h1;have kA:∀H,Ubu (.agg (IE b n)) H=some (.ret (.bool (K0 b n)),H):=dW;simp only[GMw,g6,kA];cases K0 b n with
   |false=>simp only[GMw,fin]
   |true=>simp only[GMw,NI e4,g6,hex];cases Js f L b with|false=>simp only[GMw,fin];rfl|true=>simp only[GMw,fin];rfl
def D4 (s:zAa):Nat:=(s.reverse.dropWhile λb=>decide (b=0)).length
theorem O5 (s:zAa)(b:UInt8):D4 (s++[b])=if b=0 then D4 s else s.length+1:=by unfold D4;rw[List.reverse_append];by_cases h:b=0<;>simp[h,List.dropWhile_cons]
theorem SN (s:zAa):D4 s<=s.length:=by unfold D4;have:=(Zh (λb:UInt8=>decide (b=0)) (l:=s.reverse)).length_le;simpa using this
def CX (L:List Nd):List (zAa):=if L=[]then []else GC L (bxX L) (bxY L) (bxW L).toNat (bxH L).toNat
theorem VdK {L:List Nd}{b:Int}(h1:0<=b)(h2:b<=1000)(hw:EU L b=true):Vgg L b=(P6 (bx L bxX) (bx L bxY) (CX L),0):=by unfold Vgg CX bx;rw[if_neg (by omega),if_neg (by rw[hw];simp)];by_cases h0:L=[];rw[if_pos h0,if_pos h0,if_pos h0,if_pos h0];rw[if_neg h0,if_neg h0,if_neg h0,if_neg h0]
theorem V3 {L:List Nd}{b:Int}(hl:AF L=true)(h1:0<=b)(h2:b<=1000)(hw:EU L b=true):(CX L).length<=1000/\∀r∈CX L,r.length<=1000:=by unfold CX;by_cases h0:L=[];rw[if_pos h0];exact⟨by simp,λr hr=>by simp at hr⟩;rw[if_neg h0];simp only[EU,bx,if_neg h0,WG,zXe]at hw;have hp:=Vkx hl h0;refine⟨by simp[GC];omega,λr hr=>?_⟩;simp only[GC,XM]at hr;obtain⟨y,_,rfl⟩:=hr;simp[Qy];omega
theorem Vjz {f:Int}{rule:zAa}{L:List Nd}{b n:Int}(h:Iw f rule L b n=0)(hf:f≠5):AF L=true/\0<=b/\b<=1000/\EU L b=true/\Hs rule=true/\DO L=true:=by
 unfold Iw at h;split at h
 cases h
 ·rename_i h1;split at h
  cases h;rename_i h2;simp only[Bool.not_eq_false,WG,K0,Js,zXe,X0]at h1 h2;obtain⟨⟨_,h3,h4⟩,h5⟩:=h1;refine⟨I9 h4,h5.1.1.1,h5.1.1.2,?_,h3,h4⟩;rcases h2 with h2 | h2;exact absurd h2 hf;exact h2.1
theorem VkF {z:Int}{k m:Nat}(h:SB k z)(hk:10*k<=m):z.natAbs<10^m:=X1 h (Vio hk)
theorem Qt {z:Int}(h:SB 44 z):z.natAbs<10^4096/\(Ct z).length<=5000:=by have h1:z.natAbs<10^4096:=VkF (m:=4096) h (by decide);refine⟨h1,?_⟩;have:=IY 4096 z.natAbs h1;simp only[show ¬((4096:Nat)=0)by decide,if_false]at this;unfold Ct;split;simp;omega;omega
def FZ (n:Nat)(two:Bool):zAa:=
 if two&&decide (n=0)then [98]else if two&&decide (n=1)then [111]else if n=0 then [46]
 else if n<=24 then [UInt8.ofNat (64+n)]else [UInt8.ofNat (112+(n-25) / 24),UInt8.ofNat (65+(n-25)%24)]
theorem Vel {n:Nat}(h:n<256):((UInt8.ofNat n).toNat:Int)=(n:Int):=by rw[XZ (show n<256 from h)]
theorem Vj5 (a b:UInt8):AN 1 [.int .u8 (a.toNat:Int),.int .u8 (b.toNat:Int)]=some (.sl (enL cY [a,b]) .ti):=by simp[AN,Di,Ld,BN,Ab.acells,enL]
theorem Via (n:Nat)(two:Bool)(H:Aa)(hn:n<256):Ub6 (.int .u8 (n:Int)) (.bool two) H=some (.ret (.str (FZ n two)),H):=by
 unfold Ub6 FZ;have d0:decide ((n:Int)=0)=decide (n=0):=by rw[WP];simp only[zXe];omega
 have d1:decide ((n:Int)=1)=decide (n=1):=by rw[WP];simp only[zXe];omega
 have rest:((Af .none .eql (.int .u8 (n:Int)) (.int .u8 0)).bind λx9=>Ak x9 (rK H (.str [46]) H) (
   (Af .none .leq (.int .u8 (n:Int)) (.int .u8 24)).bind λx10=>Ak x10 (
   (Af .none .add (.int .u8 65) (.int .u8 (n:Int))).bind λx11=>(Af .none .sub x11 (.int .u8 1)).bind λx12=>(AN 1 [x12]).bind λx13=>(CT x13 H).bind λx14=>rK H x14 H) (
   (Af .none .sub (.int .u8 (n:Int)) (.int .u8 25)).bind λx15=>(Af .none .quo x15 (.int .u8 24)).bind λx16=>(Af .none .add (.int .u8 112) x16).bind λx17=>
   (Af .none .sub (.int .u8 (n:Int)) (.int .u8 25)).bind λx18=>(Af .none .rem x18 (.int .u8 24)).bind λx19=>(Af .none .add (.int .u8 65) x19).bind λx20=>
   (AN 1 [x17,x20]).bind λx21=>(CT x21 H).bind λx22=>rK H x22 H)))=some (.ret (.str (if n=0 then [46]else if n<=24 then [UInt8.ofNat (64+n)]else [UInt8.ofNat (112+(n-25) / 24),UInt8.ofNat (65+(n-25)%24)])),H):=by
  by_cases h0:n=0;subst h0;rfl
  have dY:¬(n:Int)=0:=(by omega);by_cases h24:n<=24;have oS:(n:Int)<=24:=(by omega);have w1:IntKind.u8.wrap (65+(n:Int))=65+(n:Int):=Gp (by omega) (by omega);have w2:IntKind.u8.wrap (65+(n:Int)-1)=((UInt8.ofNat (64+n)).toNat:Int):=(by rw[Gp (by omega) (by omega),Vel (by omega)];omega);simp only[GMw,h0,dY,h24,oS,w1,w2,Vha,Ql];have oS:¬(n:Int)<=24:=(by omega);have w1:IntKind.u8.wrap ((n:Int)-25)=((n-25:Nat):Int):=(by rw[Gp]<;>omega);have w2:IntKind.u8.wrap (((n-25:Nat):Int).tdiv 24)=(((n-25) / 24:Nat):Int):=(by rw[show(((n-25:Nat):Int).tdiv 24)=(((n-25) / 24:Nat):Int) from rfl,Gp]<;>omega);have w3:IntKind.u8.wrap (112+(((n-25) / 24:Nat):Int))=((UInt8.ofNat (112+(n-25) / 24)).toNat:Int):=(by rw[Gp (by omega) (by omega),Vel (by omega)];omega);have w4:((n-25:Nat):Int).tmod 24=(((n-25)%24:Nat):Int):=rfl;have w5:IntKind.u8.wrap (65+(((n-25)%24:Nat):Int))=((UInt8.ofNat (65+(n-25)%24)).toNat:Int):=(by rw[Gp (by omega) (by omega),Vel (by omega)];omega);simp only[GMw,h0,dY,h24,oS,w1,Qd (show(24:Int)≠0 by decide),w2,w3,IP (show(24:Int)≠0 by decide),w4,w5,Vj5,Ql]
 cases two with
 |false=>simp only[RK,O0,Vkn,LQ,Hu,Ch,BA,AL,Xw,WB,if_false];exact rest
 |true=>
  simp only[Hu,BA,Dy,Fa,d0,Cg,d1];by_cases h0:n=0;subst h0;rfl
  ·by_cases h1:n=1;subst h1;rfl
   simp only[h0,h1,decide_false,AL,YJ,WB,if_false];simp only[Hu,BA,Dy,Fa,d0,Cg,d1]at rest;simp only[h0,h1,decide_false,AL,YJ,WB,if_false]at rest;exact rest
def Ff (n:Int)(sign:zAa):zAa:=if n=1 then sign else Ct n++sign
theorem V7 (n:Int)(sign:zAa)(H:Aa)(h0:-1000000000<=n)(h1:n<=1000000000)(hs:sign.length<=1000):UaH (.i6 n) (.str sign) H=some (.ret (.str (Ff n sign)),H):=by
 unfold UaH Ff;have gV:=λH=>OA n H (by omega) (by omega);have uN:SB 44 n:=by unfold SB;have:(4294967296:Nat)^1<=4294967296^44:=Gd (by omega);omega
 obtain⟨d1,d2⟩:=Qt uN;have zR:=λH=>MB n H d1;by_cases hn:n=1;simp only[hn,GMw];simp only[hn,GMw,gV,zR];rw[Dk (by omega)];simp only[GMw]
theorem Vk6 (b:UInt8):decide ((b.toNat:Int)=0)=decide (b=0):=by rw[WP];simp only[zXe];constructor;intro h;exact XL.1 (by simpa using h);intro h;rw[h];rfl
theorem VhZ (s:zAa)(H:Aa)(hs:s.length<70368744177664):Udl (.str s) H=some (.ret (.i6 (D4 s:Int)),H):=by
 unfold Udl;refine Cx (G:=λrec1 vs H1=>Udk H rec1 (ag vs 0) (ag vs 1) (ag vs 2) H1) s.length (λi=>[.str s,.i6 (D4 (s.take i):Int),.i6 (i:Int)]) (λ_=>H) _ (by omega) (λrec i hi=>?_) (λrec=>?_)
 ·have aE:(i:Int)<(s.length:Int):=by omega
  have aK:=Au (show i<9223372036854775807 by omega);have iI:(s.take i).length=i:=by simp;omega
  have zQ:D4 (s.take (i+1))=if s[i]=0 then D4 (s.take i)else i+1:=by rw[WF hi,O5,iI]
  rw[zQ];unfold Udk;simp only[GMw,Ec,aE,DC hi,Vk6,Aj];by_cases h0:s[i]=0;simp only[h0,GMw,Aj,Uep,aK];simp only[h0,GMw,Aj,Uep,aK]
 unfold Udk;rw[WH (W7 _)];simp only[GMw,Ec,Xm]
def OW (rows:List (zAa)):Bool:=(List.range rows.length).all λy=>(List.range (rows.getD y []).length).all λx=>decide (((rows.getD y []).getD x 0).toNat<=1)
theorem VkV (X Y:Int)(rows:List (zAa))(tk:Tok)(H:Aa)(hn:rows.length<70368744177664)(h:∀r∈rows,r.length<70368744177664):Udj (.agg (Cr X Y (.sl (enL cS rows) tk))) H=some (.ret (.bool (OW rows)),H):=by
 unfold Udj;have hbx:BC true 5 (.agg (Cr X Y (.sl (enL cS rows) tk))) H=some (.ptr H.length 0 0,H++[.c0 (Cr X Y (.sl (enL cS rows) tk))]):=Ce (Jn _ _ _ _) rfl;have hld:Ad false 1 (.ptr H.length 0 4) (H++[Blk.c0 (Cr X Y (.sl (enL cS rows) tk))])=some (.sl (enL cS rows) tk):=by simp only[Ad,Ax An,zXa];rfl
 simp only[hbx,GMw];have key:=Eh (G:=λrec1 vs H1=>Udi H rec1 (ag vs 0) (ag vs 1) H1) rows.length (λy=>(List.range (rows.getD y []).length).all λx=>decide (((rows.getD y []).getD x 0).toNat<=1)) (λy=>[.ptr H.length 0 0,.i6 (y:Int)]) (H++[.c0 (Cr X Y (.sl (enL cS rows) tk))])
  (some (.ret (.bool true),H)) (some (.ret (.bool false),H)) (by omega) (λrec y hy=>?_) (λrec=>?_)
 refine key.trans ?_;unfold OW;cases(List.range rows.length).all λy=>(List.range (rows.getD y []).length).all λx=>decide (((rows.getD y []).getD x 0).toNat<=1)<;>rfl
 ·have kR:(y:Int)<(rows.length:Int):=by omega
  have aK:=Au (show y<9223372036854775807 by omega);have hrow:rows.getD y []=rows[y]:=by rw[W6,W4 hy];rfl
  have kU:=h rows[y] (WI hy);rw[hrow];unfold Udi;simp only[GMw,Ae,W9,hld,Aw,kR];refine Eh (G:=λaA vs H1=>Udh H rec aA (ag vs 0) (ag vs 1) (ag vs 2) H1) rows[y].length (λx=>decide ((rows[y].getD x 0).toNat<=1)) (λx=>[.ptr H.length 0 0,.i6 (y:Int),.i6 (x:Int)]) (H++[.c0 (Cr X Y (.sl (enL cS rows) tk))]) _ _ (by omega) (λaA x hx=>?_) (λaA=>?_);have hx':(x:Int)<(rows[y].length:Int):=(by omega);have zH:=Au (show x<9223372036854775807 by omega);have hd:decide ((rows[y][x].toNat:Int)>1) = !decide ((rows[y].getD x 0).toNat<=1):=(by rw[W6,W4 hx,WP];simp;omega);unfold Udh;simp only[GMw,Aj,Ae,W9,hld,Ay hy,A5,zXh,Ec,hx',DC hx,hd,Ey,zH];cases decide ((rows[y].getD x 0).toNat<=1)<;>simp only[GMw]
  unfold Udh;simp only[GMw,Aj,Ae,W9,hld,Ay hy,A5,zXh,Ec,Xm,aK]
 unfold Udi;simp only[GMw,Ae,W9,hld,Aw,Xm,Ey]
def DL (p:zAa×zAa)(t:zAa):zAa×zAa:=
 if p.2.length+t.length>70 then (p.1++p.2++[10],t)else (p.1,p.2++t)
def CK (l:List (zAa)):zAa×zAa:=l.foldl DL ([],[])
def On (l:List (zAa)):zAa:=(CK l).1++(CK l).2++[10]
theorem OU (l:List (zAa)){i:Nat}(hi:i<l.length):CK (l.take (i+1))=DL (CK (l.take i)) l[i]:=by unfold CK;rw[WF hi,Yd];rfl
theorem J8 (l:List (zAa))(h:∀t∈l,t.length<=10000):∀i,i<=l.length->(CK (l.take i)).1.length+(CK (l.take i)).2.length<=i*10001
 |0,_=>by simp[CK]
 |i+1,hi=>by have ih:=J8 l h i (by omega);have h2:=h l[i] (WI hi);rw[OU l hi];unfold DL;split;simp only[WC,zXi];omega;simp only[WC];omega
theorem VhY (l:List (zAa))(tk:Tok)(H:Aa)(hn:l.length<1099511627776)(h:∀t∈l,t.length<=10000):Udp (.sl (enL cS l) tk) H=some (.ret (.str (On l)),H):=by
 unfold Udp;refine Cx (G:=λrec1 vs H1=>Udo H rec1 (ag vs 0) (ag vs 1) (ag vs 2) (ag vs 3) H1) l.length (λi=>[.sl (enL cS l) tk,.str (CK (l.take i)).1,.str (CK (l.take i)).2,.i6 (i:Int)]) (λ_=>H) _ (by omega) (λrec i hi=>?_) (λrec=>?_)
 ·have aE:(i:Int)<(l.length:Int):=by omega
  have aK:=Au (show i<9223372036854775807 by omega);have hb:=J8 l h i (by omega);have h2:=h l[i] (WI hi);rw[OU l hi];generalize CK (l.take i)=p at hb;obtain⟨s,line⟩:=p;dsimp only at hb⊢;have hw:IntKind.i64.wrap ((line.length:Int)+(l[i].length:Int))=((line.length+l[i].length:Nat):Int):=by rw[Am]<;>omega
  unfold Udo DL;simp only[GMw,Aw,aE,Ec,Ay hi,A5,zXh,hw,Aj];by_cases hg:line.length+l[i].length>70;have hg':(((line.length+l[i].length:Nat):Int)>70):=(by omega);rw[if_pos hg];simp only[hg',GMw];rw[Dk (by omega)];simp only[GMw];rw[Dk (by simp only[WC,zXi];omega)];simp only[GMw,Aj,Uer,Ay hi,A5,zXh];rw[Dk (by simp;omega)];simp only[GMw,aK,List.nil_append];have hg':¬(((line.length+l[i].length:Nat):Int)>70):=(by omega);rw[if_neg hg];simp only[hg',GMw,Aj,Uer,Ay hi,A5,zXh];rw[Dk (by omega)];simp only[GMw,aK]
 have hb:=J8 l h l.length (W7 _);unfold Udo On;rw[WH (W7 _)]at *;simp only[GMw,Aw,Xm];rw[Dk (by omega)];simp only[GMw];rw[Dk (by simp only[WC,zXi];omega)];simp only[GMw]
theorem MM {ι:Type}{G:ι->LK->LK}{σ:Type}(I:σ->List Ab->Aa->Prop)(μ:σ->Nat)(done:σ->Prop)
  (turn:∀(s:σ)(vs:List Ab)(H:Aa),I s vs H->¬done s->∃s' vs' H',μ s'<μ s/\I s' vs' H'/\∀(i:ι)(rec:LK),G i rec vs H=rec vs' H')
  {s:σ}{vs:List Ab}{H:Aa}(h0:I s vs H)(hm:μ s<1152921504606846976):∃s' vs' H',done s'/\I s' vs' H'/\∀i,∃rec,Al (G i) AU vs H=G i rec vs' H':=by
 have key:∀(n:Nat)(s:σ)(vs:List Ab)(H:Aa),μ s<n->I s vs H->∃s' vs' H',done s'/\I s' vs' H'/\∀i,∃rec,Al (G i) n vs H=G i rec vs' H':=by
  intro n
  induction n with
  |zero=>intro s vs H hn _;omega
  |succ n ih=>intro s vs H hn hI;by_cases hd:done s;exact⟨s,vs,H,hd,hI,λi=>⟨Al (G i) n,Cp n vs H⟩⟩;obtain⟨s1,vs1,H1,h1,h2,h3⟩:=turn s vs H hI hd;obtain⟨s2,vs2,H2,h4,h5,h6⟩:=ih s1 vs1 H1 (by omega) h2;exact⟨s2,vs2,H2,h4,h5,λi=>(h6 i).imp λrec h7=>by rw[Cp,h3,h7]⟩
 exact key AU s vs H (by rw[Dj];exact hm) h0
theorem E8 {G:LK->LK}{σ:Type}(I:σ->List Ab->Aa->Prop)(μ:σ->Nat)(done:σ->Prop)
  (turn:∀(s:σ)(vs:List Ab)(H:Aa),I s vs H->¬done s->∃s' vs' H',μ s'<μ s/\I s' vs' H'/\∀rec:LK,G rec vs H=rec vs' H')
  {s:σ}{vs:List Ab}{H:Aa}(h0:I s vs H)(hm:μ s<1152921504606846976):∃s' vs' H',done s'/\I s' vs' H'/\∃rec,Al G AU vs H=G rec vs' H':=by
 obtain⟨s',vs',H',h1,h2,h3⟩:=MM (G:=λ(_:Unit)=>G) I μ done (λs vs H hI hd=>by obtain⟨s1,vs1,H1,h1,h2,h3⟩:=turn s vs H hI hd;exact⟨s1,vs1,H1,h1,h2,λ_=>h3⟩) h0 hm;exact⟨s',vs',H',h1,h2,h3 ()⟩
theorem Va3 {b c:UInt8}{l:zAa}:(c::l).takeWhile (· == b)=if c=b then c::l.takeWhile (· == b)else []:=by rw[Yg];by_cases h:c=b;simp[h];simp[h]
theorem VlY {b c:UInt8}{l:zAa}:(c::l).dropWhile (· == b)=if c=b then l.dropWhile (· == b)else c::l:=by rw[List.dropWhile_cons];by_cases h:c=b;simp[h];simp[h]
theorem Vnf {b:UInt8}:∀ {l:zAa} {i:Nat},i<(l.takeWhile (· == b)).length->l[i]? = some b
 |[],i,h=>by simp at h
 |c::l,i,h=>by
  rw[Va3]at h;by_cases hc:c=b;rw[if_pos hc]at h;cases i with|zero=>simp[hc]|succ i=>simp only[zXj]at h;rw[List.getElem?_cons_succ];exact Vnf (by omega)
  rw[if_neg hc]at h;simp at h
theorem VjH {b:UInt8}:∀(l:zAa),l[(l.takeWhile (· == b)).length]? ≠ some b
 |[]=>by simp
 |c::l=>by rw[Va3];by_cases hc:c=b;rw[if_pos hc,zXj,List.getElem?_cons_succ];exact VjH l;rw[if_neg hc];intro h;simp at h;exact hc h
theorem Vk8 {b:UInt8}(l:zAa):(l.takeWhile (· == b)).length<=l.length:=(Yh _).length_le
theorem Vg6 {b:UInt8}:∀(l:zAa),l.dropWhile (· == b)=l.drop (l.takeWhile (· == b)).length
 |[]=>rfl
 |c::l=>by rw[Va3,VlY];by_cases hc:c=b;rw[if_pos hc,if_pos hc,zXj,Y7];exact Vg6 l;rw[if_neg hc,if_neg hc];rfl
theorem Kp.get {b p:Nat}{H H':Aa}{cs:List Ab}(h:Kp b H H')(hp:H[p]? = some (.c0 cs)):H'[p]? = some (.c0 cs):=h.cel p cs hp
section
variable {p g:Nat}{f:Ab}{self:Ab->Ab->Ab->Ab->Ab->Aa->Out}
theorem P5 {i j:Nat}(hi:i<1000000000)(hj:j<1000000000):AG .u64 (.i6 ((i:Int)+(j:Int)))=some (.int .u64 ((i+j:Nat):Int))/\IntKind.i64.wrap ((i:Int)+(j:Int))=(i:Int)+(j:Int) /\
  Af .none .shr (.int .u64 ((i+j:Nat):Int)) (.int .u64 1)=some (.int .u64 (((i+j) / 2:Nat):Int))/\AG .i64 (.int .u64 (((i+j) / 2:Nat):Int))=some (.i6 (((i+j) / 2:Nat):Int)):=by
 refine⟨?_,by rw[Am]<;>omega,?_,?_⟩
 ·rw[Bx];have:IntKind.u64.wrap ((i:Int)+(j:Int))=((i+j:Nat):Int):=by rw[show(i:Int)+(j:Int)=((i+j:Nat):Int)by omega];exact Cz (by omega) (by omega)
  rw[this]
 ·have hs:Af .none .shr (.int .u64 ((i+j:Nat):Int)) (.int .u64 1)=some (.int .u64 (Int.fdiv ((i+j:Nat):Int) (2^(min (1:Int).toNat IntKind.u64.bits)))):=rfl;rw[hs,show(2:Int)^(min (1:Int).toNat IntKind.u64.bits)=2 from by decide,Y4 _ (by omega)]
  congr 2
 rw[Bx,OT (by omega)]
theorem Vng {l:List Cl}{i a:Nat}{H0 H:Aa}(h:Ds H p g l)(hi:i<=l.length)(ha:a<i)(hl:l.length<1000000000):Al (λaA vs H1=>Ua3 H0 aA (ag vs 0) (ag vs 1) (ag vs 2) H1) AU [dV p g l.length,.i6 (i:Int),.i6 (a:Int)] H=some (.ret (.tup []),BR H p g (upR a (i-1-a) l)):=by
 have hlen:∀k,(upR a k l).length=l.length:=λk=>by
  induction k with
  |zero=>rfl
  |succ k ih=>unfold upR;rw[N5,ih]
 have key:=Cx (G:=λaA vs H1=>Ua3 H0 aA (ag vs 0) (ag vs 1) (ag vs 2) H1) (i-1-a)
  (λk=>[dV p g l.length,.i6 (i:Int),.i6 ((a+k:Nat):Int)]) (λk=>BR H p g (upR a k l)) (some (.ret (.tup []),BR H p g (upR a (i-1-a) l))) (by omega) (λrec k hk=>?_) (λrec=>?_)
 rw[show upR a 0 l=l from rfl,CS h]at key;exact key
 ·unfold Ua3;have hr:Ds (BR H p g (upR a k l)) p g (upR a k l):=Dw h;have bG:=hlen k;have hw:IntKind.i64.wrap ((i:Int)-1)=((i-1:Nat):Int):=by rw[Am]<;>omega
  have hd:decide (((a+k:Nat):Int)<((i-1:Nat):Int))=true:=zXc (by omega);have gB:=Au (show a+k<9223372036854775807 by omega);have i1:a+k<(upR a k l).length:=by omega
  have i2:a+k+1<(upR a k l).length:=by omega
  obtain⟨s1,s2⟩:=Td hr i1 i2;rw[BD]at s1 s2;rw[BD]at s2;simp only[Ao,Aj,Bf,Bj,GMw,hw,hd,gB,Cc (show a+k<l.length by omega),Cc (show a+k+1<l.length by omega),CH hr i1,CH hr i2,B3,s1,s2,BF,AM]
  rfl
 ·unfold Ua3;have hw:IntKind.i64.wrap ((i:Int)-1)=((i-1:Nat):Int):=by rw[Am]<;>omega
  have hd:decide (((a+(i-1-a):Nat):Int)<((i-1:Nat):Int))=false:=zXd (by omega);simp only[Ao,Aj,Bf,Bj,GMw,hw,hd]
theorem Vnm {l:List Cl}{i m:Nat}{H0 H:Aa}(h:Ds H p g l)(hi:i<=m)(hm:m<l.length)(hl:l.length<1000000000):Al (λbI vs H1=>Ua5 H0 bI (ag vs 0) (ag vs 1) (ag vs 2) H1) AU [dV p g l.length,.i6 (i:Int),.i6 (m:Int)] H=some (.ret (.tup []),BR H p g (dnR m (m-i) l)):=by
 have hlen:∀k,(dnR m k l).length=l.length:=λk=>by
  induction k with
  |zero=>rfl
  |succ k ih=>unfold dnR;rw[N5,ih]
 have key:=Cx (G:=λbI vs H1=>Ua5 H0 bI (ag vs 0) (ag vs 1) (ag vs 2) H1) (m-i)
  (λk=>[dV p g l.length,.i6 (i:Int),.i6 ((m:Int)-(k:Int))]) (λk=>BR H p g (dnR m k l)) (some (.ret (.tup []),BR H p g (dnR m (m-i) l))) (by omega) (λrec k hk=>?_) (λrec=>?_)
 rw[show dnR m 0 l=l from rfl,CS h,show(m:Int)-((0:Nat):Int)=(m:Int)by omega]at key;exact key
 ·unfold Ua5;have hr:Ds (BR H p g (dnR m k l)) p g (dnR m k l):=Dw h;have bG:=hlen k;have e:(m:Int)-(k:Int)=((m-k:Nat):Int):=by omega
  have e2:(m:Int)-((k+1:Nat):Int)=((m-k-1:Nat):Int):=by omega
  have hd:decide (((m-k:Nat):Int)>(i:Int))=true:=zXc (by omega);have gB:IntKind.i64.wrap (((m-k:Nat):Int)-1)=((m-k-1:Nat):Int):=by rw[Am]<;>omega
  have i1:m-k<(dnR m k l).length:=by omega
  have i2:m-k-1<(dnR m k l).length:=by omega
  obtain⟨s1,s2⟩:=Td hr i1 i2;rw[BD]at s1 s2;rw[BD]at s2;simp only[Ao,Aj,Bf,Bj,GMw,e,e2,hd,gB,Cc (show m-k<l.length by omega),Cc (show m-k-1<l.length by omega),CH hr i1,CH hr i2,B3,s1,s2,BF,AM]
  rfl
 ·unfold Ua5;have e:(m:Int)-((m-i:Nat):Int)=(i:Int):=by omega
  have hd:decide ((i:Int)>(i:Int))=false:=zXd (by omega);simp only[Ao,Aj,Bf,Bj,GMw,e,hd]

end
section
variable {p g:Nat}{f:Ab}{self:Ab->Ab->Ab->Ab->Ab->Aa->Out}{l0:List Cl}
abbrev Vc (f:Ab)(l0:List Cl):Prop:=∀self,UB (Bk self) f l0
theorem Vnj (hf:Vc f l0){l:List Cl}{a m b:Nat}{H0 H:Aa}(h:Ds H p g l)(hm:∀c∈l,c∈l0)(ha:a<l.length)(vL:m<=b)(hb:b<=l.length)(hl:l.length<1000000000)
  (mono:∀c d,m<=c->c<=d->d<b->Ji ltC l d a=true->Ji ltC l c a=true):∃s,BsI (λc=>Ji ltC l c a) m b s s/\Al (λrec1 vs H1=>Ua4 H0 self rec1 (ag vs 0) (ag vs 1) (ag vs 2) (ag vs 3) (ag vs 4) H1) AU [dV p g l.length,.i6 (a:Int),f,.i6 (m:Int),.i6 (b:Int)] H =
   Al (λaA vs H1=>Ua3 H0 aA (ag vs 0) (ag vs 1) (ag vs 2) H1) AU [dV p g l.length,.i6 (s:Int),.i6 (a:Int)] H:=by
 have key:=E8 (G:=λrec1 vs H1=>Ua4 H0 self rec1 (ag vs 0) (ag vs 1) (ag vs 2) (ag vs 3) (ag vs 4) H1) (σ:=Nat×Nat)
  (λs vs H1=>BsI (λc=>Ji ltC l c a) m b s.1 s.2/\vs=[dV p g l.length,.i6 (a:Int),f,.i6 (s.1:Int),.i6 (s.2:Int)]/\H1=H) (λs=>s.2-s.1) (λs=>¬s.1<s.2) (λs vs H1 hI hd=>?_)
  (s:=(m,b)) (vs:=[dV p g l.length,.i6 (a:Int),f,.i6 (m:Int),.i6 (b:Int)]) (H:=H) ⟨.start vL,rfl,rfl⟩ (by dsimp only;omega)
 ·obtain⟨⟨i,j⟩,vs,H1,hd,⟨hI,rfl,rfl⟩,rec,aB⟩:=key;dsimp only at hI hd aB;obtain⟨q1,q2,q3⟩:=hI.le;have e:j=i:=by omega
  subst e;refine⟨j,hI,?_⟩;rw[aB];have cF:decide ((j:Int)<(j:Int))=false:=zXd (by omega)
  conv=>lhs;unfold Ua4
  simp only[Ao,Aj,Bf,Bj,B6,BQ,GMw,cF]
 ·obtain⟨i,j⟩:=s;obtain⟨hI,rfl,rfl⟩:=hI;dsimp only at hI hd⊢;obtain⟨q1,q2,q3⟩:=hI.le;have hij:i<j:=by omega
  obtain⟨k,hk⟩:∃k,k=(i+j) / 2:=⟨_,rfl⟩;obtain⟨w1,w2,w3,w4⟩:=P5 (i:=i) (j:=j) (by omega) (by omega);rw[<-hk]at w3 w4;have cZ:k<l.length:=by omega
  have c1:=hf self l[k] (hm _ (WI cZ)) l[a] (hm _ (WI ha));have cF:decide ((i:Int)<(j:Int))=true:=zXc (by omega);have gB:=Au (show k<9223372036854775807 by omega);have hlt:Ji ltC l k a=ltC l[k] l[a]:=S1 cZ ha;cases hc:ltC l[k] l[a]with|true=>refine⟨(k+1,j),_,_,by dsimp only;omega,⟨hI.yes mono (by omega) (by omega) (by rw[hlt,hc]),rfl,rfl⟩,λrec=>?_⟩;unfold Ua4;simp only[Ao,Aj,Bf,Bj,B6,BQ,GMw,cF,w1,w2,w3,w4,Cc cZ,Cc ha,CH h cZ,CH h ha,B3,c1,BF,Lk,hc,gB]|false=>refine⟨(i,k),_,_,by dsimp only;omega,⟨hI.no mono (by omega) (by omega) (by rw[hlt,hc]),rfl,rfl⟩,λrec=>?_⟩;unfold Ua4;simp only[Ao,Aj,Bf,Bj,B6,BQ,GMw,cF,w1,w2,w3,w4,Cc cZ,Cc ha,CH h cZ,CH h ha,B3,c1,BF,Lk,hc]
theorem Vni (hf:Vc f l0){l:List Cl}{a m:Nat}{H0 H:Aa}(h:Ds H p g l)(hm:∀c∈l,c∈l0)(ham:a<=m)(hml:m<l.length)(hl:l.length<1000000000)
  (mono:∀c d,a<=c->c<=d->d<m->(!Ji ltC l m d)=true->(!Ji ltC l m c)=true):∃s,BsI (λc=>!Ji ltC l m c) a m s s/\Al (λdG vs H1=>Ua6 H0 self dG (ag vs 0) (ag vs 1) (ag vs 2) (ag vs 3) (ag vs 4) H1) AU [dV p g l.length,.i6 (m:Int),f,.i6 (a:Int),.i6 (m:Int)] H =
   Al (λbI vs H1=>Ua5 H0 bI (ag vs 0) (ag vs 1) (ag vs 2) H1) AU [dV p g l.length,.i6 (s:Int),.i6 (m:Int)] H:=by
 have key:=E8 (G:=λdG vs H1=>Ua6 H0 self dG (ag vs 0) (ag vs 1) (ag vs 2) (ag vs 3) (ag vs 4) H1) (σ:=Nat×Nat)
  (λs vs H1=>BsI (λc=>!Ji ltC l m c) a m s.1 s.2/\vs=[dV p g l.length,.i6 (m:Int),f,.i6 (s.1:Int),.i6 (s.2:Int)]/\H1=H) (λs=>s.2-s.1) (λs=>¬s.1<s.2) (λs vs H1 hI hd=>?_)
  (s:=(a,m)) (vs:=[dV p g l.length,.i6 (m:Int),f,.i6 (a:Int),.i6 (m:Int)]) (H:=H) ⟨.start ham,rfl,rfl⟩ (by dsimp only;omega)
 ·obtain⟨⟨i,j⟩,vs,H1,hd,⟨hI,rfl,rfl⟩,rec,aB⟩:=key;dsimp only at hI hd aB;obtain⟨q1,q2,q3⟩:=hI.le;have e:j=i:=by omega
  subst e;refine⟨j,hI,?_⟩;rw[aB];have cF:decide ((j:Int)<(j:Int))=false:=zXd (by omega)
  conv=>lhs;unfold Ua6
  simp only[Ao,Aj,Bf,Bj,B6,BQ,GMw,cF]
 ·obtain⟨i,j⟩:=s;obtain⟨hI,rfl,rfl⟩:=hI;dsimp only at hI hd⊢;obtain⟨q1,q2,q3⟩:=hI.le;have hij:i<j:=by omega
  obtain⟨k,hk⟩:∃k,k=(i+j) / 2:=⟨_,rfl⟩;obtain⟨w1,w2,w3,w4⟩:=P5 (i:=i) (j:=j) (by omega) (by omega);rw[<-hk]at w3 w4;have cZ:k<l.length:=by omega
  have c1:=hf self l[m] (hm _ (WI hml)) l[k] (hm _ (WI cZ));have cF:decide ((i:Int)<(j:Int))=true:=zXc (by omega);have gB:=Au (show k<9223372036854775807 by omega);have hlt:Ji ltC l m k=ltC l[m] l[k]:=S1 hml cZ;cases hc:ltC l[m] l[k]with|false=>refine⟨(k+1,j),_,_,by dsimp only;omega,⟨hI.yes mono (by omega) (by omega) (by rw[hlt,hc];rfl),rfl,rfl⟩,λrec=>?_⟩;unfold Ua6;simp only[Ao,Aj,Bf,Bj,B6,BQ,GMw,cF,w1,w2,w3,w4,Cc cZ,Cc hml,CH h cZ,CH h hml,B3,c1,BF,Lk,hc,gB]|true=>refine⟨(i,k),_,_,by dsimp only;omega,⟨hI.no mono (by omega) (by omega) (by rw[hlt,hc];rfl),rfl,rfl⟩,λrec=>?_⟩;unfold Ua6;simp only[Ao,Aj,Bf,Bj,B6,BQ,GMw,cF,w1,w2,w3,w4,Cc cZ,Cc hml,CH h cZ,CH h hml,B3,c1,BF,Lk,hc]
def Vho (p g:Nat)(f:Ab)(l0:List Cl)(self:Ab->Ab->Ab->Ab->Ab->Aa->Out)(n:Nat):Prop:=
 ∀(A U V B:List Cl)(H:Aa),U.length+V.length=n->Ds H p g (A++(U++(V++B)))->0<U.length->0<V.length->EI ltC U->EI ltC V->(∀c∈A++(U++(V++B)),c∈l0)->(A++(U++(V++B))).length<1000000000 ->
  ∃W,Srt ltC (U++V) W/\self (dV p g (A++(U++(V++B))).length) (.i6 (A.length:Int)) (.i6 ((A.length+U.length:Nat):Int)) (.i6 ((A.length+U.length+V.length:Nat):Int)) f H=some (.ret (.tup []),BR H p g (A++(W++B)))
theorem Su {U V:List Cl}(hU:EI ltC U)(hV:EI ltC V)(h:U=[]\/V=[]):Srt ltC (U++V) (U++V):=by refine⟨?_,.refl _,rfl⟩;rcases h with rfl | rfl;exact hV;rw[WU];exact hU
theorem Vnk {H0 H:Aa}{A U V B:List Cl}{n:Nat}(hs:∀n',n'<n->Vho p g f l0 self n')(hn:U.length+V.length<n)(h:Ds H p g (A++(U++(V++B))))(hU:EI ltC U)(hV:EI ltC V)(hm:∀c∈A++(U++(V++B)),c∈l0)(hl:(A++(U++(V++B))).length<1000000000):∃W,Srt ltC (U++V) W/\Ucm H0 self (dV p g (A++(U++(V++B))).length) (.i6 ((A.length+U.length+V.length:Nat):Int)) f (.i6 (A.length:Int)) (.i6 ((A.length+U.length:Nat):Int)) H=some (.ret (.tup []),BR H p g (A++(W++B))):=by
 unfold Ucm;by_cases h1:0<U.length;have d1:decide ((A.length:Int)<((A.length+U.length:Nat):Int))=true:=zXc (by omega);by_cases h2:0<V.length;have d2:decide (((A.length+U.length:Nat):Int)<((A.length+U.length+V.length:Nat):Int))=true:=zXc (by omega);obtain⟨W,w1,w2⟩:=hs _ hn A U V B H rfl h h1 h2 hU hV hm hl;refine⟨W,w1,?_⟩;simp only[GMw,d1,d2,w2];have d2:decide (((A.length+U.length:Nat):Int)<((A.length+U.length+V.length:Nat):Int))=false:=zXd (by omega);have hv:V=[]:=WM (by omega);refine⟨U++V,Su hU hV (.inr hv),?_⟩;simp only[GMw,d1,d2];rw[WD,CS h];have d1:decide ((A.length:Int)<((A.length+U.length:Nat):Int))=false:=zXd (by omega);have hu:U=[]:=WM (by omega);refine⟨U++V,Su hU hV (.inl hu),?_⟩;simp only[GMw,d1];rw[WD,CS h]
theorem Vnl {H0 H:Aa}{A U V U2 V2 B:List Cl}{n:Nat}(hs:∀n',n'<n->Vho p g f l0 self n')(hn:U.length+V.length<n)(hn2:U2.length+V2.length<n)(h:Ds H p g (A++(U++(V++(U2++(V2++B))))))(hU:EI ltC U)(hV:EI ltC V)(hU2:EI ltC U2)(hV2:EI ltC V2)
  (hm:∀c∈A++(U++(V++(U2++(V2++B)))),c∈l0)(hl:(A++(U++(V++(U2++(V2++B))))).length<1000000000):∃W W2,Srt ltC (U++V) W/\Srt ltC (U2++V2) W2/\Ucn H0 self (dV p g (A++(U++(V++(U2++(V2++B))))).length) (.i6 (A.length:Int)) (.i6 ((A.length+U.length+V.length+U2.length+V2.length:Nat):Int)) f (.i6 ((A.length+U.length+V.length:Nat):Int)) (.i6 ((A.length+U.length:Nat):Int)) (.i6 ((A.length+U.length+V.length+U2.length:Nat):Int)) H =
   some (.ret (.tup []),BR H p g (A++(W++(W2++B)))):=by
 have second:∀(W:List Cl)(G:Aa),Srt ltC (U++V) W->G=BR H p g (A++(W++(U2++(V2++B))))->∃W2,Srt ltC (U2++V2) W2/\Ucm H0 self (dV p g (A++(U++(V++(U2++(V2++B))))).length) (.i6 ((A.length+U.length+V.length+U2.length+V2.length:Nat):Int)) f (.i6 ((A.length+U.length+V.length:Nat):Int)) (.i6 ((A.length+U.length+V.length+U2.length:Nat):Int)) G =
   some (.ret (.tup []),BR H p g (A++(W++(W2++B)))):=λW G hW hG=>by
  have hWl:=hW.len;rw[WC]at hWl;have e1:A++(W++(U2++(V2++B)))=(A++W)++(U2++(V2++B)):=by rw[WD]
  have hlen:((A++W)++(U2++(V2++B))).length=(A++(U++(V++(U2++(V2++B))))).length:=by simp only[WC];omega
  have hAW:(A++W).length=A.length+U.length+V.length:=by rw[WC];omega
  have hr:Ds G p g ((A++W)++(U2++(V2++B))):=by rw[hG,e1];exact Dw h
  obtain⟨W2,w1,w2⟩:=Vnk (H0:=H0) hs hn2 hr hU2 hV2 (λc hc=>hm c (by
   rw[<-e1]at hc;simp only[WT]at hc⊢;rcases hc with hc | hc | hc | hc | hc;exact .inl hc;have:=(hW.st.mem JT).2 hc;rcases WT.1 this with q | q;exact .inr (.inl q);exact .inr (.inr (.inl q));exact .inr (.inr (.inr (.inl hc)));exact .inr (.inr (.inr (.inr (.inl hc))))
   ·exact .inr (.inr (.inr (.inr (.inr hc)))))) (by rw[hlen];exact hl)
  refine⟨W2,w1,?_⟩;rw[hlen,hAW]at w2;rw[w2,hG,BD,WD]
 have d:∀t:Bool,True:=λ_=>trivial;unfold Ucn;by_cases h1:0<U.length;have d1:decide ((A.length:Int)<((A.length+U.length:Nat):Int))=true:=zXc (by omega);by_cases h2:0<V.length;have d2:decide (((A.length+U.length:Nat):Int)<((A.length+U.length+V.length:Nat):Int))=true:=zXc (by omega);obtain⟨W,w1,w2⟩:=hs _ hn A U V (U2++(V2++B)) H rfl h h1 h2 hU hV hm hl;obtain⟨W2,w3,w4⟩:=second W _ w1 rfl;refine⟨W,W2,w1,w3,?_⟩;simp only[Ao,Aj,Bf,Bj,B6,BQ,GMw,d1,d2,w2];exact w4;have d2:decide (((A.length+U.length:Nat):Int)<((A.length+U.length+V.length:Nat):Int))=false:=zXd (by omega);have hv:V=[]:=WM (by omega);have w1:=Su hU hV (.inr hv);obtain⟨W2,w3,w4⟩:=second (U++V) H w1 (by rw[WD,CS h]);refine⟨_,W2,w1,w3,?_⟩;simp only[Ao,Aj,Bf,Bj,B6,BQ,GMw,d1,d2];exact w4;have d1:decide ((A.length:Int)<((A.length+U.length:Nat):Int))=false:=zXd (by omega);have hu:U=[]:=WM (by omega);have w1:=Su hU hV (.inl hu);obtain⟨W2,w3,w4⟩:=second (U++V) H w1 (by rw[WD,CS h]);refine⟨_,W2,w1,w3,?_⟩;simp only[Ao,Aj,Bf,Bj,B6,BQ,GMw,d1];exact w4

end
section
variable {p g:Nat}{f:Ab}{l0:List Cl}{A B:List Cl}
theorem Vnh {self:Ab->Ab->Ab->Ab->Ab->Aa->Out}(hf:Vc f l0){l:List Cl}{a m b mid n s0 r0 P:Nat}{H0 H:Aa}(h:Ds H p g l)(hm:∀c∈l,c∈l0)(uK:s0<=r0)(hr:r0<=l.length)(hP:∀c,s0<=c->c<r0->P-c<l.length/\c<=P)(hPl:P<2000000000)(hl:l.length<1000000000)
  (mono:∀c d,s0<=c->c<=d->d<r0->SR ltC l P d=true->SR ltC l P c=true):∃s,BsI (SR ltC l P) s0 r0 s s/\∃rec,Al (λnB vs H1=>UeS H0 self nB (ag vs 0) (ag vs 1) (ag vs 2) (ag vs 3) (ag vs 4) (ag vs 5) (ag vs 6) (ag vs 7) (ag vs 8) (ag vs 9) H1) AU
    [dV p g l.length,.i6 (a:Int),.i6 (m:Int),.i6 (b:Int),f,.i6 (mid:Int),.i6 (n:Int),.i6 (s0:Int),.i6 (r0:Int),.i6 (P:Int)] H =
   UeS H0 self rec (dV p g l.length) (.i6 (a:Int)) (.i6 (m:Int)) (.i6 (b:Int)) f (.i6 (mid:Int)) (.i6 (n:Int)) (.i6 (s:Int)) (.i6 (s:Int)) (.i6 (P:Int)) H:=by
 have key:=E8 (G:=λnB vs H1=>UeS H0 self nB (ag vs 0) (ag vs 1) (ag vs 2) (ag vs 3) (ag vs 4) (ag vs 5) (ag vs 6) (ag vs 7) (ag vs 8) (ag vs 9) H1) (σ:=Nat×Nat)
  (λs vs H1=>BsI (SR ltC l P) s0 r0 s.1 s.2/\vs=[dV p g l.length,.i6 (a:Int),.i6 (m:Int),.i6 (b:Int),f,.i6 (mid:Int),.i6 (n:Int),.i6 (s.1:Int),.i6 (s.2:Int),.i6 (P:Int)]/\H1=H) (λs=>s.2-s.1) (λs=>¬s.1<s.2) (λs vs H1 hI hd=>?_)
  (s:=(s0,r0)) (vs:=[dV p g l.length,.i6 (a:Int),.i6 (m:Int),.i6 (b:Int),f,.i6 (mid:Int),.i6 (n:Int),.i6 (s0:Int),.i6 (r0:Int),.i6 (P:Int)]) (H:=H) ⟨.start uK,rfl,rfl⟩ (by dsimp only;omega)
 ·obtain⟨⟨i,j⟩,vs,H1,hd,⟨hI,rfl,rfl⟩,rec,aB⟩:=key;dsimp only at hI hd aB;obtain⟨q1,q2,q3⟩:=hI.le;have e:j=i:=by omega
  subst e;exact⟨j,hI,rec,aB⟩
 ·obtain⟨i,j⟩:=s;obtain⟨hI,rfl,rfl⟩:=hI;dsimp only at hI hd⊢;obtain⟨q1,q2,q3⟩:=hI.le;have hij:i<j:=by omega
  obtain⟨k,hk⟩:∃k,k=(i+j) / 2:=⟨_,rfl⟩;obtain⟨w1,w2,w3,w4⟩:=P5 (i:=i) (j:=j) (by omega) (by omega);rw[<-hk]at w3 w4;have cZ:k<l.length:=by omega
  obtain⟨hPk,hkP⟩:=hP k (by omega) (by omega);have c1:=hf self l[P-k] (hm _ (WI hPk)) l[k] (hm _ (WI cZ));have cF:decide ((i:Int)<(j:Int))=true:=zXc (by omega);have gB:=Au (show k<9223372036854775807 by omega);have tD:IntKind.i64.wrap ((P:Int)-(k:Int))=((P-k:Nat):Int):=by rw[Am]<;>omega
  have hlt:Ji ltC l (P-k) k=ltC l[P-k] l[k]:=S1 hPk cZ;have hp:SR ltC l P k = !ltC l[P-k] l[k]:=by unfold SR;rw[hlt]
  cases hc:ltC l[P-k] l[k]with|false=>refine⟨(k+1,j),_,_,by dsimp only;omega,⟨hI.yes mono (by omega) (by omega) (by rw[hp,hc];rfl),rfl,rfl⟩,λrec=>?_⟩;unfold UeS;simp only[Ao,Aj,Bf,Bj,B6,BQ,GMw,cF,w1,w2,w3,w4,tD,Cc cZ,Cc hPk,CH h cZ,CH h hPk,B3,c1,BF,Lk,hc,gB]|true=>refine⟨(i,k),_,_,by dsimp only;omega,⟨hI.no mono (by omega) (by omega) (by rw[hp,hc];rfl),rfl,rfl⟩,λrec=>?_⟩;unfold UeS;simp only[Ao,Aj,Bf,Bj,B6,BQ,GMw,cF,w1,w2,w3,w4,tD,Cc cZ,Cc hPk,CH h cZ,CH h hPk,B3,c1,BF,Lk,hc]
theorem Vh2 (hf:Vc f l0){d n:Nat}(hs:∀n',n'<n->Vho p g f l0 (UbO d) n'):Vho p g f l0 (UbO (d+1)) n:=by
 intro A U V B H hn h hUp hVp hU hV hm hl;obtain⟨l,hL⟩:∃l,l=A++(U++(V++B)):=⟨_,rfl⟩;have hlen:l.length=A.length+(U.length+(V.length+B.length)):=by rw[hL];simp only[WC]
 have gK:l.length<1000000000:=by rw[hL];exact hl
 show ∃W,_/\UdY (UbO d) _ _ _ _ _ H=_;unfold UdY;have cD:IntKind.i64.wrap (((A.length+U.length:Nat):Int)-(A.length:Int))=(U.length:Int):=by rw[Am]<;>omega
 by_cases h1:U.length=1
 ·obtain⟨x,rfl⟩:=Y0.1 h1;have sL:((([x]:List Cl).length:Int)==1)=true:=by simp
  have dP:l[A.length]? = some x:=by rw[hL];simp
  have eH:∀c,A.length+1<=c->c<A.length+1+V.length->∃hc:c-(A.length+1)<V.length,Ji ltC l c A.length=ltC V[c-(A.length+1)] x:=λc h3 h4=>by have hc:c-(A.length+1)<V.length:=(by omega);refine⟨hc,?_⟩;have e:l[c]? = some V[c-(A.length+1)]:=(by rw[hL,VpL rfl rfl (by simpa using h3) (by simpa using h4)];rfl);unfold Ji;rw[dP,e]
  obtain⟨s,b1,b2⟩:=Vnj (self:=UbO d) (H0:=H) (a:=A.length) (m:=A.length+1) (b:=A.length+1+V.length) hf (l:=l) (by rw[hL];exact h) (by rw[hL];exact hm) (by rw[hlen];simp only[zXj,zXk];omega) (by omega) (by rw[hlen];simp only[zXj,zXk];omega) gK (λc d kY eZ mY mA=>by
   obtain⟨e1,e2⟩:=eH c kY (by omega);obtain⟨e3,e4⟩:=eH d (by omega) mY;rw[e2];rw[e4]at mA;cases e:ltC V[c-(A.length+1)] x with
   |true=>rfl
   |false=>have:=Ib hV JT (i:=c-(A.length+1)) (j:=d-(A.length+1)) (by omega) e3;have:=JT.neg _ _ _ this e;rw[mA]at this;cases this)
  obtain⟨⟨g1,_,g2⟩,g3,g4⟩:=b1;have aQ:=Vng (H0:=H) (p:=p) (g:=g) (l:=l) (i:=s) (a:=A.length) (H:=H) (by rw[hL];exact h) (by rw[hlen];simp only[zXj,zXk]at *;omega) (by omega) gK;have hres:=VjG A B x V (s-1-A.length) (by omega);refine⟨V.take (s-1-A.length)++([x]++V.drop (s-1-A.length)),VnH JT hV (λy hy=>?_) (λy hy=>?_),?_⟩;obtain⟨i,hi,hi2,rfl⟩:=IB hy;have:=g3 (A.length+1+i) (by omega) (by omega);obtain⟨e1,e2⟩:=eH (A.length+1+i) (by omega) (by omega);rw[e2]at this;have e3:A.length+1+i-(A.length+1)=i:=(by omega);simp only[e3]at this;exact this;obtain⟨i,hi,hi2,rfl⟩:=IC hy;have:=g4 (A.length+1+i) (by omega) (by omega);obtain⟨e1,e2⟩:=eH (A.length+1+i) (by omega) (by omega);rw[e2]at this;have e3:A.length+1+i-(A.length+1)=i:=(by omega);simp only[e3]at this;exact this;rw[<-hL];simp only[GMw,cD,sL];have eb:A.length+([x]:List Cl).length=A.length+1:=rfl;rw[eb,b2,aQ,hL,hres]
 ·have sL:((U.length:Int)==1)=false:=by simp;omega
  have bZ:IntKind.i64.wrap (((A.length+U.length+V.length:Nat):Int)-((A.length+U.length:Nat):Int))=(V.length:Int):=by rw[Am]<;>omega
  by_cases h2:V.length=1;obtain⟨y,rfl⟩:=Y0.1 h2;have cF:((([y]:List Cl).length:Int)==1)=true:=(by simp);have dP:l[A.length+U.length]? = some y:=(by rw[hL,VpL rfl rfl (W7 _) (by simp)];simp);have eH:∀c,A.length<=c->c<A.length+U.length->∃hc:c-A.length<U.length,Ji ltC l (A.length+U.length) c=ltC y U[c-A.length]:=λc h3 h4=>(by have hc:c-A.length<U.length:=(by omega);refine⟨hc,?_⟩;have e:l[c]? = some U[c-A.length]:=(by rw[hL,Vqa rfl h3 h4]);unfold Ji;rw[dP,e]);obtain⟨s,b1,b2⟩:=Vni (self:=UbO d) (H0:=H) (a:=A.length) (m:=A.length+U.length) hf (l:=l) (by rw[hL];exact h) (by rw[hL];exact hm) (by omega) (by rw[hlen];simp only[zXj,zXk];omega) gK (λc d kY eZ mY mA=>by obtain⟨e1,e2⟩:=eH c kY (by omega);obtain⟨e3,e4⟩:=eH d (by omega) mY;rw[e2];rw[e4]at mA;simp only[X7]at mA⊢;have:=Ib hU JT (i:=c-A.length) (j:=d-A.length) (by omega) e3;exact JT.neg _ _ _ mA this);obtain⟨⟨g1,_,g2⟩,g3,g4⟩:=b1;have jC:=Vnm (H0:=H) (p:=p) (g:=g) (l:=l) (i:=s) (m:=A.length+U.length) (H:=H) (by rw[hL];exact h) g2 (by rw[hlen];simp only[zXj,zXk];omega) gK;have hres:=Vkt A B y U (A.length+U.length-s) (by omega);have ek:U.length-(A.length+U.length-s)=s-A.length:=(by omega);rw[ek]at hres;refine⟨U.take (s-A.length)++([y]++U.drop (s-A.length)),VnI JT hU (λx hx=>?_) (λx hx=>?_),?_⟩;obtain⟨i,hi,hi2,rfl⟩:=IB hx;have:=g3 (A.length+i) (by omega) (by omega);obtain⟨e1,e2⟩:=eH (A.length+i) (by omega) (by omega);rw[e2]at this;have e3:A.length+i-A.length=i:=(by omega);simp only[e3,X7]at this;exact this;obtain⟨i,hi,hi2,rfl⟩:=IC hx;have:=g4 (A.length+i) (by omega) (by omega);obtain⟨e1,e2⟩:=eH (A.length+i) (by omega) (by omega);rw[e2]at this;have e3:A.length+i-A.length=i:=(by omega);simp only[e3,YS]at this;exact this;rw[<-hL];simp only[GMw,cD,bZ,sL,cF];rw[b2,jC,hL,hres]
  ·have cF:((V.length:Int)==1)=false:=(by simp;omega);obtain⟨a,ha⟩:∃a,a=A.length:=⟨_,rfl⟩;obtain⟨m,hmm⟩:∃m,m=A.length+U.length:=⟨_,rfl⟩;obtain⟨b,hb⟩:∃b,b=A.length+U.length+V.length:=⟨_,rfl⟩;obtain⟨mid,jQ⟩:∃mid,mid=(a+b) / 2:=⟨_,rfl⟩;obtain⟨w1,w2,w3,w4⟩:=P5 (i:=a) (j:=b) (by omega) (by omega);rw[<-jQ]at w3 w4;have xN:IntKind.i64.wrap ((mid:Int)+(m:Int))=((mid+m:Nat):Int):=(by rw[Am]<;>omega);obtain⟨s0,hs0⟩:∃s0,s0=if mid<m then mid+m-b else a:=⟨_,rfl⟩
   obtain⟨r0,hr0⟩:∃r0,r0=if mid<m then mid else m:=⟨_,rfl⟩
   have uK:s0<=r0/\r0<=m/\a<=s0/\mid+m<=s0+b/\r0<=mid:=(by by_cases hc:mid<m;rw[if_pos hc]at hs0 hr0;omega;rw[if_neg hc]at hs0 hr0;omega);obtain⟨z1,z2,z3,z4,z5⟩:=uK;obtain⟨s,b1,rec,b2⟩:=Vnh (self:=UbO d) (H0:=H) (a:=a) (m:=m) (b:=b) (mid:=mid) (n:=mid+m) (s0:=s0) (r0:=r0) (P:=mid+m-1) hf (l:=l) (H:=H) (by rw[hL];exact h) (by rw[hL];exact hm) z1 (by omega) (λc h3 h4=>by omega) (by omega) (by rw[hL];exact hl)
    (λc e h3 h4 h5 h6=>by rw[hL]at h6⊢;exact Vev JT hU hV ha.symm (show a+U.length=m by omega) (by omega) h4 (by omega) (by omega) (by omega) h6)
   have b1':=b1;rw[hL]at b1';obtain⟨p1,p2,p3,p4,p5,p6,p7⟩:=Ves JT hU hV ha.symm (show a+U.length=m by omega) (show m+V.length=b by omega) jQ hUp hVp hs0 hr0 b1';have l1:(U.take (s-a)).length=s-a:=(by rw[WN];omega);have l2:(V.take (mid-s)).length=mid-s:=(by rw[WN];omega);have l3:(U.drop (s-a)).length=m-s:=(by rw[WS];omega);have l4:(V.drop (mid-s)).length=b-(mid+m-s):=(by rw[WS];omega);have sU1:EI ltC (U.take (s-a)):=XK (YW _ _) hU;have sU2:EI ltC (U.drop (s-a)):=XK (Za _ _) hU;have sV1:EI ltC (V.take (mid-s)):=XK (YW _ _) hV;have sV2:EI ltC (V.drop (mid-s)):=XK (Za _ _) hV;have eU:U.take (s-a)++U.drop (s-a)=U:=Xk _ _;have eV:V.take (mid-s)++V.drop (mid-s)=V:=Xk _ _;have bQ:∀c,c∈A++(U.take (s-a)++(V.take (mid-s)++(U.drop (s-a)++(V.drop (mid-s)++B))))->c∈l0:=λc hc=>hm c (by
    simp only[WT]at hc⊢;rcases hc with q | q | q | q | q | q;exact .inl q;exact .inr (.inl (X5 q));exact .inr (.inr (.inl (X5 q)));exact .inr (.inl (Yb q));exact .inr (.inr (.inl (Yb q)))
    ·exact .inr (.inr (.inr q)))
   have hlen2:(A++(U.take (s-a)++(V.take (mid-s)++(U.drop (s-a)++(V.drop (mid-s)++B))))).length=l.length:=(by rw[hlen];simp only[WC,l1,l2,l3,l4];omega);generalize U.take (s-a)=U1 at *;generalize U.drop (s-a)=U2 at *;generalize V.take (mid-s)=V1 at *;generalize V.drop (mid-s)=V2 at *;have rest:∀G,G=BR H p g (A++(U1++(V1++(U2++(V2++B)))))->∃W W2,Srt ltC (U1++V1) W/\Srt ltC (U2++V2) W2/\Ucn H (UbO d) (dV p g l.length) (.i6 (a:Int)) (.i6 (b:Int)) f (.i6 (mid:Int)) (.i6 (s:Int)) (.i6 ((mid+m-s:Nat):Int)) G =
     some (.ret (.tup []),BR H p g (A++(W++(W2++B)))):=λG hG=>by
    obtain⟨W,W2,k1,k2,k3⟩:=Vnl (H0:=H) (H:=G) (p:=p) (g:=g) (f:=f) (l0:=l0) (A:=A) (U:=U1) (V:=V1) (U2:=U2) (V2:=V2) (B:=B) (n:=n) hs (by omega) (by omega) (by rw[hG];exact Dw h) sU1 sV1 sU2 sV2 bQ (by rw[hlen2,hL];exact hl);refine⟨W,W2,k1,k2,?_⟩;rw[hlen2,<-ha,show a+U1.length=s by omega,show s+V1.length=mid by omega,show mid+U2.length=mid+m-s by omega,show mid+m-s+V2.length=b by omega]at k3;rw[k3,hG,BD]
   have uD:IntKind.i64.wrap (((mid+m:Nat):Int)-(s:Int))=((mid+m-s:Nat):Int):=(by rw[Am]<;>omega);have hds:decide ((s:Int)<(s:Int))=false:=zXd (by omega);have tD:IntKind.i64.wrap (((mid+m:Nat):Int)-1)=((mid+m-1:Nat):Int):=(by rw[Am]<;>omega);have after:∃W W2,Srt ltC (U1++V1) W/\Srt ltC (U2++V2) W2/\UeS H (UbO d) rec (dV p g l.length) (.i6 (a:Int)) (.i6 (m:Int)) (.i6 (b:Int)) f (.i6 (mid:Int)) (.i6 ((mid+m:Nat):Int)) (.i6 (s:Int)) (.i6 (s:Int)) (.i6 ((mid+m-1:Nat):Int)) H =
     some (.ret (.tup []),BR H p g (A++(W++(W2++B)))):=by
    by_cases t1:s<m;have c1:decide ((s:Int)<(m:Int))=true:=zXc (by omega);by_cases t2:m<mid+m-s;have c2:decide ((m:Int)<((mid+m-s:Nat):Int))=true:=zXc (by omega);have e1:l=(A++U1)++(U2++(V1++(V2++B))):=(by rw[hL,<-eU,<-eV];simp only[WD]);have nK:=VeN (p:=p) (g:=g) (f:=f) (a:=s) (b:=mid+m-s) (m:=m) (A:=A++U1) (U:=U2) (V:=V1) (B:=V2++B) (H:=H) (by rw[<-e1,hL];exact h) (by rw[WC];omega) (by omega) (by omega) (by omega) (by omega) (by rw[<-e1,hL];exact hl);rw[<-e1]at nK;obtain⟨W,W2,k1,k2,k3⟩:=rest _ rfl;refine⟨W,W2,k1,k2,?_⟩;have e2:(A++U1)++((V1++U2)++(V2++B))=A++(U1++(V1++(U2++(V2++B)))):=(by simp only[WD]);rw[e2]at nK;unfold UeS;simp only[Ao,Aj,Bf,Bj,B6,BQ,DI,GMw,hds,uD,c1,c2,nK];exact k3;have c2:decide ((m:Int)<((mid+m-s:Nat):Int))=false:=zXd (by omega);have hv1:V1=[]:=WM (by omega);obtain⟨W,W2,k1,k2,k3⟩:=rest H (by rw[show A++(U1++(V1++(U2++(V2++B))))=A++(U++(V++B))by rw[<-eU,<-eV,hv1];simp only[WD,List.nil_append],CS h]);refine⟨W,W2,k1,k2,?_⟩;unfold UeS;simp only[Ao,Aj,Bf,Bj,B6,BQ,DI,GMw,hds,uD,c1,c2];exact k3;have c1:decide ((s:Int)<(m:Int))=false:=zXd (by omega);have uE:U2=[]:=WM (by omega);obtain⟨W,W2,k1,k2,k3⟩:=rest H (by rw[show A++(U1++(V1++(U2++(V2++B))))=A++(U++(V++B))by rw[<-eU,<-eV,uE];simp only[WD,List.nil_append,WU],CS h]);refine⟨W,W2,k1,k2,?_⟩;unfold UeS;simp only[Ao,Aj,Bf,Bj,B6,BQ,DI,GMw,hds,uD,c1];exact k3
   obtain⟨W,W2,k1,k2,k3⟩:=after;have gU:Srt ltC (U++V) (W++W2):=(by have l5:U.take U1.length=U1/\U.drop U1.length=U2:=(by rw[<-eU];exact⟨YH,YI⟩);have l6:V.take V1.length=V1/\V.drop V1.length=V2:=(by rw[<-eV];exact⟨YH,YI⟩);exact Qq (i:=U1.length) (k:=V1.length) JT hU hV (by rw[l5.2,l6.1];exact p1) (by rw[l5.1,l6.2];exact p2) (by rw[l5.1,l6.1];exact k1) (by rw[l5.2,l6.2];exact k2));refine⟨W++W2,gU,?_⟩;rw[<-hL,<-hb,<-hmm,<-ha];rw[<-hmm,show m+V.length=b by omega]at bZ;rw[<-hmm,<-ha]at cD;have j5:∀x y:Nat,x=s0->y=r0->UdX H (UbO d) (dV p g l.length) (.i6 (a:Int)) (.i6 (m:Int)) (.i6 (b:Int)) f (.i6 (mid:Int)) (.i6 ((mid+m:Nat):Int)) (.i6 (x:Int)) (.i6 (y:Int)) H=some (.ret (.tup []),BR H p g (A++((W++W2)++B))):=λx y hx hy=>(by subst hx;subst hy;unfold UdX;simp only[GMw,tD];rw[b2,k3,WD]);by_cases hc:mid<m;have c3:decide ((m:Int)>(mid:Int))=true:=zXc (by omega);have zO:IntKind.i64.wrap (((mid+m:Nat):Int)-(b:Int))=((mid+m-b:Nat):Int):=(by rw[if_pos hc]at hs0;rw[Am]<;>omega);simp only[Ao,Aj,Bf,Bj,B6,BQ,DI,GMw,cD,bZ,sL,cF,w1,w2,w3,w4,xN,c3,zO];exact j5 _ _ (by rw[hs0,if_pos hc]) (by rw[hr0,if_pos hc]);have c3:decide ((m:Int)>(mid:Int))=false:=zXd (by omega);simp only[Ao,Aj,Bf,Bj,B6,BQ,DI,GMw,cD,bZ,sL,cF,w1,w2,w3,w4,xN,c3];exact j5 _ _ (by rw[hs0,if_neg hc]) (by rw[hr0,if_neg hc])
theorem Veu (hf:Vc f l0):∀d n,n<d->Vho p g f l0 (UbO d) n
 |0,n,h=>absurd h (by omega)
 |d+1,n,h=>Vh2 hf λn' pE=>Veu hf d n' (by omega)

end
theorem Stg.split {w n a:Nat}{l l':List Cl}(hw:0<w)(hd:w ∣ a)(hn:n<=w)(hl:a+n<=l.length)(h:Stg ltC w l a l'):∃A,A.length=a/\l'=A++((l.drop a).take n++l.drop (a+n))/\(∀c∈A,c∈l)/\∀P2,Srt ltC ((l.drop a).take n) P2->Stg ltC w l (a+n) (A++(P2++l.drop (a+n))):=by
 obtain⟨P,h1,hP,hst,hb⟩:=h.ex;refine⟨P,hP,?_,λc hc=>?_,λP2 h2=>?_⟩
 ·rw[h1]
  congr 1
  rw[<-X6,Xk]
 exact X5 ((hst.mem JT).2 hc)
 ·have hlen:P2.length=n:=by rw[h2.len,WN,WS];omega
  refine⟨P++P2,by rw[WD],by rw[WC,hP,hlen],?_,Om.app hw (by rw[hP];exact hd) hb h2.srt (by omega)⟩;rw[List.take_add];exact hst.app h2.st
theorem Stg.mem {w a:Nat}{l l':List Cl}(h:Stg ltC w l a l'){c:Cl}(hc:c∈l'):c∈l:=by obtain⟨P,h1,hP,hst,hb⟩:=h.ex;rw[h1]at hc;rcases WT.1 hc with q | q;exact X5 ((hst.mem JT).2 q);exact Yb q
section
variable {p g:Nat}{f:Ab}{l0:List Cl}
theorem VX (hf:UB AE f l0){l L:List Cl}{a n w:Nat}{H:Aa}(h:Ds H p g L)(hm:∀c∈l,c∈l0)(hst:Stg ltC w l a L)(hw:0<w)(hd:w ∣ a)(hn:n<=w)(hal:a+n<=l.length)(hl:l.length<1000000000):∃L',Stg ltC w l (a+n) L'/\UeZ (dV p g l.length) (.i6 (a:Int)) (.i6 ((a+n:Nat):Int)) f H=some (.ret (.tup []),BR H p g L'):=by
 have hlen:=hst.len (by omega);have cR:=ViL (a:=a) (b:=a+n) hf h (λc hc=>hm c (hst.mem hc)) (by omega) (by omega) (by omega);rw[hlen]at cR;obtain⟨A,hA,hL,_,hP⟩:=hst.split hw hd hn hal;by_cases h0:n=0
 ·subst h0;refine⟨L,?_,?_⟩;rw[Nat.add_zero];exact hst
  ·rw[cR]
   congr 3
   rw[show a+0-a-1=0 by omega];rfl
 ·have hSl:((l.drop a).take n).length=n:=by rw[WN,WS];omega
  obtain⟨P,q1,q2⟩:=VfX JT A (n-1) ((l.drop a).take n) (l.drop (a+n)) (by omega);refine⟨_,hP P q2,?_⟩;rw[cR,show a+n-a-1=n-1 by omega,<-q1,<-hL,hA]
theorem Vm (hf:Vc f l0){l L:List Cl}{a n bs:Nat}{H:Aa}(h:Ds H p g L)(hm:∀c∈l,c∈l0)(hst:Stg ltC (2*bs) l a L)(mZ:0<bs)(hd:2*bs ∣ a)(aQ:Om ltC bs l)(hn:bs<n)(hn2:n<=2*bs)(hal:a+n<=l.length)(hl:l.length<1000000000):∃L',Stg ltC (2*bs) l (a+n) L'/\UbO AU (dV p g l.length) (.i6 (a:Int)) (.i6 ((a+bs:Nat):Int)) (.i6 ((a+n:Nat):Int)) f H=some (.ret (.tup []),BR H p g L'):=by
 have hlen:=hst.len (by omega);obtain⟨A,hA,hL,_,hP⟩:=hst.split (by omega) hd hn2 hal;have pL:bs ∣ a:=Nat.dvd_trans ⟨2,by omega⟩ hd;have sU:=aQ.block mZ pL bs (W7 _);have sV:=aQ.block mZ (show bs ∣ a+bs from(Zw pL).2 (Nat.dvd_refl _)) (n-bs) (by omega);have hS:(l.drop a).take n=(l.drop a).take bs++(l.drop (a+bs)).take (n-bs):=by
  rw[show n=bs+(n-bs)by omega,List.take_add,X6]
  congr 2;omega
 have lU:((l.drop a).take bs).length=bs:=by rw[WN,WS];omega
 have lV:((l.drop (a+bs)).take (n-bs)).length=n-bs:=by rw[WN,WS];omega
 rw[hS]at hL hP;rw[WD]at hL;have aD:=Veu (p:=p) (g:=g) hf AU (((l.drop a).take bs).length+((l.drop (a+bs)).take (n-bs)).length) (by rw[Dj];omega) A ((l.drop a).take bs) ((l.drop (a+bs)).take (n-bs)) (l.drop (a+n)) H rfl (by rw[<-hL];exact h) (by omega) (by omega) sU sV
  (λc hc=>by rw[<-hL]at hc;exact hm c (hst.mem hc)) (by rw[<-hL,hlen];exact hl)
 obtain⟨W,w1,w2⟩:=aD;refine⟨_,hP W w1,?_⟩;rw[<-hL,hlen,hA,lU,lV,show a+bs+(n-bs)=a+n by omega]at w2;exact w2
theorem Vet (hf:Vc f l0){l:List Cl}{bs:Nat}{H0 H:Aa}(h:Ds H p g l)(hm:∀c∈l,c∈l0)(mZ:0<bs)(aQ:Om ltC bs l)(wR:bs<l.length)(hl:l.length<1000000000):∃L,FL ltC l L/\Om ltC (2*bs) L/\L.length=l.length/\∀aA:LK,Al (λdG vs H1=>Ua7 H0 aA dG (ag vs 0) (ag vs 1) (ag vs 2) (ag vs 3) (ag vs 4) (ag vs 5) H1) AU [dV p g l.length,.i6 (l.length:Int),f,.i6 (bs:Int),.i6 0,.i6 ((2*bs:Nat):Int)] H =
   aA [dV p g l.length,.i6 (l.length:Int),f,.i6 ((2*bs:Nat):Int)] (BR H p g L):=by
 have key:=MM (ι:=LK) (G:=λaA dG vs H1=>Ua7 H0 aA dG (ag vs 0) (ag vs 1) (ag vs 2) (ag vs 3) (ag vs 4) (ag vs 5) H1) (σ:=Nat×List Cl)
  (λs vs H1=>Stg ltC (2*bs) l s.1 s.2/\2*bs ∣ s.1/\s.1<=l.length/\vs=[dV p g l.length,.i6 (l.length:Int),f,.i6 (bs:Int),.i6 (s.1:Int),.i6 ((s.1+2*bs:Nat):Int)]/\H1=BR H p g s.2) (λs=>l.length-s.1) (λs=>¬s.1+2*bs<=l.length) (λs vs H1 hI hd=>?_)
  (s:=(0,l)) (vs:=[dV p g l.length,.i6 (l.length:Int),f,.i6 (bs:Int),.i6 0,.i6 ((2*bs:Nat):Int)]) (H:=H) ⟨.start _ _,Nat.dvd_zero _,WZ _,by simp,(CS h).symm⟩ (by dsimp only;omega)
 ·obtain⟨⟨a,L⟩,vs,H1,hd,⟨hst,gL,hal,rfl,rfl⟩,aB⟩:=key;dsimp only at hst gL hal hd aB;have hr:Ds (BR H p g L) p g L:=Dw h;have d1:decide (((a+2*bs:Nat):Int)<=(l.length:Int))=false:=zXd (by omega);have cD:IntKind.i64.wrap ((a:Int)+(bs:Int))=((a+bs:Nat):Int):=by rw[Am]<;>omega
  have bZ:IntKind.i64.wrap ((bs:Int)*2)=((2*bs:Nat):Int):=by rw[Am]<;>omega
  by_cases vH:a+bs<l.length;have d2:decide (((a+bs:Nat):Int)<(l.length:Int))=true:=zXc (by omega);obtain⟨L',q1,q2⟩:=Vm (n:=l.length-a) hf hr hm hst mZ gL aQ (by omega) (by omega) (by omega) hl;rw[show a+(l.length-a)=l.length by omega]at q1 q2;obtain⟨r1,r2,r3⟩:=q1.all;refine⟨L',r1,r2,r3,λaA=>?_⟩;obtain⟨rec,aB⟩:=aB aA;rw[aB];unfold Ua7 UdZ;simp only[Ao,Aj,Bf,Bj,B6,BQ,DI,GMw,d1,cD,d2,q2,bZ,BD];have d2:decide (((a+bs:Nat):Int)<(l.length:Int))=false:=zXd (by omega);obtain⟨A,hA,hL,_,hP⟩:=hst.split (n:=l.length-a) (by omega) gL (by omega) (by omega);have pL:bs ∣ a:=Nat.dvd_trans ⟨2,by omega⟩ gL;have q1:=hP _ ⟨aQ.block mZ pL (l.length-a) (by omega),.refl _,rfl⟩;rw[<-hL,show a+(l.length-a)=l.length by omega]at q1;obtain⟨r1,r2,r3⟩:=q1.all;refine⟨L,r1,r2,r3,λaA=>?_⟩;obtain⟨rec,aB⟩:=aB aA;rw[aB];unfold Ua7 UdZ;simp only[Ao,Aj,Bf,Bj,B6,BQ,DI,GMw,d1,cD,d2,bZ]
 ·obtain⟨a,L⟩:=s;obtain⟨hst,gL,hal,rfl,rfl⟩:=hI;dsimp only at hst gL hal hd⊢;have hr:Ds (BR H p g L) p g L:=Dw h;obtain⟨L',q1,q2⟩:=Vm (n:=2*bs) hf hr hm hst mZ gL aQ (by omega) (by omega) (by omega) hl;have d1:decide (((a+2*bs:Nat):Int)<=(l.length:Int))=true:=zXc (by omega);have cD:IntKind.i64.wrap ((a:Int)+(bs:Int))=((a+bs:Nat):Int):=by rw[Am]<;>omega
  have bZ:IntKind.i64.wrap (2*(bs:Int))=((2*bs:Nat):Int):=by rw[Am]<;>omega
  have jJ:IntKind.i64.wrap (((a+2*bs:Nat):Int)+((2*bs:Nat):Int))=((a+2*bs+2*bs:Nat):Int):=by rw[Am]<;>omega
  refine⟨(a+2*bs,L'),_,_,by dsimp only;omega,⟨q1,(Zw gL).2 (Nat.dvd_refl _),by dsimp only;omega,rfl,rfl⟩,λaA rec=>?_⟩;unfold Ua7;simp only[Ao,Aj,Bf,Bj,B6,BQ,DI,GMw,d1,cD,q2,bZ,jJ,BD]
theorem Ve0 (hf1:UB AE f l0)(hf2:Vc f l0){l:List Cl}{H:Aa}(h:Ds H p g l)(hm:∀c∈l,c∈l0)(hl:l.length<1000000000):∃S,EI ltC S/\FL ltC l S/\S.length=l.length/\Ua8 (dV p g l.length) (.i6 (l.length:Int)) f H=some (.ret (.tup []),BR H p g S):=by
 unfold Ua8;have rounds:∀(L:List Cl),FL ltC l L->Om ltC 20 L->L.length=l.length->∃S,EI ltC S/\FL ltC l S/\S.length=l.length /\
   Al (λaA vs H1=>Uai H aA (ag vs 0) (ag vs 1) (ag vs 2) (ag vs 3) H1) AU [dV p g l.length,.i6 (l.length:Int),f,.i6 20] (BR H p g L)=some (.ret (.tup []),BR H p g S):=λL hL1 hL2 hL3=>by
  have key:=E8 (G:=λaA vs H1=>Uai H aA (ag vs 0) (ag vs 1) (ag vs 2) (ag vs 3) H1) (σ:=Nat×List Cl)
   (λs vs H1=>(FL ltC l s.2/\Om ltC s.1 s.2/\s.2.length=l.length/\0<s.1)/\vs=[dV p g l.length,.i6 (l.length:Int),f,.i6 (s.1:Int)]/\H1=BR H p g s.2) (λs=>l.length-s.1) (λs=>¬s.1<l.length) (λs vs H1 hI hd=>?_)
   (s:=(20,L)) (vs:=[dV p g l.length,.i6 (l.length:Int),f,.i6 20]) (H:=BR H p g L) ⟨⟨hL1,hL2,hL3,Nat.succ_pos _⟩,rfl,rfl⟩ (by dsimp only;omega)
  obtain⟨⟨bs,S⟩,vs,H1,hd,⟨⟨i1,i2,i3,i4⟩,rfl,rfl⟩,rec,aB⟩:=key;dsimp only at i1 i2 i3 i4 hd aB;have d1:decide ((bs:Int)<(l.length:Int))=false:=zXd (by omega);refine⟨S,i2.whole (by omega),i1,i3,?_⟩;rw[aB];unfold Uai;simp only[Ao,Aj,Bf,Bj,B6,GMw,d1];obtain⟨bs,L⟩:=s;obtain⟨⟨i1,i2,i3,i4⟩,rfl,rfl⟩:=hI;dsimp only at i1 i2 i3 i4 hd⊢;have hr:Ds (BR H p g L) p g L:=Dw h;have d1:decide ((bs:Int)<(l.length:Int))=true:=zXc (by omega);have cD:IntKind.i64.wrap (2*(bs:Int))=((2*bs:Nat):Int):=(by rw[Am]<;>omega);obtain⟨L',q1,q2,q3,q4⟩:∃L',FL ltC L L'/\Om ltC (2*bs) L'/\L'.length=L.length/\∀aA:LK,Uai H aA (dV p g l.length) (.i6 (l.length:Int)) f (.i6 (bs:Int)) (BR H p g L)=aA [dV p g l.length,.i6 (l.length:Int),f,.i6 ((2*bs:Nat):Int)] (BR H p g L'):=(by obtain⟨L',q1,q2,q3,q4⟩:=Vet (H0:=H) hf2 hr (λc hc=>hm c ((i1.mem JT).2 hc)) i4 i2 (by omega) (by omega);rw[i3]at q4;refine⟨L',q1,q2,q3,λaA=>?_⟩;unfold Uai;simp only[GMw,d1,cD];rw[q4 aA,BD]);refine⟨(2*bs,L'),_,_,by dsimp only;omega,⟨⟨i1.trans q1,q2,by dsimp only;omega,by dsimp only;omega⟩,rfl,rfl⟩,λrec=>?_⟩;simp only[Ao,Aj,Bf,Bj,B6];exact q4 rec
 have key:=E8 (G:=λrec1 vs H1=>Uba H rec1 (ag vs 0) (ag vs 1) (ag vs 2) (ag vs 3) (ag vs 4) (ag vs 5) H1) (σ:=Nat×List Cl)
  (λs vs H1=>(Stg ltC 20 l s.1 s.2/\20 ∣ s.1/\s.1<=l.length)/\vs=[dV p g l.length,.i6 (l.length:Int),f,.i6 20,.i6 (s.1:Int),.i6 ((s.1+20:Nat):Int)]/\H1=BR H p g s.2) (λs=>l.length-s.1) (λs=>¬s.1+20<=l.length) (λs vs H1 hI hd=>?_)
  (s:=(0,l)) (vs:=[dV p g l.length,.i6 (l.length:Int),f,.i6 20,.i6 0,.i6 20]) (H:=H) ⟨⟨.start _ _,Nat.dvd_zero _,WZ _⟩,rfl,(CS h).symm⟩ (by dsimp only;omega)
 obtain⟨⟨a,L⟩,vs,H1,hd,⟨⟨hst,gL,hal⟩,rfl,rfl⟩,rec,aB⟩:=key;dsimp only at hst gL hal hd aB;have hr:Ds (BR H p g L) p g L:=Dw h;obtain⟨L',q1,q2⟩:=VX (n:=l.length-a) hf1 hr hm hst (by decide) gL (by omega) (by omega) hl;rw[show a+(l.length-a)=l.length by omega]at q1 q2;obtain⟨r1,r2,r3⟩:=q1.all;obtain⟨S,s1,s2,s3,s4⟩:=rounds L' r1 r2 r3;refine⟨S,s1,s2,s3,?_⟩;have d1:decide (((a+20:Nat):Int)<=(l.length:Int))=false:=zXd (by omega);rw[aB];unfold Uba;simp only[Ao,Aj,Bf,Bj,B6,BQ,DI,GMw,d1,q2,BD];exact s4
 ·obtain⟨a,L⟩:=s;obtain⟨⟨hst,gL,hal⟩,rfl,rfl⟩:=hI;dsimp only at hst gL hal hd⊢;have hr:Ds (BR H p g L) p g L:=Dw h;obtain⟨L',q1,q2⟩:=VX (n:=20) hf1 hr hm hst (by decide) gL (by omega) (by omega) hl;have d1:decide (((a+20:Nat):Int)<=(l.length:Int))=true:=zXc (by omega);have jJ:IntKind.i64.wrap (((a+20:Nat):Int)+20)=((a+20+20:Nat):Int):=by rw[Am]<;>omega
  refine⟨(a+20,L'),_,_,by dsimp only;omega,⟨⟨q1,(Zw gL).2 (Nat.dvd_refl _),by dsimp only;omega⟩,rfl,rfl⟩,λrec=>?_⟩;unfold Uba;simp only[Ao,Aj,Bf,Bj,B6,BQ,DI,GMw,d1,q2,jJ,BD]

end
theorem VcO {l l':zAb}(h:enL cU l=enL cU l'):l=l':=by
 unfold enL at h
 induction l generalizing l' with
 |nil=>cases l' with|nil=>rfl|cons y r=>simp at h
 |cons x l ih=>
  cases l' with
  |nil=>simp at h
  |cons y r=>
   simp only[Yk,List.cons.injEq,Ab.int.injEq,true_and,and_true]at h;rw[ih h.2]
   congr 1
   omega
theorem PT {l m:zAb}{t t':Tok}(H:Aa)(hl:Lim l)(hm:Lim m)(h1:l.length<=1099511627776)(h2:m.length<=1099511627776):Ufd (.sl (enL cU l) t) (.sl (enL cU m) t') H=some (.ret (.i6 (FT (val l:Int) (val m:Int))),H):=by
 have hex:∃p:zAb×zAb,enL cU l=enL cU p.1/\enL cU m=enL cU p.2/\Lim p.1/\Lim p.2/\p.1.length<=1099511627776/\p.2.length<=1099511627776:=⟨(l,m),rfl,rfl,hl,hm,h1,h2⟩;have e1:hex.choose.1=l:=(VcO hex.choose_spec.1).symm;have e2:hex.choose.2=m:=(VcO hex.choose_spec.2.1).symm;unfold Ufd;simp only[];rw[dif_pos hex,e1,e2];unfold FT;by_cases c1:val l<val m;rw[if_pos c1,if_pos (show(val l:Int)<(val m:Int)by omega)];by_cases c2:val l=val m;rw[if_neg c1,if_pos c2,if_neg (show ¬(val l:Int)<(val m:Int)by omega),if_pos (show(val l:Int)=(val m:Int)by omega)];rw[if_neg c1,if_neg c2,if_neg (show ¬(val l:Int)<(val m:Int)by omega),if_neg (show ¬(val l:Int)=(val m:Int)by omega)]
section
variable {H:Aa}{p:Nat}{z:Int}
theorem Ka (hg:H[p]? = some (.c0 (A2 z))):Ad false 1 (.ptr p 0 0) H=some (.bool (decide (z<0))):=by simp only[Ad,Ax hg,zXa];rfl
theorem Vcy (hg:H[p]? = some (.c0 (A2 z))):Ad false 1 (.ptr p 0 1) H=some (.sl (enL cU (AB z.natAbs)) .no):=by simp only[Ad,Ax hg,zXa];rfl

end
theorem Vow {a b:Int}(ha:LB a)(hb:LB b)(H:Aa):UaY (big a) (big b) H=some (.ret (.i6 (FT a b)),H):=by
 have e1:(H++[Blk.c0 (A2 a)]++[Blk.c0 (A2 b)])[H.length]? = some (.c0 (A2 a)):=by simp
 have e2:(H++[Blk.c0 (A2 a)]++[Blk.c0 (A2 b)])[(H++[Blk.c0 (A2 a)]).length]? = some (.c0 (A2 b)):=An;have c1:=λK=>PT (t:=.no) (t':=.no) K (Bz a.natAbs) (Bz b.natAbs) (WV ha (by decide)) (WV hb (by decide));have c2:=λK=>PT (t:=.no) (t':=.no) K (Bz b.natAbs) (Bz a.natAbs) (WV hb (by decide)) (WV ha (by decide));rw[B9,B9]at c1 c2;have fin:∀q:Int,rP H (.i6 q) (H++[Blk.c0 (A2 a)]++[Blk.c0 (A2 b)])=some (.ret (.i6 q),H):=λq=>by simp only[WD];exact It
 unfold UaY;simp only[GMw,DA,Ae,W9,Nat.add_zero,Ka e1,Ka e2];by_cases h1:a<0
 ·have d1:decide (a<0)=true:=zXc h1;by_cases h2:b<0;have d2:decide (b<0)=true:=zXc h2;have:FT (b.natAbs:Int) (a.natAbs:Int)=FT a b:=(by unfold FT;by_cases q1:a<b;rw[if_pos q1,if_pos (by omega)];by_cases q2:a=b;rw[if_neg q1,if_neg (by omega),if_pos q2,if_pos (by omega)];rw[if_neg q1,if_neg (by omega),if_neg q2,if_neg (by omega)]);simp only[GMw,d1,d2,Ka e1,Ka e2,Vcy e1,Vcy e2,c2,fin,this];have d2:decide (b<0)=false:=zXd h2;have:FT a b = -1:=(by unfold FT;rw[if_pos (by omega)]);simp only[GMw,d1,d2,Ka e1,Ka e2,fin,this]
 have d1:decide (a<0)=false:=zXd h1;by_cases h2:b<0;have d2:decide (b<0)=true:=zXc h2;have:FT a b=1:=(by unfold FT;rw[if_neg (by omega),if_neg (by omega)]);simp only[GMw,d1,Ka e1,Ka e2,d2,fin,this];have d2:decide (b<0)=false:=zXd h2;have:FT (a.natAbs:Int) (b.natAbs:Int)=FT a b:=(by rw[show(a.natAbs:Int)=a by omega,show(b.natAbs:Int)=b by omega]);simp only[GMw,d1,Ka e1,Ka e2,d2,Vcy e1,Vcy e2,c1,fin,this]
theorem VnG (a b:Int)(H:Aa):Uci (.sl [[.i6 a],[.i6 b]] .ti) H=some (.ret (.i6 (if a=0 then b else a)),H):=by
 have i0:Av 1 (.sl [[.i6 a],[.i6 b]] .ti) (.i6 0)=some (.cptr [.i6 a] 0):=rfl;have i1:Av 1 (.sl [[.i6 a],[.i6 b]] .ti) (.i6 1)=some (.cptr [.i6 b] 0):=rfl;have l0:∀x:Ab,Ad false 1 (.cptr [x] 0) H=some x:=λ_=>rfl;have hl:A7 (.sl [[.i6 a],[.i6 b]] .ti)=some (.i6 2):=rfl;have w0:IntKind.i64.wrap (0+1)=1:=rfl;have w1:IntKind.i64.wrap (1+1)=2:=rfl;have d0:decide ((0:Int)<2)=true:=rfl;have d1:decide ((1:Int)<2)=true:=rfl;have d2:decide ((2:Int)<2)=false:=rfl;unfold Uci;simp only[GMw,hl];have key:=Bv (G:=λrec1 vs H1=>UdV H rec1 (ag vs 0) (ag vs 1) (ag vs 2) (ag vs 3) H1) (σ:=Nat) (λi=>i=0\/(i=1/\a=0)\/(i=2/\a=0/\b=0))
  (λi=>[.i6 0,.sl [[.i6 a],[.i6 b]] .ti,.i6 2,.i6 (i:Int)]) (λ_=>H) (λi=>2-i) (λ_=>some (.ret (.i6 (if a=0 then b else a)),H)) (λi rec hi hrec=>?_) 0 (.inl rfl) (by decide)
 exact key;unfold UdV;rcases hi with rfl | ⟨rfl,ha⟩ | ⟨rfl,ha,hb⟩;by_cases h:a=0;have hn:(a != 0)=false:=(by simp[h]);have:=hrec 1 (.inr (.inl ⟨rfl,h⟩)) (by decide);simp only[GMw,Aj,Int.natCast_zero,d0,i0,l0,hn,w0];exact this;have hn:(a != 0)=true:=(by simp[h]);simp only[GMw,Aj,Int.natCast_zero,d0,i0,l0,hn,if_neg h];by_cases h:b=0;have hn:(b != 0)=false:=(by simp[h]);have:=hrec 2 (.inr (.inr ⟨rfl,ha,h⟩)) (by decide);simp only[GMw,Aj,show((1:Nat):Int)=1 from rfl,d1,i1,l0,hn,w1];exact this;have hn:(b != 0)=true:=(by simp[h]);simp only[GMw,Aj,show((1:Nat):Int)=1 from rfl,d1,i1,l0,hn,if_pos ha];simp only[GMw,Aj,show((2:Nat):Int)=2 from rfl,d2,if_pos ha,hb]
theorem VaR {c d:Cl}(hc:c.ok)(hd:d.ok)(H:Aa):Ua1 (.agg (cCl c)) (.agg (cCl d)) H=some (.ret (.i6 (JY c d)),H):=by
 have e1:(H++[Blk.c0 (cCl c)]++[Blk.c0 (cCl d)])[H.length]? = some (.c0 (cCl c)):=by simp
 have e2:(H++[Blk.c0 (cCl c)]++[Blk.c0 (cCl d)])[(H++[Blk.c0 (cCl c)]).length]? = some (.c0 (cCl d)):=An;have hy:=λK=>Vow (hc.2.lb (by decide)) (hd.2.lb (by decide)) K;have hx:=λK=>Vow (hc.1.lb (by decide)) (hd.1.lb (by decide)) K;have hb:∀x y:Int,AN 1 [.i6 x,.i6 y]=some (.sl [[.i6 x],[.i6 y]] .ti):=λ_ _=>rfl;have fin:∀q:Int,rP H (.i6 q) (H++[Blk.c0 (cCl c)]++[Blk.c0 (cCl d)])=some (.ret (.i6 q),H):=λq=>by simp only[WD];exact It
 unfold Ua1;simp only[GMw,Vhc,Ae,W9,Nat.add_zero,JF e1,JF e2,JG e1,JG e2,B3,hy,hx,BF,and_true,hb,VnG,fin]
 rfl
theorem Ua {α:Type}{f:α->List Ab}{sz:Nat}[hf:Sz f sz][hp:Pl f]{H:Aa}{l:List α}{id b d cap k:Nat}{ex:Bool}(hg:AC H id 0=some (flat f l))(hi:b<=id)(hk:k<=l.length):HI H b (d+3) (.ms id 0 0 k cap sz ex)=some (.sl (enL f (l.take k)) .no):=by
 have h1:¬id<b:=by omega
 have h2:k*sz<=l.length*sz:=Xg _ hk;have h3:(l.take k).length=k:=by simp;omega
 have h4:=MZ (f:=f) (l.take k);rw[h3]at h4;unfold HI;simp only[frz,h1,if_false,hg,zXa,XP,W9,Fv,h2,if_true,NQ,HG (NR (f:=f) (l.take k)),PC (f:=f) (l.take k),h4,zXb,forget,ED,fgt]
theorem Qk (t:Nat):IntKind.u32.wrap (t:Int)=((t%4294967296:Nat):Int):=by simp only[IntKind.wrap,IntKind.bits,IntKind.signed];simp
theorem NX (t:Nat):Af .none .shr (.int .u64 (t:Int)) (.int .u64 32)=some (.int .u64 ((t / 4294967296:Nat):Int)):=by
 show some (Ab.int .u64 ((t:Int).fdiv 4294967296))=_;rw[Y4 _ (by decide)]
 rfl
theorem Vcs {x m c:Nat}(hx:x<4294967296)(hm:m<4294967296)(hc:c<4294967296):c+x*m<18446744073709551616:=by have h1:x*m<=4294967295*4294967295:=YF (by omega) (by omega);omega
theorem KH (x:Nat):val [x]=x:=by simp[val]
def Fc (l:zAb)(m c:Nat):Nat->zAb×Nat
 |0=>([],c)
 |i+1=>((Fc l m c i).1++[((Fc l m c i).2+l[i]?.getD 0*m)%4294967296],((Fc l m c i).2+l[i]?.getD 0*m) / 4294967296)
theorem VaV {l:zAb}{m c:Nat}(hx:Lim l)(hm:m<4294967296)(hc:c<4294967296):∀i,i<=l.length ->
  (Fc l m c i).1.length=i/\(Fc l m c i).2<4294967296/\Lim (Fc l m c i).1/\val (Fc l m c i).1+4294967296^i*(Fc l m c i).2=val (l.take i)*m+c
 |0,_=>⟨rfl,hc,λx h=>(by cases h),by simp[Fc,val]⟩
 |i+1,hi=>by
  obtain⟨h1,h2,h3,h4⟩:=VaV hx hm hc i (by omega);have aH:=hx _ (WI (show i<l.length by omega));have hg:l[i]?.getD 0=l[i]:=by rw[W4 (by omega)];rfl
  have ht:=Vcs aH hm h2;simp only[Fc,hg];refine⟨by simp[h1],?_,?_,?_⟩;omega;intro x lD;rcases WT.1 lD with h | h;exact h3 x h;rw[WR.1 h];exact XW _ (by decide);rw[WF (by omega),CC,CC,h1,WN,X4 (by omega)];have sJ:=Yt ((Fc l m c i).2+l[i]*m) 4294967296;simp only[val,Nat.mul_zero,Nat.add_zero];generalize ((Fc l m c i).2+l[i]*m) / 4294967296=q at *;generalize ((Fc l m c i).2+l[i]*m)%4294967296=r at *;rw[Nat.pow_succ,Yj,Xc,<-XE,show r+4294967296*q=(Fc l m c i).2+l[i]*m by omega,XE,Xr];rw[<-Xc,h4,Yj];omega
theorem Vpr {l:zAb}{tk:Tok}{m c:Nat}(H:Aa)(hx:Lim l)(hl:l.length<=1099511627776)(hm:m<4294967296)(hc:c<4294967296):UbL (.sl (enL cU l) tk) (.int .u32 (m:Int)) (.int .u32 (c:Int)) H=some (.ret (.sl (enL cU (AB (val l*m+c))) .no),H):=by
 unfold UbL;have hn:IntKind.i64.wrap ((l.length:Int)+1)=((l.length+1:Nat):Int):=by rw[Am]<;>omega
 have dC:=FB (f:=cU) (a:=0) (n:=l.length+1) (bytes:=4) (H:=H) (by omega) (by omega);simp only[show cU 0=[Ab.int .u32 0] from rfl]at dC;have hcc:AG .u64 (.int .u32 (c:Int))=some (.int .u64 (c:Int)):=by rw[Bx,Cz (by omega) (by omega)]
 have pP:AG .u64 (.int .u32 (m:Int))=some (.int .u64 (m:Int)):=by rw[Bx,Cz (by omega) (by omega)]
 simp only[GMw,Aw,hn,dC,hcc];refine Cx l.length (λi=>[.sl (enL cU l) tk,.int .u32 (m:Int),.ms H.length 0 0 (l.length+1) (l.length+1) 1 true,.int .u64 ((Fc l m c i).2:Int),.sl (enL cU l) tk,.i6 (l.length:Int),.i6 (i:Int)])
  (λi=>H++[.c0 (flat cU ((Fc l m c i).1++List.replicate (l.length+1-i) 0))]) _ (by omega) (λrec i hi=>?_) (λrec=>?_)
 ·obtain⟨h1,h2,h3,h4⟩:=VaV hx hm hc i (by omega);have aE:(i:Int)<(l.length:Int):=by omega
  have aH:=hx _ (WI hi);have hg:l[i]?.getD 0=l[i]:=by rw[W4 hi];rfl
  have ht:=Vcs aH hm h2;have hidx:=Db (sz:=1) (id:=H.length) (n:=l.length+1) (K:=.i64) (g:=0) (off:=0) (cap:=l.length+1) (ex:=true) (i:=i) (by omega);simp only[W9,WK]at hidx;obtain⟨t,htt⟩:∃t,t=(Fc l m c i).2+l[i]*m:=⟨_,rfl⟩;have hP:l[i]*m<=4294967295*4294967295:=YF (by omega) (by omega);have w1:AG .u64 (.int .u32 (l[i]:Int))=some (.int .u64 (l[i]:Int)):=by rw[Bx,Cz (by omega) (by omega)]
  have w2:IntKind.u64.wrap ((l[i]:Int)*(m:Int))=((l[i]*m:Nat):Int):=by rw[<-Int.natCast_mul,Cz (by omega) (by omega)]
  have w3:IntKind.u64.wrap (((Fc l m c i).2:Int)+((l[i]*m:Nat):Int))=(t:Int):=by rw[Cz]<;>omega
  have w4:AG .u32 (.int .u64 (t:Int))=some (.int .u32 ((t%4294967296:Nat):Int)):=by rw[Bx,Qk]
  have w5:Af .none .shr (.int .u64 (t:Int)) (.int .u64 32)=some (.int .u64 ((t / 4294967296:Nat):Int)):=NX t;have w6:IntKind.i64.wrap ((i:Int)+1)=((i+1:Nat):Int):=by rw[Am]<;>omega
  have hst:=Ee (f:=cU) (sz:=1) (l:=(Fc l m c i).1++List.replicate (l.length+1-i) 0) (i:=i) (a:=t%4294967296) (v:=.int .u32 ((t%4294967296:Nat):Int)) (H:=H++[Blk.c0 (flat cU ((Fc l m c i).1++List.replicate (l.length+1-i) 0))]) (id:=H.length) (Ax An) (by simp;omega) rfl;have aI:((Fc l m c i).1++List.replicate (l.length+1-i) 0).set i (t%4294967296)=(Fc l m c (i+1)).1++List.replicate (l.length+1-(i+1)) 0:=by rw[show l.length+1-i=(l.length+1-(i+1))+1 by omega,zXm,Xl _ _ (by omega),h1,Xi,List.set_cons_zero];simp[Fc,hg,<-htt]
  rw[WK,Bw An,Be,aI]at hst;unfold UdL;simp only[GMw,Aj,aE,Ay hi,A5,zXh,w1,pP,w2,w3,w4,hidx,hst,w5,w6];simp only[Fc,hg,<-htt]
 ·obtain⟨h1,h2,h3,h4⟩:=VaV hx hm hc l.length (W7 _);have hidx:=Db (sz:=1) (id:=H.length) (n:=l.length+1) (K:=.i64) (g:=0) (off:=0) (cap:=l.length+1) (ex:=true) (i:=l.length) (by omega);simp only[W9,WK]at hidx;have w4:AG .u32 (.int .u64 ((Fc l m c l.length).2:Int))=some (.int .u32 ((Fc l m c l.length).2:Int)):=by rw[Bx,D3 (by omega) (by omega)]
  have hst:=Ee (f:=cU) (sz:=1) (l:=(Fc l m c l.length).1++List.replicate (l.length+1-l.length) 0) (i:=l.length) (a:=(Fc l m c l.length).2) (v:=.int .u32 ((Fc l m c l.length).2:Int)) (H:=H++[Blk.c0 (flat cU ((Fc l m c l.length).1++List.replicate (l.length+1-l.length) 0))]) (id:=H.length) (Ax An) (by simp;omega) rfl;have aI:((Fc l m c l.length).1++List.replicate (l.length+1-l.length) 0).set l.length (Fc l m c l.length).2=(Fc l m c l.length).1++[(Fc l m c l.length).2]:=by
   rw[show l.length+1-l.length=1 by omega,Xl _ _ (by omega),h1,Xi]
   rfl
  rw[WK,Bw An,Be,aI]at hst;obtain⟨o,ho⟩:∃o,o=(Fc l m c l.length).1++[(Fc l m c l.length).2]:=⟨_,rfl⟩;have hol:o.length=l.length+1:=by rw[ho];simp[h1]
  have aL:Lim o:=by intro x lD;rw[ho]at lD;rcases WT.1 lD with h | h;exact h3 x h;rw[WR.1 h];exact h2
  have qT:val o=val l*m+c:=by rw[ho,CC,h1,KH];rw[Xu]at h4;exact h4
  rw[<-ho]at hst;have eO:=VhU (l:=o) (H:=H++[Blk.c0 (flat cU o)]) (id:=H.length) An (by omega);have htk:=Kj aL o.length (W7 _);rw[Xu,qT]at htk;have eC:=Ua (f:=cU) (sz:=1) (b:=H.length) (d:=5) (cap:=o.length) (ex:=true) (k:=HC o o.length) (l:=o) (H:=H++[Blk.c0 (flat cU o)]) (id:=H.length) (Ax An) (W7 _) (OY o _);rw[htk]at eC;rw[hol]at eO eC;unfold UdL;simp only[GMw,Aj,Xm,Aw,w4,hidx,hst,eO,C8,eC,zXb]
theorem N2 (b:zAb)(i:Nat):val (b.take (i+1))=val (b.take i)+4294967296^i*b[i]?.getD 0:=by rcases Xj i b.length with h | h;rw[WF h,CC,W4 h,WN,X4 (by omega)];simp[val];rw[WH (by omega),WH h,zYb h];simp
theorem Ky {b:zAb}(h:Lim b)(i:Nat):b[i]?.getD 0<4294967296:=by rcases Xj i b.length with q | q;rw[W4 q];exact h _ (WI q);rw[zYb q];decide
def ET (a b:zAb):Nat->zAb×Nat
 |0=>([],0)
 |i+1=>((ET a b i).1++[(a[i]?.getD 0+b[i]?.getD 0+(ET a b i).2)%4294967296],(a[i]?.getD 0+b[i]?.getD 0+(ET a b i).2) / 4294967296)
theorem VbG {a b:zAb}(ha:Lim a)(hb:Lim b):∀i,(ET a b i).1.length=i/\(ET a b i).2<=1/\Lim (ET a b i).1/\val (ET a b i).1+4294967296^i*(ET a b i).2=val (a.take i)+val (b.take i)
 |0=>⟨rfl,WZ _,λx h=>(by cases h),by simp[ET,val]⟩
 |i+1=>by obtain⟨h1,h2,h3,h4⟩:=VbG ha hb i;have g1:=Ky ha i;have g2:=Ky hb i;simp only[ET];refine⟨by simp[h1],by omega,?_,?_⟩;intro x hx;rcases WT.1 hx with h | h;exact h3 x h;rw[WR.1 h];exact XW _ (by decide);rw[N2,N2,CC,h1];have sJ:=Yt (a[i]?.getD 0+b[i]?.getD 0+(ET a b i).2) 4294967296;simp only[val,Nat.mul_zero,Nat.add_zero];generalize (a[i]?.getD 0+b[i]?.getD 0+(ET a b i).2) / 4294967296=q at *;generalize (a[i]?.getD 0+b[i]?.getD 0+(ET a b i).2)%4294967296=r at *;rw[Nat.pow_succ,Yj,Xc,<-XE,show r+4294967296*q=a[i]?.getD 0+b[i]?.getD 0+(ET a b i).2 by omega,XE,XE];omega
theorem Vlo {x y c:Nat}(hx:x<4294967296)(hy:y<4294967296)(hc:c<=1)(H:Aa):UbY (.int .u32 (x:Int)) (.int .u32 (y:Int)) (.int .u32 (c:Int)) H=some (.ret (.tup [.int .u32 (((x+y+c)%4294967296:Nat):Int),.int .u32 (((x+y+c) / 4294967296:Nat):Int)]),H):=by
 have w:∀n:Nat,n<4294967296->AG .u64 (.int .u32 (n:Int))=some (.int .u64 (n:Int)):=λn h=>by rw[Bx,Cz (by omega) (by omega)]
 have w1:IntKind.u64.wrap ((x:Int)+(y:Int))=((x+y:Nat):Int):=by rw[Cz]<;>omega
 have w2:IntKind.u64.wrap (((x+y:Nat):Int)+(c:Int))=((x+y+c:Nat):Int):=by rw[Cz]<;>omega
 have w4:AG .u32 (.int .u64 ((x+y+c:Nat):Int))=some (.int .u32 (((x+y+c)%4294967296:Nat):Int)):=by rw[Bx,Qk]
 have w5:=NX (x+y+c);have w6:AG .u32 (.int .u64 (((x+y+c) / 4294967296:Nat):Int))=some (.int .u32 (((x+y+c) / 4294967296:Nat):Int)):=by rw[Bx,D3 (by omega) (by omega)]
 unfold UbY;simp only[GMw,w x hx,w y hy,w c (by omega),w1,w2,w4,w5,w6]
theorem Vdl {H:Aa}{o:zAb}{v:Nat}(hol:o.length<1099511627780)(aL:Lim o)(qT:val o=v):(UaC (.ms H.length 0 0 o.length o.length 1 true) (H++[Blk.c0 (flat cU o)])).bind (λr=>match r.1 with | .ret x=>rPN H x r.2 | .pan x=>none)=some (.ret (.sl (enL cU (AB v)) .no),H):=by
 have eO:=VhU (l:=o) (H:=H++[Blk.c0 (flat cU o)]) (id:=H.length) An (by omega);have htk:=Kj aL o.length (W7 _);rw[Xu,qT]at htk;have hk:=OY o o.length;have eC:=Ua (f:=cU) (sz:=1) (d:=5) (cap:=o.length) (ex:=true) (Ax (An (cs:=flat cU o) (B:=H))) (W7 H.length) hk;rw[eO];simp only[zXa,C8];rw[eC,htk]
 rfl
theorem Vk1 {a b:zAb}{ta tb:Tok}(H:Aa)(ha:Lim a)(hb:Lim b)(hl:a.length<=1099511627776)(hle:b.length<=a.length):UdS H (.sl (enL cU a) ta) (.sl (enL cU b) tb) H=some (.ret (.sl (enL cU (AB (val a+val b))) .no),H):=by
 unfold UdS;have hn:IntKind.i64.wrap ((a.length:Int)+1)=((a.length+1:Nat):Int):=by rw[Am]<;>omega
 have dC:=FB (f:=cU) (a:=0) (n:=a.length+1) (bytes:=4) (H:=H) (by omega) (by omega);simp only[show cU 0=[Ab.int .u32 0] from rfl]at dC;simp only[GMw,Aw,hn,dC];refine Cx (G:=λaA vs H1=>UbZ H aA (ag vs 0) (ag vs 1) (ag vs 2) (ag vs 3) (ag vs 4) (ag vs 5) (ag vs 6) H1) a.length
  (λi=>[.sl (enL cU a) ta,.sl (enL cU b) tb,.ms H.length 0 0 (a.length+1) (a.length+1) 1 true,.int .u32 ((ET a b i).2:Int),.sl (enL cU a) ta,.i6 (a.length:Int),.i6 (i:Int)])
  (λi=>H++[.c0 (flat cU ((ET a b i).1++List.replicate (a.length+1-i) 0))]) _ (by omega) (λrec i hi=>?_) (λrec=>?_)
 ·obtain⟨h1,h2,h3,h4⟩:=VbG ha hb i;have d1:decide ((i:Int)<(a.length:Int))=true:=zXc (by omega);have aH:=ha _ (WI hi);have hg:a[i]?.getD 0=a[i]:=by rw[W4 hi];rfl
  have hidx:=Db (sz:=1) (id:=H.length) (n:=a.length+1) (K:=.i64) (g:=0) (off:=0) (cap:=a.length+1) (ex:=true) (i:=i) (by omega);simp only[W9,WK]at hidx;have w6:IntKind.i64.wrap ((i:Int)+1)=((i+1:Nat):Int):=by rw[Am]<;>omega
  have hst:=Ee (f:=cU) (sz:=1) (l:=(ET a b i).1++List.replicate (a.length+1-i) 0) (i:=i) (a:=(a[i]?.getD 0+b[i]?.getD 0+(ET a b i).2)%4294967296) (v:=.int .u32 (((a[i]?.getD 0+b[i]?.getD 0+(ET a b i).2)%4294967296:Nat):Int)) (H:=H++[Blk.c0 (flat cU ((ET a b i).1++List.replicate (a.length+1-i) 0))]) (id:=H.length) (Ax An) (by simp;omega) rfl;have aI:((ET a b i).1++List.replicate (a.length+1-i) 0).set i ((a[i]?.getD 0+b[i]?.getD 0+(ET a b i).2)%4294967296)=(ET a b (i+1)).1++List.replicate (a.length+1-(i+1)) 0:=by rw[show a.length+1-i=(a.length+1-(i+1))+1 by omega,zXm,Xl _ _ (by omega),h1,Xi,List.set_cons_zero];simp[ET]
  rw[WK,Bw An,Be,aI]at hst;rw[hg]at hst;have oO:=Ky hb i;have h32:=λK=>Vlo aH oO h2 K;have cQ:(ET a b (i+1)).2=(a[i]+b[i]?.getD 0+(ET a b i).2) / 4294967296:=by simp only[ET,hg]
  unfold UbZ Ue2;by_cases sD:i<b.length;have d2:decide ((i:Int)<(b.length:Int))=true:=zXc (by omega);have oG:b[i]?.getD 0=b[i]:=(by rw[W4 sD];rfl);rw[oG]at h32 hst cQ;simp only[Ao,Aj,Bf,Bj,B6,BQ,DI,GMw,d1,d2,Aw,Ay hi,Ay sD,A5,zXh,h32,B4,BE,hidx,hst,AM,w6,cQ];have d2:decide ((i:Int)<(b.length:Int))=false:=zXd (by omega);have oG:b[i]?.getD 0=0:=(by rw[zYb (by omega)];rfl);rw[oG]at h32 hst cQ;simp only[Int.natCast_zero]at h32;simp only[Ao,Aj,Bf,Bj,B6,BQ,DI,GMw,d1,d2,Aw,Ay hi,A5,zXh,h32,B4,BE,hidx,hst,AM,w6,cQ]
 ·obtain⟨h1,h2,h3,h4⟩:=VbG ha hb a.length;have d1:decide ((a.length:Int)<(a.length:Int))=false:=zXd (by omega);have hidx:=Db (sz:=1) (id:=H.length) (n:=a.length+1) (K:=.i64) (g:=0) (off:=0) (cap:=a.length+1) (ex:=true) (i:=a.length) (by omega);simp only[W9,WK]at hidx;have hst:=Ee (f:=cU) (sz:=1) (l:=(ET a b a.length).1++List.replicate (a.length+1-a.length) 0) (i:=a.length) (a:=(ET a b a.length).2) (v:=.int .u32 ((ET a b a.length).2:Int)) (H:=H++[Blk.c0 (flat cU ((ET a b a.length).1++List.replicate (a.length+1-a.length) 0))]) (id:=H.length) (Ax An) (by simp;omega) rfl;have aI:((ET a b a.length).1++List.replicate (a.length+1-a.length) 0).set a.length (ET a b a.length).2=(ET a b a.length).1++[(ET a b a.length).2]:=by
   rw[show a.length+1-a.length=1 by omega,Xl _ _ (by omega),h1,Xi]
   rfl
  rw[WK,Bw An,Be,aI]at hst;obtain⟨o,ho⟩:∃o,o=(ET a b a.length).1++[(ET a b a.length).2]:=⟨_,rfl⟩;have hol:o.length=a.length+1:=by rw[ho];simp[h1]
  have aL:Lim o:=by intro x lD;rw[ho]at lD;rcases WT.1 lD with h | h;exact h3 x h;rw[WR.1 h];omega
  have qT:val o=val a+val b:=by rw[ho,CC,h1,KH];rw[Xu,WH hle]at h4;exact h4
  rw[<-ho]at hst;have ht:=Vdl (H:=H) (o:=o) (by omega) aL qT;rw[hol]at ht;unfold UbZ;simp only[Ao,Aj,Bf,Bj,B6,BQ,DI,GMw,d1,Aw,hidx,hst,AM];have eO:=VhU (l:=o) (H:=H++[Blk.c0 (flat cU o)]) (id:=H.length) An (by omega);rw[hol]at eO;rw[eO]at ht⊢;simp only[zXa]at ht;simp only[GMw];exact ht
theorem VnF {a b:zAb}{ta tb:Tok}(H:Aa)(ha:Lim a)(hb:Lim b)(h1:a.length<=1099511627776)(h2:b.length<=1099511627776):Uca (.sl (enL cU a) ta) (.sl (enL cU b) tb) H=some (.ret (.sl (enL cU (AB (val a+val b))) .no),H):=by
 unfold Uca;by_cases h:a.length<b.length;have d1:decide ((a.length:Int)<(b.length:Int))=true:=zXc (by omega);simp only[GMw,Aw,d1];rw[Vk1 H hb ha h2 (by omega),Zf];have d1:decide ((a.length:Int)<(b.length:Int))=false:=zXd (by omega);simp only[GMw,Aw,d1];exact Vk1 H ha hb h1 (by omega)
theorem KD (a b:BitVec 32):IM .and .u32 (a.toNat:Int) (b.toNat:Int)=some (.int .u32 ((a &&& b).toNat:Int))/\IM .or .u32 (a.toNat:Int) (b.toNat:Int)=some (.int .u32 ((a ||| b).toNat:Int))/\IM .xor .u32 (a.toNat:Int) (b.toNat:Int)=some (.int .u32 ((a ^^^ b).toNat:Int)):=by
 have ho:∀v:BitVec 32,BitVec.ofInt 32 (v.toNat:Int)=v:=λv=>by rw[BitVec.ofInt_natCast,BitVec.ofNat_toNat,BitVec.setWidth_eq]
 have hw:∀v:BitVec 32,IntKind.u32.wrap (v.toNat:Int)=(v.toNat:Int):=λv=>by have:=v.isLt;rw[D3 (by omega) (by omega)]
 refine⟨?_,?_,?_⟩;show some (Ab.int .u32 (IntKind.u32.wrap (((BitVec.ofInt 32 (a.toNat:Int)) &&& (BitVec.ofInt 32 (b.toNat:Int))).toNat:Int)))=_;rw[ho,ho,hw];show some (Ab.int .u32 (IntKind.u32.wrap (((BitVec.ofInt 32 (a.toNat:Int)) ||| (BitVec.ofInt 32 (b.toNat:Int))).toNat:Int)))=_;rw[ho,ho,hw];show some (Ab.int .u32 (IntKind.u32.wrap (((BitVec.ofInt 32 (a.toNat:Int)) ^^^ (BitVec.ofInt 32 (b.toNat:Int))).toNat:Int)))=_;rw[ho,ho,hw]
theorem Vlt (a:BitVec 32):unA .xor (.int .u32 (a.toNat:Int))=some (.int .u32 ((~~~a).toNat:Int)):=by
 have h:=(KD (BitVec.allOnes 32) a).2.2;have e:((BitVec.allOnes 32).toNat:Int)=4294967295:=by decide
 rw[e]at h;have hn : ~~~a=BitVec.allOnes 32 ^^^ a:=BitVec.allOnes_xor.symm;rw[hn];exact h
theorem Vlx (v:BitVec 32):Af .none .shr (.int .u32 (v.toNat:Int)) (.int .u64 31)=some (.int .u32 ((if v.msb then 1 else 0:Nat):Int)):=by
 have hs:Af .none .shr (.int .u32 (v.toNat:Int)) (.int .u64 31)=some (.int .u32 (Int.fdiv (v.toNat:Int) (2^(min (31:Int).toNat IntKind.u32.bits)))):=rfl;have hlt:=v.isLt;rw[hs,show(2:Int)^(min (31:Int).toNat IntKind.u32.bits)=2147483648 from by decide,Y4 _ (by omega)]
 congr 2
 rw[YL];by_cases h:2147483648<=v.toNat;have:decide (2^(32-1)<=v.toNat)=true:=zXc (by omega);rw[this];simp only[if_true];omega;have:decide (2^(32-1)<=v.toNat)=false:=zXd (by omega);rw[this];simp only[WB,if_false];omega
theorem Nv (op:BinOp)(aF:DB op=false)(a b:Int)(hb:∀k x y,FR op k x y=IM op k x y):Af .none op (.int .u32 a) (.int .u32 b)=IM op .u32 a b:=by show(if DB op then _ else if IntKind.u32=IntKind.u32 then FR op .u32 a b else none)=_;rw[aF,if_neg (by decide),if_pos rfl,hb]
theorem Vlj {x y c:Nat}(hx:x<4294967296)(hy:y<4294967296)(hc:c<=1)(H:Aa):UaR (.int .u32 (x:Int)) (.int .u32 (y:Int)) (.int .u32 (c:Int)) H =
  some (.ret (.tup [.int .u32 (((x+4294967296-y-c)%4294967296:Nat):Int),.int .u32 ((if x<y+c then 1 else 0:Nat):Int)]),H):=by
 obtain⟨a,ha⟩:∃a:BitVec 32,a.toNat=x:=⟨BitVec.ofNat 32 x,by rw[Yo];omega⟩;obtain⟨b,hb⟩:∃b:BitVec 32,b.toNat=y:=⟨BitVec.ofNat 32 y,by rw[Yo];omega⟩;obtain⟨d,hd⟩:∃d:BitVec 32,d.toNat=(x+4294967296-y-c)%4294967296:=⟨BitVec.ofNat 32 ((x+4294967296-y-c)%4294967296),by rw[Yo];omega⟩;have tC:∀z:Int,IntKind.u32.wrap z=z%4294967296:=λz=>by simp only[IntKind.wrap,IntKind.bits,IntKind.signed];simp
 have w1:IntKind.u32.wrap (IntKind.u32.wrap ((x:Int)-(y:Int))-(c:Int))=(d.toNat:Int):=by rw[tC,tC,hd];omega
 have e1:∀p q:BitVec 32,Af .none .and (.int .u32 (p.toNat:Int)) (.int .u32 (q.toNat:Int))=some (.int .u32 ((p &&& q).toNat:Int)):=λp q=>by rw[Nv .and rfl _ _ (λ_ _ _=>rfl)];exact(KD p q).1
 have e2:∀p q:BitVec 32,Af .none .or (.int .u32 (p.toNat:Int)) (.int .u32 (q.toNat:Int))=some (.int .u32 ((p ||| q).toNat:Int)):=λp q=>by rw[Nv .or rfl _ _ (λ_ _ _=>rfl)];exact(KD p q).2.1
 have e3:∀p q:BitVec 32,Af .none .xor (.int .u32 (p.toNat:Int)) (.int .u32 (q.toNat:Int))=some (.int .u32 ((p ^^^ q).toNat:Int)):=λp q=>by rw[Nv .xor rfl _ _ (λ_ _ _=>rfl)];exact(KD p q).2.2
 have hm:(if ((~~~a &&& b) ||| (~~~(a ^^^ b) &&& d)).msb then 1 else 0:Nat)=if x<y+c then 1 else 0:=by rw[BitVec.msb_or,BitVec.msb_and,BitVec.msb_and,BitVec.msb_not,BitVec.msb_not,BitVec.msb_xor,YL a,YL b,YL d,ha,hb,hd];have q1:decide (2^(32-1)<=x)=decide (2147483648<=x):=rfl;have q2:decide (2^(32-1)<=y)=decide (2147483648<=y):=rfl;have q3:decide (2^(32-1)<=(x+4294967296-y-c)%4294967296)=decide (2147483648<=(x+4294967296-y-c)%4294967296):=rfl;rw[q1,q2,q3];by_cases c1:2147483648<=x<;>by_cases c2:2147483648<=y<;>by_cases c3:2147483648<=(x+4294967296-y-c)%4294967296<;>simp only[c1,c2,c3,decide_true,decide_false]<;>(first | (rw[if_pos (by decide),if_pos (by omega)]) | (rw[if_neg (by decide),if_neg (by omega)]))
 unfold UaR;simp only[GMw,w1];rw[<-ha,<-hb];simp only[GMw,Vlt,e1,e2,e3,Vlx,BA];rw[hm,hd,ha,hb]
theorem VhS {l:zAb}{H:Aa}{id k:Nat}{ex:Bool}(hg:AC H id 0=some (flat cU l))(hk:k<=l.length)(hl:l.length<9223372036854775807):UeM (.ms id 0 0 k l.length 1 ex) H=some (.ret (.bool (decide (k=0)||decide (l[k-1]?.getD 0≠0))),H):=by
 unfold UeM;cases k with
 |zero=>simp[A7]
 |succ k=>
  have hidx:=Db (sz:=1) (id:=id) (n:=k+1) (K:=.i64) (g:=0) (off:=0) (cap:=l.length) (ex:=ex) (i:=k) (by omega);simp only[W9,WK]at hidx;have hld:=ID (f:=cU) (id:=id) (l:=l) (H:=H) hg (i:=k) (by omega);have h0:¬((k+1:Nat):Int)=0:=by omega
  have hw:IntKind.i64.wrap (((k+1:Nat):Int)-1)=(k:Int):=by rw[Am]<;>omega
  have wE:l[k]? = some l[k]:=W4 (by omega);simp only[show A7 (.ms id 0 0 (k+1) l.length 1 ex)=some (.i6 ((k+1:Nat):Int)) from rfl,GMw,h0,hw,hidx,hld,WQ,wE,Option.getD_some,Yy];by_cases h:l[k]=0;simp[h];have:¬(l[k]:Int)=0:=(by omega);simp[h,this]
theorem VjQ {l:zAb}{H:Aa}{id:Nat}{ex:Bool}(hg:AC H id 0=some (flat cU l))(hl:l.length<1152921504606846976):UaC (.ms id 0 0 l.length l.length 1 ex) H=some (.ret (.ms id 0 0 (HC l l.length) l.length 1 ex),H):=by
 unfold UaC;refine Bv (σ:=Nat) (λk=>k<=l.length/\HC l k=HC l l.length) (λk=>[.ms id 0 0 k l.length 1 ex]) (λ_=>H) (λk=>k) (λ_=>some (.ret (.ms id 0 0 (HC l l.length) l.length 1 ex),H)) (λk rec hi hrec=>?_) l.length ⟨W7 _,rfl⟩ (by omega);obtain⟨hk,ht⟩:=hi;unfold Uaf;simp only[Ao,VhS hg hk (by omega),GMw];cases k with
 |zero=>simp[<-ht,HC,rKN,fin,forget,ED,fgt]
 |succ k=>by_cases h:l[k]?.getD 0=0;have hw:IntKind.i64.wrap (((k+1:Nat):Int)-1)=(k:Int):=(by rw[Am]<;>omega);have hsl:B5 1 (.ms id 0 0 (k+1) l.length 1 ex) none (some (.i6 (k:Int))) none=some (.ms id 0 0 k l.length 1 ex):=(by have:(0:Int)<=(k:Int):=(by omega);simp only[B5,B2,zXa,this,if_true,zXl];rw[if_pos ⟨trivial,by omega,by omega,by omega⟩];simp);have dZ:HC l k=HC l l.length:=(by rw[<-ht];simp[HC,h]);have hr:=hrec k ⟨by omega,dZ⟩ (by omega);simp only[h,show A7 (.ms id 0 0 (k+1) l.length 1 ex)=some (.i6 ((k+1:Nat):Int)) from rfl,GMw,hw,hsl,WQ,ne_eq,not_true_eq_false,Yy];exact hr;have dZ:HC l (k+1)=k+1:=(by simp[HC,h]);have hr:(decide (k+1=0)||decide (l[k+1-1]?.getD 0≠0))=true:=(by simp[h]);simp only[hr,GMw,Ez,forget,ED,fgt];rw[<-ht,dZ]
theorem VgO (l:zAb)(tk:Tok)(H:Aa)(hl:l.length<=1099511627776):UaQ (.sl (enL cU l) tk) H=some (if l=[]then (.ret (.sl [] .ti),H)else (.ret (.ms H.length 0 0 l.length l.length 1 false),H++[.buf 0 (flat cU l) Co 1])):=by
 have hb:AN 1 []=some (.sl [] .ti):=rfl;unfold UaQ;cases l with
 |nil=>have ha:Gw Co 1 4 (.sl [] .ti) (.sl (enL cU []) tk) H=some (.sl [] .ti,H):=rfl;have hn:Sa .eql (.sl (enL cU []) tk)=some .ubool:=rfl;have hu:∀x:Out,Ak .ubool x x=x:=λx=>if_pos rfl;simp only[hn,GMw,hb,ha];exact hu _
 |cons c l=>
  have hn:Sa .eql (.sl (enL cU (c::l)) tk)=some (.bool false):=rfl;have ha:Gw Co 1 4 (.sl [] .ti) (.sl (enL cU (c::l)) tk) H=some (.ms H.length 0 0 (c::l).length (c::l).length 1 false,H++[.buf 0 (flat cU (c::l)) Co 1]):=by
   have he:Cu 1 (.sl (enL cU (c::l)) tk) H=some (enL cU (c::l)):=PM;have hlen:(enL cU (c::l)).length=(c::l).length:=(by simp[enL]);unfold Gw;rw[he];simp only[zXa];unfold IT;rw[hlen,if_neg (by simp)];simp only[zXk,W9,List.all_nil,List.nil_append];rw[if_pos ⟨trivial,by omega,by omega⟩]
   rfl
  simp only[hn,GMw,hb,ha];rw[if_neg (by simp)]
def dgS (x y c:Nat):Nat:=(x+4294967296-y-c)%4294967296
def bwS (x y c:Nat):Nat:=if x<y+c then 1 else 0
theorem Vme {P W x y c:Nat}(h:x<y+c)(hy:y+c<=x+W):P*(x+W-y-c)+P*y+P*c=P*x+P*W:=by rw[<-XE,<-XE,<-XE,show x+W-y-c+y+c=x+W by omega]
theorem Vmd {P x y c:Nat}(h:y+c<=x):P*(x-y-c)+P*y+P*c=P*x:=by rw[<-XE,<-XE,show x-y-c+y+c=x by omega]
theorem Vmb {W x y c:Nat}(hx:x<W)(hy:y<W)(hc:c<=1):(x+W-y-c)%W=if x<y+c then x+W-y-c else x-y-c:=by by_cases h:x<y+c;rw[if_pos h,X9 (by omega)];rw[if_neg h,show x+W-y-c=(x-y-c)+W by omega,Nat.add_mod_right,X9 (by omega)]
theorem Vmc {v1 v2 u P Q W x y c d r:Nat}(h4:v1+v2=u+P*c)(hQ:Q=P*W)(hr:r=if x<y+c then x+W-y-c else x-y-c)(hd:d=if x<y+c then 1 else 0)(hy:y+c<=x+W):v1+P*r+(v2+P*y)=u+P*x+Q*d:=by by_cases h:x<y+c;rw[if_pos h]at hr hd;have:=Vme (P:=P) h hy;rw[hr,hd,hQ,WK];omega;rw[if_neg h]at hr hd;have:=Vmd (P:=P) (show y+c<=x by omega);rw[hr,hd,Nat.mul_zero];omega
theorem VpE {x y c:Nat}(hx:x<4294967296)(hy:y<4294967296)(hc:c<=1):dgS x y c=if x<y+c then x+4294967296-y-c else x-y-c:=Vmb hx hy hc
theorem VpD (x y c:Nat):dgS x y c<4294967296:=XW _ (by decide)
theorem VpI (x y c:Nat):bwS x y c<=1:=by unfold bwS;split<;>omega
def FS (a b:zAb):Nat->zAb×Nat
 |0=>([],0)
 |i+1=>((FS a b i).1++[dgS (a[i]?.getD 0) (b[i]?.getD 0) (FS a b i).2],bwS (a[i]?.getD 0) (b[i]?.getD 0) (FS a b i).2)
theorem Vbt {a b:zAb}(ha:Lim a)(hb:Lim b):∀i,(FS a b i).1.length=i/\(FS a b i).2<=1/\Lim (FS a b i).1/\val (FS a b i).1+val (b.take i)=val (a.take i)+4294967296^i*(FS a b i).2
 |0=>⟨rfl,WZ _,λx h=>(by cases h),by simp[FS,val]⟩
 |i+1=>by obtain⟨h1,h2,h3,h4⟩:=Vbt ha hb i;have g1:=Ky ha i;have g2:=Ky hb i;simp only[FS];refine⟨by simp[h1],VpI _ _ _,?_,?_⟩;intro x hx;rcases WT.1 hx with h | h;exact h3 x h;rw[WR.1 h];exact VpD _ _ _;rw[N2,N2,CC,h1,KH];exact Vmc h4 (Nat.pow_succ _ _) (VpE g1 g2 h2) rfl (WV (Nat.add_le_add (Nat.le_of_lt_succ g2) h2) (Nat.le_add_left _ _))
theorem Vgo {α:Type}{f:α->List Ab}{sz:Nat}[hf:Sz f sz][hp:Pl f]{H:Aa}{l:List α}{id b d cap k:Nat}{ex:Bool}(hg:AC H id 0=some (flat f l))(hi:b<=id)(hk:k<=l.length):Ft H b (d+3) (.ms id 0 0 k cap sz ex)=some (.sl (enL f (l.take k)) .no):=by
 have h1:¬id<b:=by omega
 have h2:k*sz<=l.length*sz:=Xg _ hk;have h3:(l.take k).length=k:=by simp;omega
 have h4:=MZ (f:=f) (l.take k);rw[h3]at h4;unfold Ft;simp only[frz,h1,if_false,hg,zXa,XP,W9,Fv,h2,if_true,NQ,HG (NR (f:=f) (l.take k)),PC (f:=f) (l.take k),h4,zXb,ED,fgt]
theorem G8 {l:zAb}(h:Lim l):val l<4294967296^l.length:=by
 induction l with
 |nil=>simp[val]
 |cons x l ih=>have h1:=h x (by simp);have h2:=ih λy hy=>h y (by simp[hy]);have e:val (x::l)=x+4294967296*val l:=rfl;rw[e,zXj,Nat.pow_succ,XG _ 4294967296];have:4294967296*(val l+1)<=4294967296*4294967296^l.length:=XH _ h2;rw[XE]at this;omega
theorem VgD (H:Aa)(tk:Tok):UaC (.sl [] tk) H=some (.ret (.sl [] .no),H):=by
 have hr:UeM (.sl [] tk) H=some (.ret (.bool true),H):=by unfold UeM;simp[A7]
 unfold UaC;rw[Eg Fr];unfold Uaf;simp only[Ao,GMw,hr,Ez,forget,ED,fgt]
theorem Vn7 {a b:zAb}{ta tb:Tok}(H:Aa)(ha:Lim a)(hb:Lim b)(hl:a.length<=1099511627776)(hle:b.length<=a.length)(hv:val b<=val a):Ucb (.sl (enL cU a) ta) (.sl (enL cU b) tb) H=some (.ret (.tup [.sl (enL cU (AB (val a-val b))) .no,.bool true]),H):=by
 have dX:=λK=>PT (t:=ta) (t':=tb) K ha hb hl (by omega);have lL:decide (FT (val a:Int) (val b:Int)<0)=false:=by rw[Gt];exact zXd (by omega)
 have aG:=VgO a ta H hl;unfold Ucb;by_cases h0:a=[]
 ·subst h0;rw[if_pos rfl]at aG;have sR:b=[]:=WM (by simpa using hle);subst sR;have hlen:A7 (.sl [] .ti)=some (.i6 0):=rfl;have d0:decide ((0:Int)<0)=false:=rfl;have e0:AB (val []-val [])=[]:=ER;simp only[GMw,dX,lL,aG,hlen];rw[Eg Fr];unfold UaS;simp only[Ao,Aj,Bf,Bj,B6,BQ,GMw,d0,VgD,M9,Cs,By,BB,Jp,Fs,zXb,e0]
  rfl
 ·rw[if_neg h0]at aG;have hlen:A7 (.ms H.length 0 0 a.length a.length 1 false)=some (.i6 (a.length:Int)):=rfl;simp only[GMw,dX,lL,aG,hlen];refine Cx (G:=λrec1 vs H1=>UaS H rec1 (ag vs 0) (ag vs 1) (ag vs 2) (ag vs 3) (ag vs 4) H1) a.length
   (λi=>[.sl (enL cU b) tb,.ms H.length 0 0 a.length a.length 1 false,.int .u32 ((FS a b i).2:Int),.i6 (a.length:Int),.i6 (i:Int)])
   (λi=>H++[.buf 0 (flat cU ((FS a b i).1++a.drop i)) Co 1]) _ (by omega) (λrec i hi=>?_) (λrec=>?_)
  obtain⟨h1,h2,h3,h4⟩:=Vbt ha hb i;have d1:decide ((i:Int)<(a.length:Int))=true:=zXc (by omega);have aH:=ha _ (WI hi);have hg:a[i]?.getD 0=a[i]:=(by rw[W4 hi];rfl);have hidx:=Db (sz:=1) (id:=H.length) (n:=a.length) (K:=.i64) (g:=0) (off:=0) (cap:=a.length) (ex:=false) (i:=i) hi;simp only[W9,WK]at hidx;have iZ:AC (H++[Blk.buf 0 (flat cU ((FS a b i).1++a.drop i)) Co 1]) H.length 0=some (flat cU ((FS a b i).1++a.drop i)):=(by simp[AC]);have hil:i<((FS a b i).1++a.drop i).length:=(by rw[WC,h1,WS];omega);have oJ:((FS a b i).1++a.drop i)[i]=a[i]:=(by rw[XA (by omega)];simp only[h1,Xi];rw[Y3];rfl);have hld:=ID (f:=cU) iZ hil;rw[oJ]at hld;have w6:IntKind.i64.wrap ((i:Int)+1)=((i+1:Nat):Int):=(by rw[Am]<;>omega);have hst:=Ee (f:=cU) (sz:=1) (a:=dgS (a[i]?.getD 0) (b[i]?.getD 0) (FS a b i).2) (v:=.int .u32 (dgS (a[i]?.getD 0) (b[i]?.getD 0) (FS a b i).2:Int)) iZ hil rfl;have aI:((FS a b i).1++a.drop i).set i (dgS (a[i]?.getD 0) (b[i]?.getD 0) (FS a b i).2)=(FS a b (i+1)).1++a.drop (i+1):=(by rw[Xl _ _ (by omega),h1,Xi,Xb hi,List.set_cons_zero];simp only[FS,WD,List.cons_append,List.nil_append]);have zX:∀cs,Ga (H++[Blk.buf 0 (flat cU ((FS a b i).1++a.drop i)) Co 1]) H.length 0 cs=H++[Blk.buf 0 cs Co 1]:=λcs=>(by simp[Ga]);rw[WK,zX,aI]at hst;rw[hg]at hst;have oO:=Ky hb i;have h32:∀K,UaR (.int .u32 (a[i]:Int)) (.int .u32 ((b[i]?.getD 0:Nat):Int)) (.int .u32 ((FS a b i).2:Int)) K=some (.ret (.tup [.int .u32 (dgS a[i] (b[i]?.getD 0) (FS a b i).2:Int),.int .u32 (bwS a[i] (b[i]?.getD 0) (FS a b i).2:Int)]),K):=λK=>Vlj aH oO h2 K;have cQ:(FS a b (i+1)).2=bwS a[i] (b[i]?.getD 0) (FS a b i).2:=(by simp only[FS,hg]);unfold UaS Ue3;by_cases sD:i<b.length;have d2:decide ((i:Int)<(b.length:Int))=true:=zXc (by omega);have oG:b[i]?.getD 0=b[i]:=(by rw[W4 sD];rfl);rw[oG]at h32 hst cQ;simp only[Ao,Aj,Bf,Bj,B6,BQ,DI,GMw,d1,d2,Aw,Ay sD,A5,zXh,hidx,hld,h32,B4,BE,hst,AM,w6,cQ];have d2:decide ((i:Int)<(b.length:Int))=false:=zXd (by omega);have oG:b[i]?.getD 0=0:=(by rw[zYb (by omega)];rfl);rw[oG]at h32 hst cQ;simp only[Int.natCast_zero]at h32;simp only[Ao,Aj,Bf,Bj,B6,BQ,DI,GMw,d1,d2,Aw,zXh,hidx,hld,h32,B4,BE,hst,AM,w6,cQ];obtain⟨h1,h2,h3,h4⟩:=Vbt ha hb a.length;have d1:decide ((a.length:Int)<(a.length:Int))=false:=zXd (by omega);rw[Xu,WH hle]at h4;have hlt:=G8 h3;rw[h1]at hlt;have wQ:(FS a b a.length).2=0:=(by rcases XN (FS a b a.length).2 with q | q;exact q;have:(FS a b a.length).2=1:=(by omega);rw[this,WK]at h4;omega);rw[wQ,Nat.mul_zero]at h4;rw[Z7,WU];obtain⟨o,ho⟩:∃o,o=(FS a b a.length).1:=⟨_,rfl⟩;rw[<-ho]at h1 h3 h4⊢;have iZ:AC (H++[Blk.buf 0 (flat cU o) Co 1]) H.length 0=some (flat cU o):=(by simp[AC]);have eO:=VjQ (ex:=false) iZ (by omega);have htk:=Kj h3 o.length (W7 _);rw[Xu,show val o=val a-val b by omega]at htk;have eC:=Vgo (f:=cU) (sz:=1) (d:=3) (cap:=o.length) (ex:=false) iZ (W7 H.length) (OY o o.length);rw[htk]at eC;rw[h1]at eO eC;unfold UaS;simp only[Ao,Aj,Bf,Bj,B6,BQ,GMw,d1,eO,C8,Cs,By,BB,Fs,eC,zXb,BA]
theorem ME (neg:Bool)(n:Nat)(tk:Tok)(H:Aa):UeK (.bool neg) (.sl (enL cU (AB n)) tk) H=some (.ret (big (if neg then -(n:Int)else n)),H):=by unfold UeK big;rw[<-Vb3];have hp:=RI n;cases neg with|false=>simp[A6,GF,D7,sgn,Cb]|true=>simp only[Hu,Cg,zXa,Aw,DF,hp,sgn,zXn,alloc_eq (cs:=[.bool false,.sl [] .ti]) rfl,Br];simp[A6,GF,D7,Cb]
theorem Vf0 (z:Int)(H:Aa):Ubd (big z) H=some (.ret (big (-z)),H):=by
 have e:(if (!decide (z<0))=true then -(z.natAbs:Int)else (z.natAbs:Int)) = -z:=by by_cases h:z<0;rw[zXc h,Xo,if_neg (by decide)];omega;rw[zXd h,X2,if_pos rfl];omega
 have ez:∀K,UeK (.bool (!decide (z<0))) (.sl (enL cU (AB z.natAbs)) .no) K=some (.ret (big (-z)),K):=λK=>by rw[ME,e]
 unfold Ubd;simp[DA,ez]
theorem Vk7 {n:Int}(h0:-9223372036854775808<=n)(h:n<0):unA .neg (.int .u64 (IntKind.u64.wrap n))=some (.int .u64 (n.natAbs:Int)):=by
 have w:IntKind.u64.wrap (0-IntKind.u64.wrap n)=(n.natAbs:Int):=by rw[Ki (n:=n) (by omega) h,Ki (by omega) (by omega)];omega
 rw[show unA .neg (.int .u64 (IntKind.u64.wrap n))=some (.int .u64 (IntKind.u64.wrap (0-IntKind.u64.wrap n))) from rfl,w]
theorem VnA {l:zAb}{tk:Tok}(H:Aa)(hx:Lim l)(hl:l.length<=1099511627776):UbX (.sl (enL cU l) tk) H=some (.ret (.sl (enL cU (AB (val l))) .no),H):=by
 have aG:=VgO l tk H hl;unfold UbX;by_cases h0:l=[];subst h0;rw[if_pos rfl,Ia]at aG;rw[Ia];simp only[GMw,aG,VgD,M9,show val []=0 from rfl,ER,HZ,zXb,Ia]
 ·rw[if_neg h0]at aG;have iZ:AC (H++[Blk.buf 0 (flat cU l) Co 1]) H.length 0=some (flat cU l):=by simp[AC]
  have eO:=VjQ (ex:=false) iZ (by omega);have htk:=Kj hx l.length (W7 _);rw[Xu]at htk;have eC:=Ua (f:=cU) (sz:=1) (d:=5) (cap:=l.length) (ex:=false) iZ (W7 H.length) (OY l l.length);rw[htk]at eC;simp only[GMw,aG,eO,C8,eC]
  rfl
theorem Vpw (n:Int)(H:Aa)(h0:-9223372036854775808<=n)(h1:n<=9223372036854775807):Uah (.i6 n) H=some (.ret (big n),H):=by
 obtain⟨u,hu⟩:∃u:Nat,u=n.natAbs:=⟨_,rfl⟩;have hlim:Lim [u%4294967296,u / 4294967296]:=λx hx=>by simp at hx;rcases hx with rfl | rfl<;>omega
 have bJ:val [u%4294967296,u / 4294967296]=u:=by simp[val];omega
 have ez:(if decide (n<0)=true then -(u:Int)else (u:Int))=n:=by by_cases h:n<0<;>simp[h]<;>omega
 have vE:=λH=>VnA (l:=[u%4294967296,u / 4294967296]) (tk:=.ti) H hlim (by simp);rw[bJ]at vE;have a1:=λH=>ME (decide (n<0)) u .no H;rw[ez]at a1;have e3:AG .u32 (.int .u64 (u:Int))=some (.int .u32 ((u%4294967296:Nat):Int)):=by rw[Bx,Qk]
 have e2:=NX u;have e4:AG .u32 (.int .u64 ((u / 4294967296:Nat):Int))=some (.int .u32 ((u / 4294967296:Nat):Int)):=by rw[Bx,D3 (by omega) (by omega)]
 have j1:UdR H (.i6 n) (.ptr H.length 0 0) (.int .u64 (u:Int)) (H++[.c0 [.bool false,.sl [] .ti]])=some (.ret (big n),H):=by unfold UdR;simp only[Bn,zXa,e3,e2,e4,Vdf,vE,a1,CQ];simp
 unfold Uah;simp only[alloc_eq (cs:=[.bool false,.sl [] .ti]) rfl,Br,Bx,zXa,AJ,Bn,Ao,Bf,Bj];by_cases h:n<0;have un:=Vk7 h0 h;rw[<-hu]at un;rw[zXc h];simp only[AZ,un,zXa,Ao,Bf,Bj];exact j1
 ·have w:IntKind.u64.wrap n=(u:Int):=by rw[Cz (by omega) (by omega)];omega
  rw[zXd h];simp only[AL,w,Ao,Bf,Bj];exact j1
theorem NJ {m n:Nat}(h:m<=n):(AB m).length<=(AB n).length:=by refine Fm ?_;have:=G8 (Bz n);rw[B9]at this;omega
theorem Vck {a b:Int}(H:Aa)(ha:LB a)(hb:LB b):UeN (big a) (big b) H=some (.ret (big (a+b)),H):=by
 have sg:∀(neg:Bool)(m:Nat)(z:Int)(tk:Tok)(K:Aa),(if neg then -(m:Int)else (m:Int))=z->UeK (.bool neg) (.sl (enL cU (AB m)) tk) K=some (.ret (big z),K):=λneg m z tk K h=>by rw[ME,h]
 unfold LB at ha hb;have aW:=λK=>VnF (ta:=.no) (tb:=.no) K (Bz a.natAbs) (Bz b.natAbs) (by omega) (by omega);have dX:=λK=>PT (t:=.no) (t':=.no) K (Bz a.natAbs) (Bz b.natAbs) (by omega) (by omega);simp only[B9]at aW dX;unfold UeN;by_cases hn:decide (a<0)=decide (b<0)
 ·have ez:(if decide (a<0)=true then -((a.natAbs+b.natAbs:Nat):Int)else ((a.natAbs+b.natAbs:Nat):Int))=a+b:=by by_cases h1:a<0;have h2:b<0:=(by rw[zXc h1]at hn;exact of_decide_eq_true hn.symm);rw[zXc h1,if_pos rfl];omega;have h2:¬b<0:=(by rw[zXd h1]at hn;exact of_decide_eq_false hn.symm);rw[zXd h1,if_neg (by decide)];omega
  have hbb:(decide (a<0)==decide (b<0))=true:=by rw[hn];exact beq_self_eq_true _
  simp only[DA,Br,WD,List.singleton_append];simp[Xc,DA,Jz,hbb,B3,aW,sg _ _ _ _ _ ez]
 ·have hbb:(decide (a<0)==decide (b<0))=false:=by rw[beq_eq_false_iff_ne];exact hn
  by_cases hv:a.natAbs<b.natAbs
  ·have gF:=λK=>Vn7 (ta:=.no) (tb:=.no) K (Bz b.natAbs) (Bz a.natAbs) (by omega) (NJ (by omega)) (by rw[B9,B9];omega);simp only[B9]at gF;have hlt:decide (FT (a.natAbs:Int) (b.natAbs:Int)<0)=true:=(by rw[Gt];exact zXc (by omega));have ez:(if decide (b<0)=true then -((b.natAbs-a.natAbs:Nat):Int)else ((b.natAbs-a.natAbs:Nat):Int))=a+b:=(by by_cases h1:b<0;have h2:¬a<0:=λh=>hn (by rw[zXc h1,zXc h]);rw[zXc h1,if_pos rfl];omega;have h2:a<0:=(by rcases Int.lt_or_le a 0 with h | h;exact h;exact(hn (by rw[zXd h1,zXd (by omega)])).elim);rw[zXd h1,if_neg (by decide)];omega);have c0:=AZ;simp only[DA,Br,WD,List.singleton_append];unfold UdT;simp[Xc,DA,Jz,hbb,B3,dX,hlt,gF,sg _ _ _ _ _ ez,AJ,B4,BE]
  ·have gF:=λK=>Vn7 (ta:=.no) (tb:=.no) K (Bz a.natAbs) (Bz b.natAbs) (by omega) (NJ (by omega)) (by rw[B9,B9];omega);simp only[B9]at gF;have hlt:decide (FT (a.natAbs:Int) (b.natAbs:Int)<0)=false:=(by rw[Gt];exact zXd (by omega));have ez:(if decide (a<0)=true then -((a.natAbs-b.natAbs:Nat):Int)else ((a.natAbs-b.natAbs:Nat):Int))=a+b:=(by by_cases h1:a<0;have h2:¬b<0:=λh=>hn (by rw[zXc h1,zXc h]);rw[zXc h1,if_pos rfl];omega;have h2:b<0:=(by rcases Int.lt_or_le b 0 with h | h;exact h;exact(hn (by rw[zXd h1,zXd (by omega)])).elim);rw[zXd h1,if_neg (by decide)];omega);simp only[DA,Br,WD,List.singleton_append];unfold UdT;simp[Xc,DA,Jz,hbb,B3,dX,hlt,gF,sg _ _ _ _ _ ez,AJ,B4,BE]
theorem Vn6 {a b:Int}(H:Aa)(ha:LB a)(hb:LB b):Ucq (big a) (big b) H=some (.ret (big (a-b)),H):=by unfold Ucq;simp only[DA,Br,WD,List.singleton_append];simp[Xc,DA,B3,Vf0,Vck _ ha hb.neg,Int.sub_eq_add_neg]
theorem VjX {x y:Nat}(hx:x<4294967296)(hy:y<4294967296):Af .none .or (.int .u32 (x:Int)) (.int .u32 (y:Int))=some (.int .u32 ((x ||| y:Nat):Int)):=by have h:=(KD (BitVec.ofNat 32 x) (BitVec.ofNat 32 y)).2.1;rw[BitVec.toNat_or,Yo,Yo,X9 hx,X9 hy]at h;rw[Nv .or rfl _ _ (λ_ _ _=>rfl)];exact h
theorem VeE {K:IntKind}{r:Nat}(h:r<32)(hw:K.wrap ((2^r:Nat):Int)=((2^r:Nat):Int))(hb:32<=K.bits):Af .none .shl (.int K 1) (.i6 (r:Int))=some (.int K ((2^r:Nat):Int)):=by
 show Ic .shl K 1 (r:Int)=_;unfold Ic;rw[if_neg (by omega)];have e:(2:Int)^r=((2^r:Nat):Int):=by simp
 simp only[zXl,X4 (show r<=K.bits by omega),Int.one_mul,e,hw]
theorem Ph {r:Nat}(h:r<32):2^r<4294967296:=by have:(2:Nat)^r<2^32:=Zp (by decide) h;simpa using this
theorem Vej (k:Nat)(l:zAb):val (List.replicate k 0++l)=4294967296^k*val l:=by
 rw[CC,XU];have:val (List.replicate k 0)=0:=by
  induction k with
  |zero=>rfl
  |succ k ih=>rw[zXm];show 0+4294967296*val (List.replicate k 0)=0;rw[ih]
 rw[this,W9]
theorem Vnd {n:Nat}(h:n<4294967296):IntKind.u32.wrap (n:Int)=(n:Int)/\IntKind.u64.wrap (n:Int)=(n:Int):=
 ⟨D3 (by omega) (by omega),Cz (by omega) (by omega)⟩
def KP (m:Nat):zAb:=List.replicate (m / 32) 0++[2^(m%32),0]
theorem MD (m:Nat):(KP m).length=m / 32+2:=by simp[KP]
theorem Vin (m:Nat):Lim (KP m):=by
 intro x hx;rcases WT.1 hx with h | h;rw[(Y8.1 h).2];decide
 rcases Xs.1 h with rfl | h;exact Ph (XW _ (by decide));rw[WR.1 h];decide
theorem Vim (m:Nat):val (KP m)=2^m:=by
 unfold KP;rw[Vej];have:val [2^(m%32),0]=2^(m%32):=by simp[val]
 rw[this,show(4294967296:Nat)=2^32 from by decide,<-YV,<-Nat.pow_add,Yt]
theorem Vq (v:Nat):∀k,(List.replicate (k+2) 0).set k v=List.replicate k 0++[v,0]
 |0=>rfl
 |k+1=>by rw[zXm,List.set_cons_succ,Vq v k,zXm,List.cons_append]
theorem Vfs (m:Nat):(List.replicate (m / 32+2) 0).set (m / 32) (2^(m%32))=KP m:=by exact Vq _ _
theorem Vfr (m:Nat):(KP m).set (m / 32+1) 0=KP m:=by unfold KP;rw[Xl _ _ (by simp)];simp
theorem Vn9 {m:Nat}(hm:m<=10000)(H:Aa):Ucv (.sl (enL cU [1]) .ti) (.i6 (m:Int)) H=some (.ret (.sl (enL cU (AB (2^m))) .no),H):=by
 have f1:decide ((m:Int)>=0)=true:=zXc (by omega);have f2:decide ((m:Int)<=10000)=true:=zXc (by omega);have hr:m%32<32:=XW _ (by decide);have hq:Af .none .quo (.i6 (m:Int)) (.i6 32)=some (.i6 ((m / 32:Nat):Int)):=by show some (Ab.i6 (IntKind.i64.wrap (((m / 32:Nat):Int))))=_;rw[Am (by omega) (by omega)]
 have uP:Af .none .rem (.i6 (m:Int)) (.i6 32)=some (.i6 ((m%32:Nat):Int)):=rfl;have w1:IntKind.i64.wrap (((1:Nat):Int)+((m / 32:Nat):Int))=((m / 32+1:Nat):Int):=by rw[Am]<;>omega
 have w2:IntKind.i64.wrap (((m / 32+1:Nat):Int)+1)=((m / 32+2:Nat):Int):=by rw[Am]<;>omega
 have w3:IntKind.i64.wrap (((0:Nat):Int)+((m / 32:Nat):Int))=((m / 32:Nat):Int):=by rw[Am]<;>omega
 have w4:IntKind.i64.wrap (((m / 32:Nat):Int)+1)=((m / 32+1:Nat):Int):=by rw[Am]<;>omega
 have w5:IntKind.i64.wrap (((0:Nat):Int)+1)=((1:Nat):Int):=rfl;have dC:=FB (f:=cU) (a:=0) (n:=m / 32+2) (bytes:=4) (H:=H) (by omega) (by omega);simp only[show cU 0=[Ab.int .u32 0] from rfl]at dC;have yD:(enL cU [1]).length=1:=rfl;have bO:∀K,Uct (.i6 (m:Int)) K=some (.ret (.bool true),K):=λK=>by unfold Uct;simp only[GMw,f1,f2]
 have d0:decide (((0:Nat):Int)<((1:Nat):Int))=true:=rfl;have d1:decide (((1:Nat):Int)<((1:Nat):Int))=false:=rfl;have ix0:Av 1 (.sl (enL cU [1]) .ti) (.i6 ((0:Nat):Int))=some (.cptr [.int .u32 1] 0):=rfl;have ld0:∀K,Ad false 1 (.cptr [.int .u32 1] 0) K=some (.int .u32 1):=λ_=>rfl;have lsl:A7 (.sl (enL cU [1]) .ti)=some (.i6 ((1:Nat):Int)):=rfl;have hlt:=Ph hr;have s1:=VeE (K:=.u32) hr (Vnd hlt).1 (by decide);have s2:=VeE (K:=.u64) hr (Vnd hlt).2 (by decide);have c1:AG .u64 (.int .u32 1)=some (.int .u64 1):=rfl;have sh:Af .none .shr (.int .u64 ((2^(m%32):Nat):Int)) (.int .u64 32)=some (.int .u64 0):=by rw[NX,XX (Ph hr)];rfl
 have c2:AG .u32 (.int .u64 0)=some (.int .u32 0):=rfl;have o1:=VjX (x:=0) (y:=2^(m%32)) (by decide) (Ph hr);rw[Nat.zero_or]at o1;have o2:Af .none .or (.int .u32 ((0:Nat):Int)) (.int .u32 0)=some (.int .u32 ((0:Nat):Int)):=VjX (x:=0) (y:=0) (by decide) (by decide);have hidx:=Db (sz:=1) (id:=H.length) (n:=m / 32+2) (K:=.i64) (g:=0) (off:=0) (cap:=m / 32+2) (ex:=true) (i:=m / 32) (by omega);have mS:=Db (sz:=1) (id:=H.length) (n:=m / 32+2) (K:=.i64) (g:=0) (off:=0) (cap:=m / 32+2) (ex:=true) (i:=m / 32+1) (by omega);simp only[W9,WK]at hidx mS;have g1:AC (H++[Blk.c0 (flat cU (List.replicate (m / 32+2) 0))]) H.length 0=some (flat cU (List.replicate (m / 32+2) 0)):=Ax An;have g2:AC (H++[Blk.c0 (flat cU (KP m))]) H.length 0=some (flat cU (KP m)):=Ax An;have ld1:Ad false 1 (.ptr H.length 0 (m / 32)) (H++[Blk.c0 (flat cU (List.replicate (m / 32+2) 0))])=some (.int .u32 ((0:Nat):Int)):=by rw[ID g1 (by simp),List.getElem_replicate];rfl
 have ld2:Ad false 1 (.ptr H.length 0 (m / 32+1)) (H++[Blk.c0 (flat cU (KP m))])=some (.int .u32 ((0:Nat):Int)):=by
  have hi:m / 32+1<(KP m).length:=by rw[MD];omega
  have:(KP m)[m / 32+1]=0:=by simp[KP,XA]
  rw[ID g2 hi,this];rfl
 have st1:=Ee (f:=cU) (sz:=1) (i:=m / 32) (a:=2^(m%32)) (v:=.int .u32 ((2^(m%32):Nat):Int)) g1 (by simp) rfl;rw[WK,Bw An,Be,Vfs]at st1;have st2:=Ee (f:=cU) (sz:=1) (i:=m / 32+1) (a:=0) (v:=.int .u32 ((0:Nat):Int)) g2 (by rw[MD];omega) rfl;rw[WK,Bw An,Be,Vfr]at st2;have ht:=Vdl (H:=H) (o:=KP m) (by rw[MD];omega) (Vin m) (Vim m);have eO:=VhU (l:=KP m) (H:=H++[Blk.c0 (flat cU (KP m))]) (id:=H.length) An (by rw[MD];omega);rw[MD]at ht eO;rw[eO]at ht;simp only[zXa]at ht;unfold Ucv;simp only[bO,GMw,JS,Xo,lsl,hq,w1,w2,dC];refine Cx (G:=λrec1 vs H1=>Ucu H rec1 (ag vs 0) (ag vs 1) (ag vs 2) (ag vs 3) (ag vs 4) H1) 1
  (λi=>[.i6 (m:Int),.ms H.length 0 0 (m / 32+2) (m / 32+2) 1 true,.sl (enL cU [1]) .ti,.i6 ((1:Nat):Int),.i6 (i:Int)])
  (λi=>H++[.c0 (flat cU (if i=0 then List.replicate (m / 32+2) 0 else KP m))]) _ (by decide) (λrec i hi=>?_) (λrec=>?_)
 ·have jH:i=0:=by omega
  subst jH;unfold Ucu;simp only[if_true,if_neg (show ¬(0+1=0)by decide),Ao,Aj,Bf,Bj,B6,BQ,GMw,d0,ix0,ld0,hq,w3,hidx,ld1,uP,s1,o1,st1,AM,w4,mS,ld2,c1,s2,sh,c2,o2,st2,w5,B3]
 unfold Ucu;simp only[if_neg (show ¬(1=0)by decide),Ao,Aj,Bf,Bj,B6,BQ,GMw,d1,eO];exact ht
set_option maxRecDepth 8000
theorem VaQ (l:zAb)(tk:Tok)(H:Aa)(hl:l.length<=1099511627776):UeM (.sl (enL cU l) tk) H=some (.ret (.bool (Gy l)),H):=by
 unfold UeM;rcases HE l with rfl | ⟨l',x,rfl⟩;simp[Gy]
 ·simp only[WC,zXi]at hl;have h1:l'.length<(l'++[x]).length:=by simp
  have h3:IntKind.i64.wrap ((((l'++[x]).length:Nat):Int)-1)=(l'.length:Int):=by rw[Am]<;>simp<;>omega
  have hne:((((l'++[x]).length:Nat):Int)==0)=false:=by simp;omega
  have hb:((x:Int) != 0)=(x != 0):=by rw[WP];simp
  simp only[Aw,zXa,Dy,hne,LQ,DE,h3,Ay h1,A5,zXh,XA (W7 _),Xi,List.getElem_cons_zero,IQ,Ch,Ou,hb];simp[Gy]
theorem T6 (neg:Bool)(l:zAb)(tk:Tok)(H:Aa)(hl:l.length<=549755813888):UaW (.agg [.bool neg,.sl (enL cU l) tk]) H=some (.ret (.bool (HS neg l)),H):=by
 unfold UaW HS;have hq:=λH=>VaQ l tk H (by omega);cases hr:Gy l with
 |false=>simp[Ce,hq,hr]
 |true=>cases neg with|false=>simp[Ce,hq,hr]|true=>cases l<;>simp[Ce,hq,hr]<;>omega
theorem Vpu {m:Nat}(hm:m<=10000)(H:Aa):Ucw (.i6 (m:Int)) H=some (.ret (big (2^m)),H):=by
 have hs:∀K,UeK (.bool false) (.sl (enL cU (AB (2^m))) .no) K=some (.ret (big (2^m)),K):=λK=>by
  rw[ME];have:(if false=true then -((2^m:Nat):Int)else ((2^m:Nat):Int))=2^m:=by simp
  rw[this]
 have hb:AN 1 [.int .u32 1]=some (.sl (enL cU [1]) .ti):=rfl;have h1:=λK=>Vn9 hm K;unfold Ucw;simp only[alloc_eq (cs:=[.bool false,.sl [] .ti]) rfl,GMw,hb,h1,hs];simp
def blN (n:Nat):Nat:=if n=0 then 0 else n.log2+1
theorem JQ {n k:Nat}:blN n<=k↔n<2^k:=by unfold blN;by_cases h:n=0;have:0<2^k:=YA (by decide);rw[if_pos h];omega;rw[if_neg h,<-Nat.log2_lt h];omega
theorem Vb2 {n j:Nat}(h:2^j<=n):blN n=blN (n / 2^j)+j:=by have hp:0<2^j:=YA (by decide);refine Nat.le_antisymm (JQ.2 ?_) ?_;have:=JQ.1 (W7 (blN (n / 2^j)));rw[Nat.pow_add];exact(XT hp).1 this;have h1:=JQ.1 (W7 (blN n));have h2:j<blN n:=(Nat.pow_lt_pow_iff_right (by decide:1<2)).1 (Xt h h1);have h3:blN (n / 2^j)<=blN n-j:=JQ.2 ((XT hp).2 (by rw[<-Nat.pow_add,Nat.sub_add_cancel (by omega)];exact h1));omega
theorem VlB:∀x,x<256->(([0,1,2,2,3,3,3,3,4,4,4,4,4,4,4,4,5,5,5,5,5,5,5,5,5,5,5,5,5,5,5,5,6,6,6,6,6,6,6,6,6,6,6,6,6,6,6,6,6,6,6,6,6,6,6,6,6,6,6,6,6,6,6,6,7,7,7,7,7,7,7,7,7,7,7,7,7,7,7,7,7,7,7,7,7,7,7,7,7,7,7,7,7,7,7,7,7,7,7,7,7,7,7,7,7,7,7,7,7,7,7,7,7,7,7,7,7,7,7,7,7,7,7,7,7,7,7,7,8,8,8,8,8,8,8,8,8,8,8,8,8,8,8,8,8,8,8,8,8,8,8,8,8,8,8,8,8,8,8,8,8,8,8,8,8,8,8,8,8,8,8,8,8,8,8,8,8,8,8,8,8,8,8,8,8,8,8,8,8,8,8,8,8,8,8,8,8,8,8,8,8,8,8,8,8,8,8,8,8,8,8,8,8,8,8,8,8,8,8,8,8,8,8,8,8,8,8,8,8,8,8,8,8,8,8,8,8,8,8,8,8,8,8,8,8,8,8,8,8,8,8,8,8,8,8,8]:zAa)[x]?).map UInt8.toNat=some (blN x):=by decide +kernel
theorem VlC {x:Nat}(h:x<256):C3 (.str [0,1,2,2,3,3,3,3,4,4,4,4,4,4,4,4,5,5,5,5,5,5,5,5,5,5,5,5,5,5,5,5,6,6,6,6,6,6,6,6,6,6,6,6,6,6,6,6,6,6,6,6,6,6,6,6,6,6,6,6,6,6,6,6,7,7,7,7,7,7,7,7,7,7,7,7,7,7,7,7,7,7,7,7,7,7,7,7,7,7,7,7,7,7,7,7,7,7,7,7,7,7,7,7,7,7,7,7,7,7,7,7,7,7,7,7,7,7,7,7,7,7,7,7,7,7,7,7,8,8,8,8,8,8,8,8,8,8,8,8,8,8,8,8,8,8,8,8,8,8,8,8,8,8,8,8,8,8,8,8,8,8,8,8,8,8,8,8,8,8,8,8,8,8,8,8,8,8,8,8,8,8,8,8,8,8,8,8,8,8,8,8,8,8,8,8,8,8,8,8,8,8,8,8,8,8,8,8,8,8,8,8,8,8,8,8,8,8,8,8,8,8,8,8,8,8,8,8,8,8,8,8,8,8,8,8,8,8,8,8,8,8,8,8,8,8,8,8,8,8,8,8,8,8,8,8]) (.int .u8 (x:Int))=some (.int .u8 (blN x:Int)):=by have:=VlB x h;obtain⟨b,h1,h2⟩:=YE.1 this;unfold C3;simp only[];rw[if_pos (XO x),zXl,h1,zXb,h2]
theorem Vke {x n:Nat}(hx:x<256)(hn:n<=24)(H:Aa):Uec H (.int .u32 (x:Int)) (.i6 (n:Int)) H=some (.ret (.i6 ((n+blN x:Nat):Int)),H):=by
 have hb:blN x<=8:=JQ.2 hx;have c1:AG .u8 (.int .u32 (x:Int))=some (.int .u8 (x:Int)):=by rw[Bx,Gp (by omega) (by omega)]
 have c2:AG .i64 (.int .u8 (blN x:Int))=some (.i6 (blN x:Int)):=by rw[Bx,Am (by omega) (by omega)]
 have w:IntKind.i64.wrap ((n:Int)+(blN x:Int))=((n+blN x:Nat):Int):=by rw[Am]<;>omega
 unfold Uec;simp only[c1,zXa];rw[VlC hx];simp only[c2,GMw,w]
theorem VaF (x k:Nat)(hk:k<=32):Af .none .shr (.int .u32 (x:Int)) (.int .u64 (k:Int))=some (.int .u32 ((x / 2^k:Nat):Int)):=by
 show Ic .shr .u32 (x:Int) (k:Int)=_;unfold Ic;rw[if_neg (by omega)];simp only[zXl];rw[show min k IntKind.u32.bits=k from X4 hk,Y4 _ (Int.le_of_lt (Yv (by decide)))];have:((2:Int)^k)=((2^k:Nat):Int):=by simp
 rw[this]
 rfl
theorem Vkf {x n:Nat}(hx:x<65536)(hn:n<=16)(H:Aa):Ued H (.int .u32 (x:Int)) (.i6 (n:Int)) H=some (.ret (.i6 ((n+blN x:Nat):Int)),H):=by
 unfold Ued;by_cases h:256<=x
 ·have d:decide ((x:Int)>=256)=true:=zXc (by omega);have s:=VaF x 8 (by decide);have w:IntKind.i64.wrap ((n:Int)+8)=((n+8:Nat):Int):=by rw[Am]<;>omega
  have e:=Vb2 (n:=x) (j:=8) h;simp only[show((8:Nat):Int)=8 from rfl]at s;simp only[AJ,GMw,d,s,w];rw[Vke (by omega) (by omega),e,show n+8+blN (x / 2^8)=n+(blN (x / 2^8)+8)by omega]
 have d:decide ((x:Int)>=256)=false:=zXd (by omega);simp only[AJ,GMw,d];exact Vke (by omega) (by omega) H
theorem Vlk {x:Nat}(hx:x<4294967296)(H:Aa):Ucr (.int .u32 (x:Int)) H=some (.ret (.i6 (blN x:Int)),H):=by unfold Ucr;by_cases h:65536<=x;have d:decide ((x:Int)>=65536)=true:=zXc (by omega);have s:=VaF x 16 (by decide);have e:=Vb2 (n:=x) (j:=16) h;simp only[show((16:Nat):Int)=16 from rfl]at s;have:=Vkf (x:=x / 2^16) (n:=16) (by omega) (by omega) H;simp only[show((16:Nat):Int)=16 from rfl]at this;simp only[AJ,GMw,d,s];rw[this,e,Zf];have d:decide ((x:Int)>=65536)=false:=zXd (by omega);have:=Vkf (x:=x) (n:=0) (by omega) (by omega) H;simp only[Int.natCast_zero,W9]at this;simp only[AJ,GMw,d];exact this
theorem HD {H:Aa}{p o:Nat}{cs:List Ab}{v:Ab}(h:H[p]? = some (.c0 cs))(hv:v.isScal=true)(ho:o<cs.length):Ai 1 (.ptr p 0 o) v H=some (H.set p (.c0 (cs.set o v))):=by
 have hc:v.acells=some [v]:=by cases v<;>first | rfl | (simp[Ab.isScal]at hv)
 simp only[Ai,Ax h,BA,hc,zXi];rw[if_pos ⟨trivial,by omega⟩,Bw h,show D7 cs o 1 [v]=cs.set o v from by rw[YC,if_pos ho];simp[D7]]
theorem Qp {H:Aa}{p sz:Nat}{cs ws:List Ab}(h:H[p]? = some (.c0 cs))(hl:cs.length=sz)(gK:ws.length=sz)(hs:ws.all Ab.isScal=true):Ai sz (.ptr p 0 0) (.agg ws) H=some (H.set p (.c0 ws)):=by simp only[Ai,Ax h,BA,Cb hs,hl,gK,W9,W7,and_self,if_true,D6 hl,Bw h]
theorem QE {H:Aa}{p sz:Nat}{cs:List Ab}(h:H[p]? = some (.c0 cs))(hl:cs.length=sz):Ad true sz (.ptr p 0 0) H=some (.agg cs):=by simp only[Ad,Ax h,BA,if_true,XP,hl,W9,W7];rw[WH (YG hl)]
theorem CD {H:Aa}{p o sz:Nat}{cs:List Ab}(h:H[p]? = some (.c0 cs)):Ad false sz (.ptr p 0 o) H=cs[o]? := by simp only[Ad,Ax h,BA];rfl
def UI:Ab->Bool
 |.agg cs=>cs.all J4
 |v=>J4 v
theorem Vir {v:Ab}{H:Aa}{n d:Nat}(h:UI v=true):frz H n (d+3) v=some v:=by cases v with|agg cs=>have h':cs.all J4=true:=h;simp only[frz,HG h',zXb]|_=>exact Vcj (d:=d+2) h
theorem VH {H:Aa}{n d:Nat}:∀ {cs:List Ab},cs.all UI=true->G3 H n (d+4) cs=some cs
 |[],_=>by simp[G3]
 |c::cs,h=>by simp only[List.all_cons,WG]at h;simp[G3,Vir h.1,VH h.2]
theorem VkS {H G:Aa}{cs:List Ab}(h:cs.all J4=true):rP H (.agg cs) (H++G)=some (.ret (.agg cs),H):=by rw[VkR _ (by simp)];simp only[frz,HG h,zXb]
theorem VkQ {H G:Aa}{cs:List Ab}(h:cs.all UI=true):rP H (.tup cs) (H++G)=some (.ret (.tup cs),H):=by rw[VkR _ (by simp)];simp only[frz,VH h,zXb]
theorem Qm {g o:Nat}{v:Ab}{cs:List Ab}{G:Aa}(hv:v.isScal=true)(h:o<cs.length):Ai 1 (.ptr 0 g o) v (.cel g cs::G)=some (.cel g (cs.set o v)::G):=by
 have hc:v.acells=some [v]:=by cases v<;>first | rfl | (simp[Ab.isScal]at hv)
 rw[ST,hc];simp only[BA,zXi];rw[if_pos ⟨trivial,by omega⟩,YC,if_pos h];simp[D7]
theorem Vey {sz g:Nat}{cs ws:List Ab}{G:Aa}(h:cs.length=sz)(h2:ws.length=sz)(h3:ws.all Ab.isScal=true):Ai sz (.ptr 0 g 0) (.agg ws) (.cel g cs::G)=some (.cel g ws::G):=Qn (Cb h3) h h2
theorem Vf8 {id g o:Nat}:Ah (.ptr id g o)=some (.ptr id g o):=(rfl)
theorem Vm2 (a b c:Aa):a++b++c=a++(b++c):=WD a b c
theorem VlD (a b:Aa):(a++b).length=a.length+b.length:=WC
theorem FG (x:Ab)(b:List Ab):(x::b)[0]? = some x:=(rfl)
theorem Kz (x:Ab)(b:List Ab)(i:Nat):(x::b)[i+1]? = b[i]? := (rfl)
def JJ (x:Nd):List Ab:=[.i6 x.k0,.i6 x.k1,.i6 x.k2,.i6 x.k3]
theorem VfP (x:Nd)(H:Aa):Ad true 4 (.cptr (cNd x) 1) H=some (.agg (JJ x)):=(rfl)
theorem Vdk (x:Nd){k:Nat}(hk:k<4)(K:IntKind):Kb false 4 1 (.agg (JJ x)) (.int K (k:Int))=some (.i6 (x.kid k)):=by
 match k,hk with
 |0,_=>rfl
 |1,_=>rfl
 |2,_=>rfl
 |3,_=>rfl
theorem Ge (g:Nat)(x:Nd)(G:Aa):Ad true 4 (.ptr 0 g 1) (.cel g (cNd x)::G)=some (.agg (JJ x)):=by
 rw[show Ad true 4 (.ptr 0 g 1) (.cel g (cNd x)::G)=if 1+4<=(cNd x).length then some (.agg (((cNd x).drop 1).take 4))else none from by simp only[Ad,Kw];rfl]
 rfl
theorem Gn (x:Nd):(cNd x).length=5:=(rfl)
theorem HPa:(((∀(H G:Aa)(a:Bool)(sz k g o:Nat),Ad a sz (.ptr (H.length+k) g o) (H++G)=Ad a sz (.ptr k g o) G) /\
  (∀(H G:Aa)(a:Bool)(sz g o:Nat),Ad a sz (.ptr H.length g o) (H++G)=Ad a sz (.ptr 0 g o) G)) /\
  ((∀(b:Blk)(G:Aa)(a:Bool)(sz k g o:Nat),Ad a sz (.ptr (k+1) g o) (b::G)=Ad a sz (.ptr k g o) G) /\
  (∀(cs:List Ab)(G:Aa)(sz g o:Nat),Ad false sz (.ptr 0 g o) (.cel g cs::G)=cs[o]?) /\
  (∀(cs:List Ab)(G:Aa)(sz g:Nat),cs.length=sz->Ad true sz (.ptr 0 g 0) (.cel g cs::G)=some (.agg cs)))) /\
 (((∀(H G:Aa)(v:Ab)(sz k g o:Nat),Ai sz (.ptr (H.length+k) g o) v (H++G)=(Ai sz (.ptr k g o) v G).map (H++·)) /\
  (∀(H G:Aa)(v:Ab)(sz g o:Nat),Ai sz (.ptr H.length g o) v (H++G)=(Ai sz (.ptr 0 g o) v G).map (H++·))) /\
  ((∀(b:Blk)(G:Aa)(v:Ab)(sz k g o:Nat),Ai sz (.ptr (k+1) g o) v (b::G)=(Ai sz (.ptr k g o) v G).map (b::·)) /\
  (∀(cs:List Ab)(G:Aa)(v:Ab)(g o:Nat),v.isScal=true->o<cs.length->Ai 1 (.ptr 0 g o) v (.cel g cs::G)=some (.cel g (cs.set o v)::G)) /\
  (∀(cs ws:List Ab)(G:Aa)(sz g:Nat),cs.length=sz->ws.length=sz->ws.all Ab.isScal=true->Ai sz (.ptr 0 g 0) (.agg ws) (.cel g cs::G)=some (.cel g ws::G)))) /\
 ((∀(cs:List Ab)(H:Aa),cs.all Ab.isScal=true->A0 (some cs) H=some (.ptr H.length 0 0,H++[.c0 cs])) /\
  (∀(cs:List Ab)(H:Aa)(sz:Nat),cs.all Ab.isScal=true->cs.length=sz->BC true sz (.agg cs) H=some (.ptr H.length 0 0,H++[.c0 cs]))):=
 ⟨⟨⟨λ_ _ _ _ _ _ _=>ViD,λ_ _ _ _ _ _=>FE⟩,λ_ _ _ _ _ _ _=>VfH,λ_ _ _ _ _=>HH,λ_ _ _ _ h=>TG h⟩,
  ⟨⟨λ_ _ _ _ _ _ _=>Vn,λ_ _ _ _ _ _=>KK⟩,λ_ _ _ _ _ _ _=>Vdt,λ_ _ _ _ _ h1 h2=>Qm h1 h2,λ_ _ _ _ _ h1 h2 h3=>Vey h1 h2 h3⟩,
  λ_ _ h=>alloc_eq h,λ_ _ _ h1 h2=>Ce h1 h2⟩
theorem HPc:(((∀(K:IntKind)(n:Int),(Ab.int K n).isScal=true)/\(∀t:Bool,(Ab.bool t).isScal=true)/\(∀s:zAa,(Ab.str s).isScal=true)) /\
  ((∀(es:List (List Ab)) (tk:Tok),(Ab.sl es tk).isScal=true)/\(∀(id g off len cap sz:Nat)(ex:Bool),(Ab.ms id g off len cap sz ex).isScal=true)/\(∀id g off:Nat,(Ab.ptr id g off).isScal=true)) /\
  (∀id:Nat,(Ab.mp id).isScal=true)/\(∀(f:FuncId)(c:List Ab),(Ab.fn f c).isScal=true)/\(Ab.nilp.isScal=true)/\(Ab.nilmap.isScal=true)/\Ab.nilfn.isScal=true) /\
 (((∀(K:IntKind)(n:Int),J4 (Ab.int K n)=true)/\(∀t:Bool,J4 (Ab.bool t)=true)/\(∀s:zAa,J4 (Ab.str s)=true)) /\
  ((∀(es:List (List Ab)),J4 (Ab.sl es .no)=true)/\(∀(es:List (List Ab)),J4 (Ab.sl es .ti)=true)) /\
  ((∀(K:IntKind)(n:Int),UI (Ab.int K n)=true)/\(∀t:Bool,UI (Ab.bool t)=true)/\(∀s:zAa,UI (Ab.str s)=true)) /\
  ((∀(es:List (List Ab)),UI (Ab.sl es .no)=true)/\(∀(es:List (List Ab)),UI (Ab.sl es .ti)=true))/\(∀cs:List Ab,UI (.agg cs)=cs.all J4)) /\
 ((∀(H G:Aa)(cs:List Ab),cs.all J4=true->rP H (.agg cs) (H++G)=some (.ret (.agg cs),H)) /\
  (∀(H G:Aa)(cs:List Ab),cs.all UI=true->rP H (.tup cs) (H++G)=some (.ret (.tup cs),H)) /\
  (∀(H G:Aa)(t:Bool),rP H (.bool t) (H++G)=some (.ret (.bool t),H)) /\
  (∀(H G:Aa)(K:IntKind)(n:Int),rP H (.int K n) (H++G)=some (.ret (.int K n),H)) /\
  (∀(H G:Aa)(s:zAa),rP H (.str s) (H++G)=some (.ret (.str s),H))):=
 ⟨⟨⟨λ_ _=>rfl,λ_=>rfl,λ_=>rfl⟩,⟨λ_ _=>rfl,λ_ _ _ _ _ _ _=>rfl,λ_ _ _=>rfl⟩,λ_=>rfl,λ_ _=>rfl,rfl,rfl,rfl⟩,
  ⟨⟨λ_ _=>rfl,λ_=>rfl,λ_=>rfl⟩,⟨λ_=>rfl,λ_=>rfl⟩,⟨λ_ _=>rfl,λ_=>rfl,λ_=>rfl⟩,⟨λ_=>rfl,λ_=>rfl⟩,λ_=>rfl⟩,
  λ_ _ _ h=>VkS h,λ_ _ _ h=>VkQ h,λ_ _ _=>Ey,λ_ _ _ _=>It,λ_ _ _=>VeT⟩
theorem HPd:((∀(H G:Aa)(v:Ab),rPN H v (H++G)=(HI (H++G) H.length 8 v).map λv=>(.ret v,H)) /\
  (∀(H:Aa)(n d:Nat)(vs:List Ab),HI H n (d+1) (.tup vs)=(Jo H n d vs).map .tup) /\
  (∀(H:Aa)(n d:Nat)(cs:List Ab),HI H n (d+1) (.agg cs)=(G4 H n d cs).map .agg) /\
  (∀(H:Aa)(n d:Nat)(es:List (List Ab)) (tk:Tok),HI H n (d+1) (.sl es tk)=some (.sl es .no))) /\
 ((∀(H:Aa)(n d:Nat),Jo H n (d+1) []=some []) /\
  (∀(H:Aa)(n d:Nat)(v:Ab)(vs:List Ab),Jo H n (d+1) (v::vs)=(Ft H n d v).bind λv'=>(Jo H n (d+1) vs).map (v'::·)) /\
  (∀(H:Aa)(n d:Nat),G4 H n (d+1) []=some []) /\
  (∀(H:Aa)(n d:Nat)(v:Ab)(vs:List Ab),G4 H n (d+1) (v::vs)=(Jr H n d v).bind λv'=>(G4 H n (d+1) vs).map (v'::·))) /\
 ((∀(H:Aa)(n d:Nat)(cs:List Ab),Ft H n (d+1) (.agg cs)=(G4 H n d cs).map .agg) /\
  (∀(H:Aa)(n d:Nat)(K:IntKind)(i:Int),Ft H n (d+1) (.int K i)=some (.int K i)) /\
  (∀(H:Aa)(n d:Nat)(t:Bool),Ft H n (d+1) (.bool t)=some (.bool t)) /\
  (∀(H:Aa)(n d:Nat)(s:zAa),Ft H n (d+1) (.str s)=some (.str s)) /\
  (∀(H:Aa)(n d:Nat)(es:List (List Ab)) (tk:Tok),Ft H n (d+1) (.sl es tk)=some (.sl es .no))) /\
 ((∀(H:Aa)(n d:Nat)(K:IntKind)(i:Int),Jr H n (d+1) (.int K i)=some (.int K i)) /\
  (∀(H:Aa)(n d:Nat)(t:Bool),Jr H n (d+1) (.bool t)=some (.bool t)) /\
  (∀(H:Aa)(n d:Nat)(s:zAa),Jr H n (d+1) (.str s)=some (.str s)) /\
  (∀(H:Aa)(n d:Nat)(es:List (List Ab)) (tk:Tok),Jr H n (d+1) (.sl es tk)=some (.sl es .no))) /\
 ((∀xs:List (Option Ab),Ex xs=(UD xs).map .tup)/\(UD []=some [])/\(∀(x:Option Ab)(xs:List (Option Ab)),UD (x::xs)=x.bind λv=>(UD xs).map (v::·))) /\
 ((∀(v:Ab)(vs:List Ab),At 0 (.tup (v::vs))=some v)/\(∀(v w:Ab)(vs:List Ab),At 1 (.tup (v::w::vs))=some w)/\(∀(v w u:Ab)(vs:List Ab),At 2 (.tup (v::w::u::vs))=some u)):=
 ⟨⟨λ_ _ _=>C8,λ_ _ _ _=>Cs,λ_ _ _ _=>Vji,λ_ _ _ _ _=>HZ⟩,⟨λ_ _ _=>BB,λ_ _ _ _ _=>By,λ_ _ _=>EE,λ_ _ _ _ _=>DR⟩,
  ⟨λ_ _ _ _=>FH,λ_ _ _ _ _=>Dc,λ_ _ _ _=>Fs,λ_ _ _ _=>Vgn,λ_ _ _ _ _=>Jp⟩,⟨λ_ _ _ _ _=>Vgz,λ_ _ _ _=>Lh,λ_ _ _ _=>Wj,λ_ _ _ _ _=>GV⟩,
  ⟨λ_=>rfl,rfl,λ_ _=>rfl⟩,λ_ _=>rfl,λ_ _ _=>rfl,λ_ _ _ _=>rfl⟩
theorem HPe:(∀(H:Aa)(j k:Nat),List.length H+j+k=List.length H+(j+k))/\(∀(H0 H:Aa)(v:Ab)(k:Ab->Aa->Out),bK H0 (some (.pan v,H)) k=some (.pan v,H))/\(∀(α β:Type)(a:α)(f:α->β),Option.map f (some a)=some (f a))/\(∀id g o:Nat,Ah (.ptr id g o)=some (.ptr id g o))/\(∀off id g o:Nat,Ac off (.ptr id g o)=some (.ptr id g (o+off))) /\
 ((∀a b c:Aa,a++b++c=a++(b++c))/\(∀(x:Blk)(b c:Aa),(x::b)++c=x::(b++c))/\(∀b:Aa,([]:Aa)++b=b)/\(∀a b:Aa,(a++b).length=a.length+b.length)/\(∀(x:Blk)(b:Aa),(x::b).length=b.length+1)/\(([]:Aa).length=0)) /\
 ((∀(x:Ab)(b:List Ab),(x::b).length=b.length+1)/\(([]:List Ab).length=0)/\(∀(x:Ab)(b:List Ab),(x::b)[0]? = some x)/\(∀(x:Ab)(b:List Ab)(i:Nat),(x::b)[i+1]? = b[i]?)) /\
 ((∀(x y:Ab)(b:List Ab),(x::b).set 0 y=y::b)/\(∀(x y:Ab)(b:List Ab)(i:Nat),(x::b).set (i+1) y=x::b.set i y)/\(∀(p:Ab->Bool)(x:Ab)(b:List Ab),(x::b).all p=(p x&&b.all p))/\(∀p:Ab->Bool,([]:List Ab).all p=true)) /\
 (∀s:zAa,C1 (.str s)=some (.i6 (s.length:Int))):=
 ⟨λ_ _ _=>Xc _ _ _,λ_ _ _ _=>rfl,λ_ _ _ _=>rfl,λ_ _ _=>rfl,λ_ _ _ _=>rfl,⟨Vm2,λ_ _ _=>rfl,λ_=>rfl,VlD,λ_ _=>rfl,rfl⟩,⟨λ_ _=>rfl,rfl,λ_ _=>rfl,λ_ _ _=>rfl⟩,⟨λ_ _ _=>rfl,λ_ _ _ _=>rfl,λ_ _ _=>rfl,λ_=>rfl⟩,λ_=>rfl⟩
theorem HPz:((∀n:Nat,0+n=n)/\(∀n:Nat,n+0=n)/\(∀p:Prop,(p/\p)=p)/\(∀p:Prop,(p/\True)=p)/\(∀(α:Type)(a:α),(a=a)=True)/\(∀b:Bool,(b&&b)=b)):=
 ⟨W9,Nat.add_zero,and_self,and_true,λ_ a=>eq_self a,Bool.and_self⟩
open Go.Proofs
set_option maxRecDepth 100000
def HPw:=And.intro HPa (And.intro HPc (And.intro HPd (And.intro HPe HPz)))
theorem VaK (l:zAb)(x:Nat):Gy (l++[x])=(x != 0):=by simp[Gy]
theorem VjV {l:zAb}(tk:Tok)(H:Aa)(hx:Lim l)(hl:l.length<=1099511627776):UaC (.sl (enL cU l) tk) H=some (.ret (.sl (enL cU (AB (val l))) .no),H):=by
 unfold UaC;have key:=Bv (G:=λrec1 vs H1=>Uaf H rec1 (ag vs 0) H1) (σ:=Nat×Tok) (λs=>s.1<=l.length/\val (l.take s.1)=val l)
  (λs=>[.sl (enL cU (l.take s.1)) s.2]) (λ_=>H) (λs=>s.1) (λ_=>some (.ret (.sl (enL cU (AB (val l))) .no),H)) (λs rec hi hrec=>?_) (l.length,tk) ⟨W7 _,by rw[Xu]⟩ (by dsimp only;omega)
 ·dsimp only at key
  rwa [Xu]at key
 ·obtain⟨k,t⟩:=s;dsimp only at hi hrec⊢;obtain⟨h1,h2⟩:=hi;have hlk:(l.take k).length=k:=by rw[WN];omega
  have hxk:Lim (l.take k):=λx h=>hx x (X5 h);have hr:=VaQ (l.take k) t H (by omega);unfold Uaf;cases hb:Gy (l.take k)with
  |true=>rw[hb]at hr;have hn:=MO ((O8 hxk).1 hb);rw[h2]at hn;simp only[Ao,GMw,hr,Xo,Ez,forget,ED,fgt];rw[<-hn]
  |false=>rw[hb]at hr;obtain⟨m,rfl⟩:∃m,k=m+1:=(by cases k with|zero=>rw[List.take_zero]at hb;cases hb|succ m=>exact⟨m,rfl⟩);have hm:m<l.length:=(by omega);have hz:l[m]=0:=(by have:l.take (m+1)=l.take m++[l[m]]:=WF hm;rw[this,VaK]at hb;simpa using hb);have hv:val (l.take m)=val l:=(by rw[<-h2,WF hm,CC,hz];simp[val]);have hw:IntKind.i64.wrap (((m+1:Nat):Int)-1)=(m:Int):=(by rw[Am]<;>omega);have hsl:∃t',B5 1 (.sl (enL cU (l.take (m+1))) t) none (some (.i6 (m:Int))) none=some (.sl (enL cU (l.take m)) t'):=(by refine⟨FY t 0 m (l.take (m+1)).length false,?_⟩;have:=VbQ (f:=cU) (sz:=1) (l:=l.take (m+1)) (tk:=t) (K:=.i64) (h:=m) (by omega);rw[List.take_take,X4 (by omega)]at this;exact this);obtain⟨t',hsl⟩:=hsl;simp only[Ao,GMw,hr,X2,Aw,hlk,hw,hsl];exact hrec (m,t') ⟨by omega,hv⟩ (Z5 m)
theorem Vmo (kn:List Ab->Aa->Out)(x0:Ab)(eb:List (List Ab))(tb:Tok)(H:Aa):cmA kn x0 (.sl eb tb) H=kn [x0,.sl eb tb,.undef,.ptr H.length 0 0,.ptr (H.length+1) 0 0,.undef,.undef,.undef,.undef,.undef,.undef,.undef,.undef,.undef,.undef,.undef,.undef,.undef,.undef,.undef,.undef,.undef,.undef,.undef,.undef,.undef,.undef,.undef,.undef,.undef,.undef,.undef,.undef,.undef,.undef,.undef,.undef,.undef,.undef] (H++[.c0 [.sl eb tb]]++[.c0 [.i6 0]]):=by
 have hbx:BC true 1 (.sl eb tb) H=some (.ptr H.length 0 0,H++[.c0 [.sl eb tb]]):=by unfold BC;simp only[Rz,alloc_eq (cs:=[.sl eb tb]) rfl];rfl
 have hal:A0 (some [(.i6 0)]) (H++[.c0 [.sl eb tb]])=some (.ptr (H++[Blk.c0 [.sl eb tb]]).length 0 0,H++[.c0 [.sl eb tb]]++[.c0 [.i6 0]]):=alloc_eq rfl;have hl:(H++[Blk.c0 [.sl eb tb]]).length=H.length+1:=by simp
 unfold cmA;rw[hbx];simp only[Br];rw[hal];simp only[Br,hl]
theorem Vmn (kn:List Ab->Aa->Out){la lb:zAb}(ta tb:Tok)(H:Aa)(xa:Lim la)(xb:Lim lb)(ha:la.length<=1099511627776)(hb:lb.length<=1099511627776):cmB kn (.sl (enL cU la) ta) (.sl (enL cU lb) tb) (.ptr H.length 0 0) (.ptr (H.length+1) 0 0) (H++[.c0 [.sl (enL cU lb) tb]]++[.c0 [.i6 0]]) =
   kn [.sl (enL cU (AB (val la))) .no,.sl (enL cU lb) tb,.undef,.ptr H.length 0 0,.ptr (H.length+1) 0 0,.undef,.undef,.sl (enL cU la) ta,.sl (enL cU (AB (val la))) .no,.sl (enL cU lb) tb,.sl (enL cU (AB (val lb))) .no,.undef,.undef,.undef,.undef,.undef,.undef,.undef,.undef,.undef,.undef,.undef,.undef,.undef,.undef,.undef,.undef,.undef,.undef,.undef,.undef,.undef,.undef,.undef,.undef,.undef,.undef,.undef,.undef] (H++[.c0 [.sl (enL cU (AB (val lb))) .no]]++[.c0 [.i6 0]]):=by
 have e1:(H++[Blk.c0 [.sl (enL cU lb) tb]]++[.c0 [.i6 0]])[H.length]? = some (.c0 [.sl (enL cU lb) tb]):=by simp
 have ld:Ad false 1 (.ptr H.length 0 0) (H++[Blk.c0 [.sl (enL cU lb) tb]]++[.c0 [.i6 0]])=some (.sl (enL cU lb) tb):=by simp only[Ad,Ax e1,zXa];rfl
 have hst:Ai 1 (.ptr H.length 0 0) (.sl (enL cU (AB (val lb))) .no) (H++[Blk.c0 [.sl (enL cU lb) tb]]++[.c0 [.i6 0]])=some (H++[.c0 [.sl (enL cU (AB (val lb))) .no]]++[.c0 [.i6 0]]):=by
  rw[HD e1 rfl (by simp)]
  congr 1
  rw[List.set_append_left _ _ (by simp),Be]
  rfl
 have c1:=λK=>VjV ta K xa ha;have c2:=λK=>VjV tb K xb hb;unfold cmB;simp only[c1,BF,ld];rw[B3 ⟨rfl,trivial⟩];simp only[c2,BF,hst,AM,F3]
theorem Vmm (kn kr:List Ab->Aa->Out)(a b:Nat)(ta tb:Tok)(H:Aa)(ha:(AB a).length<=1099511627776)(hb:(AB b).length<=1099511627776):(∃tm:List Ab,tm.length=39/\tm[0]? = some (.sl (enL cU (AB a)) ta)/\tm[3]? = some (.ptr H.length 0 0)/\tm[4]? = some (.ptr (H.length+1) 0 0) /\
   cmC kn kr (.sl (enL cU (AB a)) ta) (.ptr H.length 0 0) (.ptr (H.length+1) 0 0) (H++[.c0 [.sl (enL cU (AB b)) tb]]++[.c0 [.i6 0]]) =
    if (AB a).length=(AB b).length then kn tm (H++[.c0 [.sl (enL cU (AB b)) tb]]++[.c0 [.i6 0]])
    else kr tm (H++[.c0 [.sl (enL cU (AB b)) tb]]++[.c0 [.i6 (if (AB a).length<(AB b).length then -1 else 1)]])):=by
 have e1:(H++[Blk.c0 [.sl (enL cU (AB b)) tb]]++[.c0 [.i6 0]])[H.length]? = some (.c0 [.sl (enL cU (AB b)) tb]):=by simp
 have e2:(H++[Blk.c0 [.sl (enL cU (AB b)) tb]]++[.c0 [.i6 0]])[H.length+1]? = some (.c0 [.i6 0]):=by simp
 have ld:Ad false 1 (.ptr H.length 0 0) (H++[Blk.c0 [.sl (enL cU (AB b)) tb]]++[.c0 [.i6 0]])=some (.sl (enL cU (AB b)) tb):=by simp only[Ad,Ax e1,zXa];rfl
 have hst:∀z:Int,Ai 1 (.ptr (H.length+1) 0 0) (.i6 z) (H++[Blk.c0 [.sl (enL cU (AB b)) tb]]++[.c0 [.i6 0]])=some (H++[.c0 [.sl (enL cU (AB b)) tb]]++[.c0 [.i6 z]]):=λz=>by
  rw[HD e2 rfl (by simp)]
  congr 1
  rw[Xl _ _ (by simp)];simp
 unfold cmC;simp only[Aw,zXa,ld];by_cases h:(AB a).length=(AB b).length
 ·have hn:Af .none .neq (.i6 ((AB a).length:Int)) (.i6 ((AB b).length:Int))=some (.bool false):=by show some (Ab.bool (((AB a).length:Int) != ((AB b).length:Int)))=_;rw[h];simp
  simp only[hn,if_pos h,zXa,AL];exact⟨_,rfl,rfl,rfl,rfl,rfl⟩
 ·have hn:Af .none .neq (.i6 ((AB a).length:Int)) (.i6 ((AB b).length:Int))=some (.bool true):=by show some (Ab.bool (((AB a).length:Int) != ((AB b).length:Int)))=_;have:(((AB a).length:Int) != ((AB b).length:Int))=true:=(by simp;omega);rw[this]
  simp only[hn,if_neg h,zXa,AZ,Bn];by_cases h2:(AB a).length<(AB b).length;simp only[zXc (show((AB a).length:Int)<((AB b).length:Int)by omega),if_pos h2,AZ,hst,AM,F3];exact⟨_,rfl,rfl,rfl,rfl,rfl⟩;simp only[zXd (show ¬((AB a).length:Int)<((AB b).length:Int)by omega),if_neg h2,AL,hst,AM,F3];exact⟨_,rfl,rfl,rfl,rfl,rfl⟩
open Go.RowKit
open Go.RowKit Go.Proofs Go.Shelf
attribute [local go_sem] Oper.semAt_some
def VjE (n:Nat)(za zb:Nat->Nat)(z:Int):Prop:=
 (z=0/\∀j,j<n->za j=zb j)\/∃i,i<n/\za i≠zb i/\(∀j,i<j->j<n->za j=zb j)/\z=if za i<zb i then -1 else 1
def VmD {n:Nat}(za zb:Nat->Nat)(pre:List (Fin n)):Prop:=∀x∈pre,za x.1=zb x.1
def Vhn {n:Nat}(za zb:Nat->Nat)(pre:List (Fin n))(z:Int):Prop:=
 ∃x:Fin n,za x.1≠zb x.1/\VmD za zb pre.dropLast/\pre.getLast? = some x/\z=if za x.1<zb x.1 then -1 else 1
def Vnc (B R:Nat)(w1:World)(z:Int)(W:World):Prop:=Below B (w1.setCell ⟨R,0,none⟩ (.i6 z)) W/\B+1<=W.heap.size
theorem HT {W:World}{R k:Nat}{v:Value}(h:k≠R):(W.setCell ⟨R,0,none⟩ v).heap[k]? = W.heap[k]? := by simp[World.setCell,Yq,h.symm]
theorem KM {W:World}{R:Nat}{u v:Value}{t:TypeId}(h:W.heap[R]? = some (.cells #[u] t (0,0))):(W.setCell ⟨R,0,none⟩ v).heap[R]? = some (.cells #[v] t (0,0)):=by simp[World.setCell,Yq,h]
theorem FA (W:World)(R:Nat)(v:Value):(W.setCell ⟨R,0,none⟩ v).heap.size=W.heap.size:=by simp[World.setCell]
theorem Vbd {B R:Nat}{w1 W:World}{t:TypeId}{z:Int}(h:Below B w1 W)(hR:R<B)(hr:w1.heap[R]? = some (.cells #[.i6 0] t (0,0)))(h5:B+1<=W.heap.size):Vnc B R w1 z (W.setCell ⟨R,0,none⟩ (.i6 z)):=by refine⟨⟨h.os,h.tape,h.output,?_,λk hk=>?_⟩,by rw[FA];exact h5⟩;rw[FA,FA];exact h.size;by_cases e:k=R;subst e;rw[KM ((h.block k hk).trans hr),KM hr];rw[HT e,HT e];exact h.block k hk
theorem VW {B R:Nat}{W:World}{v:Value}(hR:R<B):KeepsFrom B W (W.setCell ⟨R,0,none⟩ v):=
 ⟨by rw[FA];exact W7 _,λk o hB hk _=>by rw[HT (by omega)];exact hk⟩
theorem VaL {P:Program}{fn:Func}{p:Tmp}{ty:TypeId}{d:TypeDesc}(h:fn.results = #[.cell p ty])(hu:P.underlying ty=some d)(ha:BM P ty=false)(tmps:Array Value)(w:World)(R:Nat)(v:Value)(hp:tmps.getD p undef=.pointer (some ⟨R,0,none⟩))(hc:w.cell? ⟨R,0,none⟩=some v):(results fn tmps).run P w=.ok v w:=by
 have hp':tmps[p]?.getD undef=.pointer (some ⟨R,0,none⟩):=by simpa using hp
 simp[results,h,hp',asAddr,LN hu w _ v hc ha]
theorem VgN {fu B R:Nat}{w1 W:World}{Rr:Ending->World->Prop}{z:Int}{t:TypeId}{D:Nat}{ts:Array Value}(hR:R<B)(hB:w1.heap.size=B)(hr:w1.heap[R]? = some (.cells #[.i6 0] t (0,0)))(hl:Vnc B R w1 z W)(hD:B+1<=D)(hK:W.heap[D]? = some (.deferred (some [])))
  (hp:ts.getD 4 undef=.pointer (some ⟨R,0,none⟩))(hRr:∀W,Below B (w1.setCell ⟨R,0,none⟩ (.i6 z)) W->Rr (.returned (.i6 z)) W):bodyPostM Fence.wide fu Tryz.prog Tryz.f156 Rr .ret { tmps:=ts,defers:=[{ target:=.collected D,args:=#[]}]} W:=by
 have hb:Below B (w1.setCell ⟨R,0,none⟩ (.i6 z)) (W.putObj D (.deferred none)):=
  hl.1.trans (belowK_b (w:=w1) (n₀:=B) (by omega) W D _ _ (by omega) hK rfl rfl)
 have hh:(W.putObj D (.deferred none)).heap[R]? = some (.cells #[.i6 z] t (0,0)):=(hb.block R hR).trans (KM hr);show LeavesInM _ _ _ _ _ _ (_::_) _ _;refine⟨by simp,.inl ⟨_,_,rfl,run_takeDeferred hK,?_⟩⟩;show LeavesIn _ _ _ _ _ _ [] _ _;exact⟨_,VaL (p:=4) (ty:=3) (d:=.int .i64) (by kernel_rfl) (by kernel_rfl) (by kernel_rfl) ts _ R (.i6 z) hp (by rw[Bm hh];rfl),hRr _ hb⟩
set_option maxRecDepth 100000 in
set_option maxHeartbeats 4000000 in
theorem Vjw {fu n:Nat}(hn:3<=fu){w1:World}{Rr:Ending->World->Prop}(bA R bb ob cb ba oa ca:Nat)(ao bo:Option Addr)(za zb:Nat->Nat)(hreach:n<=1099511627776)
  (hao:0<n->ao=some ⟨ba,oa,none⟩)(hbo:0<n->bo=some ⟨bb,ob,none⟩)(hA:bA<w1.heap.size)(hR:R<w1.heap.size)(hba:ba<w1.heap.size)(hbb:bb<w1.heap.size)
  (hbx:w1.cell? ⟨bA,0,none⟩=some (.slice bo n cb))(hrx:∃t,w1.heap[R]? = some (.cells #[.i6 0] t (0,0)))(hca:∀j,j<n->w1.cell? ⟨ba,oa+j,none⟩=some (.int .u32 (za j:Int)))(hcb:∀j,j<n->w1.cell? ⟨bb,ob+j,none⟩=some (.int .u32 (zb j:Int)))
  (hRr:∀z W,VjE n za zb z->Below w1.heap.size (w1.setCell ⟨R,0,none⟩ (.i6 z)) W->Rr (.returned (.i6 z)) W)
  (va:Value)(hva:va=.slice ao n ca)(t1 t2 t5 t6 t7 t8 t9 t10 t11 t12 t13 t14 t15 t16 t17 t18 t19 t20 t21 t22 t23 t24 t25 t26 t27 t28 t29 t30 t31 t32 t33 t34 t35 t36 t37 t38:Value):cdD.wpIn Fence.wide fu Tryz.prog (bodyPostM Fence.wide fu Tryz.prog Tryz.f156 Rr) { tmps:=#[va,t1,t2,.pointer (some ⟨bA,0,none⟩),.pointer (some ⟨R,0,none⟩),t5,t6,t7,t8,t9,t10,t11,t12,t13,t14,t15,t16,t17,t18,t19,t20,t21,t22,t23,t24,t25,t26,t27,t28,t29,t30,t31,t32,t33,t34,t35,t36,t37,t38],defers:=[]} w1:=by
 subst hva;have h1:1<=fu:=by omega
 have hro:Fence.wide.round=none:=rfl;have h205:Fence.wide.fn 205:=trivial
 conv in cdD=>whnf
 gi_wp2_with (gi_at_call 205;refine(Tryz.back_in Fence.wide (fu-1) trivial hro _ _ _ _).mono ?_;rintro e w' ⟨rfl,rfl⟩)
 obtain⟨tr,hrx⟩:=hrx;generalize hB:w1.heap.size=B at *;obtain⟨W0,hW0⟩:∃W0,w1.alloc (Obj.cells #[Value.slice ao n ca] 44)=W0:=⟨_,rfl⟩;rw[hW0];have hW0s:W0.heap.size=B+1:=by rw[<-hW0,World.size_alloc,hB]
 have hB0:Below B w1 W0:=by rw[<-hW0];exact Below.alloc (Below.refl _ _) (by omega) _
 have hbx0:W0.cell? ⟨B,0,none⟩=some (.slice ao n ca):=by
  have:W0.heap[B]? = some (Obj.cells #[Value.slice ao n ca] 44):=by have:=World.heap_new w1 (Obj.cells #[Value.slice ao n ca] 44);rw[hB]at this;rw[<-hW0];exact this
  rw[Bm this];rfl
 refine wpIn_rangeFunc_ownG hro h1 (gf:=229) (lb:=#[.pointer (some ⟨B,0,none⟩)]) rfl trivial (enters_of Tryz.func229 (by kernel_rfl) rfl)
  (Tryz.back_stops Fence.wide (fu-1) trivial hro (by omega) B B ba oa n ca ao hao za hreach W0 (by omega) hba (by omega) hbx0 (λj hj=>(hB0.cell (p:=⟨ba,oa+j,none⟩) hba).trans (hca j hj)))
  (λh k=>h.trans k) (λW l o o' hl ho h1 h2=>⟨belowK_b (by omega) W l o o' hl ho h1 h2,?hKb⟩) (Below.refl _ _) (λ_=>rfl)
  (λpre W=>VmD za zb pre/\Below B w1 W/\B+1<=W.heap.size)
  (λc pre W=>c=.ret/\∃z:Int,Vhn za zb pre z/\Vnc B R w1 z W)
  ?hI ?hIx
  ⟨λx hx=>(by cases hx),hB0,by omega⟩
  (λx=>{ tmps:=#[.slice ao n ca,t1,t2,.pointer (some ⟨bA,0,none⟩),.pointer (some ⟨R,0,none⟩),.i6 (x.1:Int),.int .u32 (za x.1:Int),t7,t8,t9,t10,t11,t12,t13,t14,t15,t16,t17,t18,t19,t20,.slice ao n ca,.func (.func 229) #[] #[.pointer (some ⟨B,0,none⟩)],.i6 (x.1:Int),.int .u32 (za x.1:Int),t25,t26,t27,t28,t29,t30,t31,t32,t33,t34,t35,t36,t37,t38],defers:=[]}) ?assign ?body ?done ?stop
 case hKb=>have hcB:∀(U V:World),V.heap[B]? = U.heap[B]? -> V.cell? ⟨B,0,none⟩=U.cell? ⟨B,0,none⟩:=λU V h=>World.cell?_of_block h;exact hcB _ _ (World.putObj_heap_other (by omega))
 case hI=>exact OwnFrom.and (λ_ _ _ _ h _ _=>h) (OwnFrom.and (ownFrom_below (by omega) (by omega)) (λ_ _ _ _ h hg _=>WV h hg.size))
 case hIx=>rintro c pre W W' row ⟨h1,z,h2,h3,h4⟩ hg hr;refine⟨h1,z,h2,?_,WV h4 hg.size⟩;exact ownFrom_below (β:=List (Fin n)) (B:=W0.heap.size) (by rw[FA];omega) (by omega) pre W W' row h3 hg hr
 case assign=>
  intro l x W K hK
  gi_wp2
  exact hK
 case body=>
  rintro l pre x W ⟨hE,hBw,h5⟩ _;have hx:=x.2;have hbo':=hbo (by omega);subst hbo';have hbx':=(hBw.cell (p:=⟨bA,0,none⟩) hA).trans hbx;have hcb':=(hBw.cell (p:=⟨bb,ob+x.1,none⟩) hbb).trans (hcb x.1 hx);have hR':=(hBw.block R hR).trans hrx;have hRf:W.frozen? ⟨R,0,none⟩=false:=by simp[World.frozen?,hR']
  have hRc:W.cell? ⟨R,0,none⟩=some (.i6 0):=by rw[Bm hR'];rfl
  by_cases hlt:za x.1<zb x.1
  ·have hlt':(za x.1:Int)<(zb x.1:Int):=(by omega);have hlaid:∀z:Int,z = -1->Vhn za zb (pre++[x]) z/\Vnc B R w1 z (W.setCell ⟨R,0,none⟩ (.i6 z)):=λz hz=>⟨⟨x,by omega,by simpa using hE,by simp,by rw[if_pos hlt];exact hz⟩,Vbd hBw hR hrx h5⟩;have hl:=hlaid (-1) rfl;generalize hT:Vhn za zb (pre++[x]) (-1)=T at hl;clear hlaid
   gi_wp2
   exact⟨VW (by omega),rfl,-1,by rw[hT];exact hl.1,hl.2⟩
  ·by_cases hgt:zb x.1<za x.1
   ·have hlt':¬(za x.1:Int)<(zb x.1:Int):=(by omega);have hgt':(zb x.1:Int)<(za x.1:Int):=(by omega);have hlaid:∀z:Int,z=1->Vhn za zb (pre++[x]) z/\Vnc B R w1 z (W.setCell ⟨R,0,none⟩ (.i6 z)):=λz hz=>⟨⟨x,by omega,by simpa using hE,by simp,by rw[if_neg hlt];exact hz⟩,Vbd hBw hR hrx h5⟩;have hl:=hlaid 1 rfl;generalize hT:Vhn za zb (pre++[x]) 1=T at hl;clear hlaid
    gi_wp2
    exact⟨VW (by omega),rfl,1,by rw[hT];exact hl.1,hl.2⟩
   ·have hlt':¬(za x.1:Int)<(zb x.1:Int):=(by omega);have hgt':¬(zb x.1:Int)<(za x.1:Int):=(by omega);have hE2:VmD za zb (pre++[x]):=λy hy=>by rcases WT.1 hy with h | h;exact hE y h;rw[WR.1 h];omega
    gi_wp2
    exact⟨KeepsFrom.refl _ _,⟨Below.refl _ _,rfl⟩,hE2,hBw,h5⟩
 case done=>
  rintro D ys W hD rfl ⟨hE,hBw,h5⟩ hK;have hR':=(hBw.block R hR).trans hrx;have hRf:W.frozen? ⟨R,0,none⟩=false:=by simp[World.frozen?,hR']
  have hRc:W.cell? ⟨R,0,none⟩=some (.i6 0):=by rw[Bm hR'];rfl
  have hgood:VjE n za zb 0:=.inl ⟨rfl,λj hj=>hE ⟨j,hj⟩ (Rx n ⟨j,hj⟩ (W7 _) (by omega))⟩;have hl:Vnc B R w1 0 (W.setCell ⟨R,0,none⟩ (.i6 0)):=Vbd hBw hR hrx h5
  gi_wp2
  refine VgN hR hB hrx hl (by omega) ?_ rfl (λW h=>hRr 0 W hgood h);rw[HT (by omega)];exact hK
 case stop=>
  rintro D c pre W hD ⟨k,hk,hpre⟩ ⟨rfl,z,⟨x,x1,x2,x3,x4⟩,hl⟩ hK;subst hpre;rw[ON hk]at x2 x3;simp only[List.dropLast_concat,List.getLast?_concat,WE]at x2 x3;subst x3;have hgood:VjE n za zb z:=.inr ⟨n-1-k,by omega,x1,λj h1 h2=>x2 ⟨j,h2⟩ (Rx k ⟨j,h2⟩ (by omega) (by dsimp only;omega)),x4⟩
  gi_wp2
  exact VgN hR hB hrx hl (by omega) hK rfl (λW h=>hRr z W hgood h)
open Go.RowKit Go.Proofs
set_option maxRecDepth 100000
def Q1 (tm:List Ab)(H:Aa):Out:=some (.ret (.tup tm),H)
def RZ (tm:List Ab)(H:Aa):Out:=some (.ret (.agg tm),H)
theorem VkO {x:Vhs}{tm tm':List Ab}{H H':Aa}(h:kK Q1 RZ x tm H=some (.ret (.tup tm'),H')):x=.normal/\tm=tm'/\H=H':=by cases x with|normal=>simp only[kK,Q1,WE,WY,Res.ret.injEq,Ab.tup.injEq]at h;exact⟨rfl,h⟩|ret=>simp[kK,RZ]at h|pan v=>simp[kK]at h|exit i=>simp[kK]at h
theorem Vpo {x:Vhs}{tm tm':List Ab}{H H':Aa}(h:kK Q1 RZ x tm H=some (.ret (.agg tm'),H')):x=.ret/\tm=tm'/\H=H':=by cases x with|normal=>simp[kK,Q1]at h|ret=>simp only[kK,RZ,WE,WY,Res.ret.injEq,Ab.agg.injEq]at h;exact⟨rfl,h⟩|pan v=>simp[kK]at h|exit i=>simp[kK]at h
theorem Ve6 {E:Env}{H:Aa}{w:World}(hs:Sim E H w){L:zAb}{tk:Tok}{v:Value}(h:Az E (.sl (enL cU L) tk) v)(hw:0<w.heap.size):∃(ao:Option Addr)(b o cap:Nat),v=.slice ao L.length cap/\(0<L.length->ao=some ⟨b,o,none⟩)/\b<w.heap.size/\∀j,j<L.length->w.cell? ⟨b,o+j,none⟩=some (.int .u32 ((L[j]?.getD 0:Nat):Int)):=by
 have hge:∀j (hj:j<L.length),(enL cU L)[j]? = some (cU L[j]):=λj hj=>by simp[enL,hj]
 have hle:(enL cU L).length=L.length:=by simp[enL]
 generalize hes:enL cU L=es at *;cases h with
 |@sl0 _ a cap ht ha=>
  have:L.length=0:=by simpa using hle.symm
  exact⟨a,0,0,cap,by rw[this],λh=>by omega,hw,λj hj=>by omega⟩
 |@sl _ _ b o s cap f hlen hI hmm hvv hcc htt=>by_cases hpos:0<L.length;have hs1:s=1:=(by have:=hlen 0 _ (hge 0 hpos);simpa using this.symm);subst hs1;refine⟨_,b,o,cap,by rw[hle],λ_=>rfl,hs.imm_lt (hI 0 0 (by omega) (by omega)),λj hj=>?_⟩;have h1:=hs.imm _ _ _ (hI j 0 (by omega) (by omega));have h2:=hvv j _ 0 _ (hge j hj) rfl;rw[Sn h2]at h1;rw[W4 hj];simpa using h1;exact⟨_,0,o,cap,by rw[hle],λh=>absurd h hpos,hw,λj hj=>by omega⟩
theorem Ve {l:zAb}{i:Nat}(h:i<l.length):val l=val (l.take i)+4294967296^i*(l[i]+4294967296*val (l.drop (i+1))):=by
 have e:l=l.take i++(l[i]::l.drop (i+1)):=by rw[<-Xb h,Xk]
 conv=>lhs;rw[e]
 rw[CC,WN,X4 (by omega)]
 rfl
theorem VpM {a b P W x y d:Nat}(ha:a<P)(hxy:x<y):a+P*(x+W*d)<b+P*(y+W*d):=by
 have h1:P*(x+W*d)+P<=P*(y+W*d):=by rw[<-Nat.mul_succ];exact XH _ (by omega)
 omega
theorem Veo {l m:zAb}(hl:Lim l)(he:l.length=m.length){i:Nat}(h:i<l.length)(h':i<m.length)(hd:l.drop (i+1)=m.drop (i+1))(hlt:l[i]<m[i]):val l<val m:=by have h1:=G8 (l:=l.take i) λy hy=>hl y (X5 hy);rw[WN,X4 (by omega)]at h1;rw[Ve h,Ve h',hd];exact VpM h1 hlt
theorem Vja {A B:Nat}(hlen:(AB A).length=(AB B).length){z:Int}(h:VjE (AB A).length (λj=>(AB A)[j]?.getD 0) (λj=>(AB B)[j]?.getD 0) z):z=if A<B then -1 else if A=B then 0 else 1:=by
 rcases h with ⟨rfl,h⟩ | ⟨i,hi,hne,hab,rfl⟩
 ·have:AB A=AB B:=by apply List.ext_getElem hlen;intro j h1 h2;have:=h j h1;dsimp only at this;rw[W4 h1,W4 h2]at this;exact this
  have e:A=B:=by rw[<-B9 A,<-B9 B,this]
  rw[if_neg (by omega),if_pos e]
 ·have hi2:i<(AB B).length:=by omega
  have g1:(AB A)[i]?.getD 0=(AB A)[i]:=by rw[W4 hi];rfl
  have g2:(AB B)[i]?.getD 0=(AB B)[i]:=by rw[W4 hi2];rfl
  have hd:(AB A).drop (i+1)=(AB B).drop (i+1):=by apply List.ext_getElem (by simp[hlen]);intro j h1 h2;rw[WS]at h1 h2;have:=hab (i+1+j) (by omega) (by omega);dsimp only at this;rw[W4 (by omega),W4 (by omega)]at this;rw[Y3,Y3];exact this
  dsimp only at hne⊢;rw[g1,g2]at hne;have e:((AB A)[i]?.getD 0<(AB B)[i]?.getD 0)↔(AB A)[i]<(AB B)[i]:=by rw[g1,g2]
  by_cases hlt:(AB A)[i]<(AB B)[i];have:=Veo (Bz A) hlen hi hi2 hd hlt;rw[B9,B9]at this;rw[if_pos (e.2 hlt),if_pos this];have:=Veo (Bz B) hlen.symm hi2 hi hd.symm (by omega);rw[B9,B9]at this;rw[if_neg (λh=>hlt (e.1 h)),if_neg (by omega),if_neg (by omega)]
theorem VlA {A B:Nat}(hne:¬(AB A).length=(AB B).length):(if (AB A).length<(AB B).length then (-1:Int)else 1)=if A<B then -1 else if A=B then 0 else 1:=by
 by_cases h:(AB A).length<(AB B).length
 ·have:A<B:=by rcases Xj A B with q | q;exact q;have:=NJ q;omega
  rw[if_pos h,if_pos this]
 ·have:B<A:=by rcases Xj B A with q | q;exact q;have:=NJ q;omega
  rw[if_neg h,if_neg (by omega),if_neg (by omega)]
theorem VjZ {E:Env}{x:Ab}{vs:Array Value}(h:A4 E [x] vs.toList):∃v,vs = #[v]/\Az E x v:=Vox h
theorem B1 {α:Type}{n:Nat}{l:List α}(h:l.length=n+1):∃x r,l=x::r/\r.length=n:=by cases l with|nil=>cases h|cons x r=>exact⟨x,r,rfl,by simpa using h⟩
theorem Vp2 (ts:Array Value)(h:ts.toList.length=39):∃t0 t1 t2 t3 t4 t5 t6 t7 t8 t9 t10 t11 t12 t13 t14 t15 t16 t17 t18 t19 t20 t21 t22 t23 t24 t25 t26 t27 t28 t29 t30 t31 t32 t33 t34 t35 t36 t37 t38:Value,ts = #[t0,t1,t2,t3,t4,t5,t6,t7,t8,t9,t10,t11,t12,t13,t14,t15,t16,t17,t18,t19,t20,t21,t22,t23,t24,t25,t26,t27,t28,t29,t30,t31,t32,t33,t34,t35,t36,t37,t38]:=by obtain⟨l⟩:=ts;dsimp only at h;obtain⟨t0,l0,rfl,h0⟩:=B1 h;obtain⟨t1,l1,rfl,h1⟩:=B1 h0;obtain⟨t2,l2,rfl,h2⟩:=B1 h1;obtain⟨t3,l3,rfl,h3⟩:=B1 h2;obtain⟨t4,l4,rfl,h4⟩:=B1 h3;obtain⟨t5,l5,rfl,h5⟩:=B1 h4;obtain⟨t6,l6,rfl,h6⟩:=B1 h5;obtain⟨t7,l7,rfl,h7⟩:=B1 h6;obtain⟨t8,l8,rfl,h8⟩:=B1 h7;obtain⟨t9,l9,rfl,h9⟩:=B1 h8;obtain⟨t10,l10,rfl,h10⟩:=B1 h9;obtain⟨t11,l11,rfl,h11⟩:=B1 h10;obtain⟨t12,l12,rfl,h12⟩:=B1 h11;obtain⟨t13,l13,rfl,h13⟩:=B1 h12;obtain⟨t14,l14,rfl,h14⟩:=B1 h13;obtain⟨t15,l15,rfl,h15⟩:=B1 h14;obtain⟨t16,l16,rfl,h16⟩:=B1 h15;obtain⟨t17,l17,rfl,h17⟩:=B1 h16;obtain⟨t18,l18,rfl,h18⟩:=B1 h17;obtain⟨t19,l19,rfl,h19⟩:=B1 h18;obtain⟨t20,l20,rfl,h20⟩:=B1 h19;obtain⟨t21,l21,rfl,h21⟩:=B1 h20;obtain⟨t22,l22,rfl,h22⟩:=B1 h21;obtain⟨t23,l23,rfl,h23⟩:=B1 h22;obtain⟨t24,l24,rfl,h24⟩:=B1 h23;obtain⟨t25,l25,rfl,h25⟩:=B1 h24;obtain⟨t26,l26,rfl,h26⟩:=B1 h25;obtain⟨t27,l27,rfl,h27⟩:=B1 h26;obtain⟨t28,l28,rfl,h28⟩:=B1 h27;obtain⟨t29,l29,rfl,h29⟩:=B1 h28;obtain⟨t30,l30,rfl,h30⟩:=B1 h29;obtain⟨t31,l31,rfl,h31⟩:=B1 h30;obtain⟨t32,l32,rfl,h32⟩:=B1 h31;obtain⟨t33,l33,rfl,h33⟩:=B1 h32;obtain⟨t34,l34,rfl,h34⟩:=B1 h33;obtain⟨t35,l35,rfl,h35⟩:=B1 h34;obtain⟨t36,l36,rfl,h36⟩:=B1 h35;obtain⟨t37,l37,rfl,h37⟩:=B1 h36;obtain⟨t38,l38,rfl,h38⟩:=B1 h37;obtain rfl:=WM h38;exact⟨t0,t1,t2,t3,t4,t5,t6,t7,t8,t9,t10,t11,t12,t13,t14,t15,t16,t17,t18,t19,t20,t21,t22,t23,t24,t25,t26,t27,t28,t29,t30,t31,t32,t33,t34,t35,t36,t37,t38,rfl⟩
theorem Vp5 {E:Env}{H:Aa}{w:World}{args:List Ab}{vs:Array Value}{n:Nat}(hs:Sim E H w)(hv:A4 E args vs.toList)(hn:args.length<=n):I0 n E H (args++List.replicate (n-args.length) .undef) { tmps:=vs++Array.replicate (n-vs.size) undef,defers:=[]} w:=by
 have hlen:args.length=vs.size:=by simpa using hv.1
 refine⟨?_,by simp;omega,rfl,hs⟩;rw[Yx];refine hv.append ⟨by simp[hlen],λi c v h1 h2=>?_⟩;rw[YB]at h1;split at h1
 simp at h1;subst h1;exact .undef _;cases h1
def Ps:List Bool->List Ab->List Ab
 |true::m,x::xs=>x::Ps m xs
 |_::m,_::xs=>.undef::Ps m xs
 |[],xs=>xs
 |_,[]=>[]
theorem QA:∀(m:List Bool)(xs:List Ab),(Ps m xs).length=xs.length
 |[],[]=>rfl
 |[],_::_=>rfl
 |_::_,[]=>by simp[Ps]
 |true::m,x::xs=>by simp[Ps,QA m xs]
 |false::m,x::xs=>by simp[Ps,QA m xs]
theorem Q0 {E:Env}:∀(m:List Bool)(xs:List Ab)(vs:List Value),A4 E xs vs->A4 E (Ps m xs) vs
 |[],[],_,h=>h
 |[],_::_,_,h=>h
 |_::_,[],_,h=>by simpa[Ps]using h
 |b::m,x::xs,[],h=>absurd h.1 (by simp)
 |true::m,x::xs,v::vs,h=>A4.cons h.head (Q0 m xs vs h.tail)
 |false::m,x::xs,v::vs,h=>A4.cons (.undef _) (Q0 m xs vs h.tail)
theorem Vgm {n:Nat}{E:Env}{H:Aa}{tm:List Ab}{a:Act}{w:World}(m:List Bool)(h:I0 n E H tm a w):I0 n E H (Ps m tm) a w:=
 ⟨Q0 m tm _ h.rel,by rw[QA];exact h.len,h.defers,h.sim⟩
theorem Vac (w:World)(R:Nat)(v:Value):w.setCells R 0 [v]=w.setCell ⟨R,0,none⟩ v:=rfl
theorem Kd:AH Tryz.prog Gs 156 (ap2 Ufd):=by
 intro args H res H' h;unfold ap2 at h;split at h
 ·rename_i a b;unfold Ufd at h;split at h
  ·rename_i es ta fs tb;split at h
   ·rename_i hex;have hsp:=hex.choose_spec;generalize hp:hex.choose=p at hsp h;obtain⟨la,lb⟩:=p;dsimp only at hsp h;obtain⟨rfl,rfl,xa,xb,ha,hb⟩:=hsp;simp only[WE,WY]at h;obtain⟨rfl,rfl⟩:=h;intro E w vs hG hs hv;obtain⟨va,vb,rfl,k1,k2⟩:=Vmz hv;have hlA:(AB (val la)).length<=1099511627776:=WV (Fm (G8 xa)) ha;have hlB:(AB (val lb)).length<=1099511627776:=WV (Fm (G8 xb)) hb;refine .inl ⟨FI Tryz.func156 (by kernel_rfl) (by kernel_rfl) _ w,?_⟩;refine callsIn_wide.1 (callsIn_of_wp_marks (n:=3) Tryz.func156 Vj6 trivial ?_ rfl);have hC:N0 UO:=Vly (Ag DX (Ar _ _));have hD:Vdq UO:=Vg7 hC mixed;have hfr:I0 39 E H [.sl (enL cU la) ta,.sl (enL cU lb) tb,.undef,.undef,.undef,.undef,.undef,.undef,.undef,.undef,.undef,.undef,.undef,.undef,.undef,.undef,.undef,.undef,.undef,.undef,.undef,.undef,.undef,.undef,.undef,.undef,.undef,.undef,.undef,.undef,.undef,.undef,.undef,.undef,.undef,.undef,.undef,.undef,.undef] { tmps:=#[va,vb]++Array.replicate (39 - #[va,vb].size) undef,defers:=[]} w:=Vp5 hs hv (by simp);rw[Tryz.ntmps156];obtain⟨HB,hHB⟩:∃HB:Aa,HB=H++[.c0 [.sl (enL cU (AB (val lb))) .no]]++[.c0 [.i6 0]]:=⟨_,rfl⟩;have hAev:=Vok Q1 RZ (.sl (enL cU la) ta) (.sl (enL cU lb) tb) H;rw[Vmo,<-Vjj]at hAev;refine wpIn_seq (wpIn_mono (wpIn_wide.2 (Ub hC hD cdA _ (kK Q1 RZ) E _ H _ w hG (BS.refl E H w) hfr hAev)) ?_);rintro e1 a1 w1 ⟨E1,H1,tm1,x1,hG1,st1,hf1,hx1,hk1⟩;obtain⟨rfl,rfl,rfl⟩:=VkO hk1;cases e1<;>first | exact hx1.elim | skip
    have hBev:=Voj Q1 RZ (.sl (enL cU la) ta) (.sl (enL cU lb) tb) (.ptr H.length 0 0) (.ptr (H.length+1) 0 0) (H++[.c0 [.sl (enL cU lb) tb]]++[.c0 [.i6 0]]);rw[Vmn Q1 ta tb H xa xb ha hb,<-Vjj]at hBev;refine wpIn_seq (wpIn_mono (wpIn_wide.2 (Ub hC hD cdB _ (kK Q1 RZ) E1 _ _ a1 w1 hG1 st1 hf1 hBev)) ?_);rintro e2 a2 w2 ⟨E2,H2,tm2,x2,hG2,st2,hf2,hx2,hk2⟩;obtain⟨rfl,rfl,rfl⟩:=VkO hk2;cases e2<;>first | exact hx2.elim | skip
    have hf2':I0 39 E2 HB [.sl (enL cU (AB (val la))) .no,.undef,.undef,.ptr H.length 0 0,.ptr (H.length+1) 0 0,.undef,.undef,.undef,.undef,.undef,.undef,.undef,.undef,.undef,.undef,.undef,.undef,.undef,.undef,.undef,.undef,.undef,.undef,.undef,.undef,.undef,.undef,.undef,.undef,.undef,.undef,.undef,.undef,.undef,.undef,.undef,.undef,.undef,.undef] a2 w2:=hHB ▸ Vgm [true,false,false,true,true,false,false,false,false,false,false,false,false,false,false,false,false,false,false,false,false,false,false,false,false,false,false,false,false,false,false,false,false,false,false,false,false,false,false] hf2;have hCev:=Voi Q1 RZ (.sl (enL cU (AB (val la))) .no) (.ptr H.length 0 0) (.ptr (H.length+1) 0 0) HB;obtain⟨tm3,hl3,g0,g3,g4,hres⟩:=Vmm Q1 RZ (val la) (val lb) .no .no H hlA hlB;have fin2:∀(z:Int)(HX:Aa)(E3:Env)(W:World),HX=H++[.c0 [.sl (enL cU (AB (val lb))) .no]]++[.c0 [.i6 z]]->Sim E3 HX W->BS E H w E3 HX W->∃E',J2 E' (.ret (.i6 z)) (.returned (.i6 z))/\Sim E' H W/\BS E H w E' H W:=(by intro z HX E3 W hHX hsim hst;have hfin:fin .pure H (.ret (.i6 z)) HX=some (.ret (.i6 z),H):=(by have:rP H (.i6 z) HX=some (.ret (.i6 z),H):=(by rw[hHX,WD];exact It);exact this);obtain⟨E',q1,q2,q3⟩:=Vgw (r:=.ret (.i6 z)) (e:=.returned (.i6 z)) hs hst hsim (show J2 E3 _ _ from Az.int _ _) hfin;exact⟨E',q1,q2,q3⟩);rw[<-hHB]at hres;rw[hres,<-Vjj]at hCev;by_cases hlen:(AB (val la)).length=(AB (val lb)).length
    ·rw[if_pos hlen]at hCev;refine wpIn_seq (wpIn_mono (wpIn_wide.2 (Ub hC hD cdC _ (kK Q1 RZ) E2 _ HB a2 w2 hG2 (hHB ▸ st2) hf2' hCev)) ?_);rintro e3 a3 w3 ⟨E3,H3,tm4,x3,hG3,st3,hf3,hx3,hk3⟩;obtain⟨rfl,rfl,hHH⟩:=VkO hk3;rw[hHH]at hf3 st3;cases e3<;>first | exact hx3.elim | skip
     have hl39:a3.tmps.toList.length=39:=(by rw[<-hf3.rel.1];exact hf3.len);obtain⟨ts,ds⟩:=a3;obtain⟨t0,t1,t2,t3,t4,t5,t6,t7,t8,t9,t10,t11,t12,t13,t14,t15,t16,t17,t18,t19,t20,t21,t22,t23,t24,t25,t26,t27,t28,t29,t30,t31,t32,t33,t34,t35,t36,t37,t38,hts⟩:=Vp2 ts hl39;have hds:ds=[]:=hf3.defers;subst hds;subst hts;obtain⟨u0,p0,r0⟩:=hf3.rel.get g0;obtain⟨u3,p3,r3⟩:=hf3.rel.get g3;obtain⟨u4,p4,r4⟩:=hf3.rel.get g4;obtain rfl:t0=u0:=(by simpa using p0);obtain rfl:t3=u3:=(by simpa using p3);obtain rfl:t4=u4:=(by simpa using p4);have hsim:=hf3.sim;obtain⟨bA,f3,rfl⟩:=r3.ptr_inv;obtain⟨R,f4,rfl⟩:=r4.ptr_inv;have e1:HB[H.length]? = some (.c0 [.sl (enL cU (AB (val lb))) .no]):=(by rw[hHB];simp);have e2:HB[H.length+1]? = some (.c0 [.i6 0]):=(by rw[hHB];simp);obtain⟨b0,c0,y0,q0,q1,q2,_⟩:=hsim.blk _ _ e1;obtain⟨b1,c1,y1,q4,q5,q6,_⟩:=hsim.blk _ _ e2;rw[f3]at q0;rw[f4]at q4;cases q0;cases q4;obtain⟨vb3,rfl,rb⟩:=VjZ q2;obtain⟨vr3,rfl,rr⟩:=VjZ q6;have hvr:=Sn rr;subst hvr;have hw0:bA<w3.heap.size:=(Xn.1 q1).1;have hwR:R<w3.heap.size:=(Xn.1 q5).1;obtain⟨ao,ba,oa,ca,rfl,hao,hba,hca⟩:=Ve6 hsim r0 (by omega);obtain⟨bo,bb,ob,cb,rfl,hbo,hbb,hcb⟩:=Ve6 hsim rb (by omega);rw[<-hlen]at hbo hcb q1;refine Vjw (n:=(AB (val la)).length) (W7 3) bA R bb ob cb ba oa ca ao bo (λj=>(AB (val la))[j]?.getD 0) (λj=>(AB (val lb))[j]?.getD 0) hlA hao hbo hw0 hwR hba hbb (by rw[Bm q1];rfl) ⟨y1,q5⟩ hca hcb (λz W hg hbel=>?_) _ rfl t1 t2 t5 t6 t7 t8 t9 t10 t11 t12 t13 t14 t15 t16 t17 t18 t19 t20 t21 t22 t23 t24 t25 t26 t27 t28 t29 t30 t31 t32 t33 t34 t35 t36 t37 t38;have hz:=Vja hlen hg;have hst:Ai 1 (.ptr (H.length+1) 0 0) (.i6 z) HB=some (H++[.c0 [.sl (enL cU (AB (val lb))) .no]]++[.c0 [.i6 z]]):=by
      rw[HD e2 rfl (by simp),hHB]
      congr 1
      rw[Xl _ _ (by simp)];simp
     obtain⟨b',o',cs',tt',w1',w2',w3',w4',w5',w6',w7'⟩:=My hsim (.ptr f4) (.i6 z) hst;injection w1' with w1';injection w1' with w1';injection w1' with w1a w1b;subst w1a;subst w1b;have hce:(Value.i6 z).cells.toList=[Value.i6 z]:=rfl;rw[hce,Vac]at w6' w7';have hext:=w6'.ext (.refl E3) (λ_ _ _ h=>h) (λ_ _ _ h=>h) (λb hb=>hbel.block b (by rw[FA]at hb;exact hb)) (λ_ _=>rfl) (λb o v hv hb=>by have:=w6'.imm_lt hv;omega) hbel.os hbel.tape hbel.output hbel.size;obtain⟨E',k1',k2',k3'⟩:=fin2 z _ E3 W rfl hext.1 ((st3.trans w7').trans hext.2);refine⟨E',?_,k2',k3'⟩;rw[<-hz];exact k1'
    ·rw[if_neg hlen]at hCev;refine wpIn_seq (wpIn_mono (wpIn_wide.2 (Ub hC hD cdC _ (kK Q1 RZ) E2 _ HB a2 w2 hG2 (hHB ▸ st2) hf2' hCev)) ?_);rintro e3 a3 w3 ⟨E3,H3,tm4,x3,hG3,st3,hf3,hx3,hk3⟩;obtain⟨rfl,rfl,rfl⟩:=Vpo hk3;cases e3<;>first | exact hx3.elim | skip
     have hz:=VlA hlen;have hra:Gc UO Tryz.f156.results.toList tm4 (H++[.c0 [.sl (enL cU (AB (val lb))) .no]]++[.c0 [.i6 (if (AB (val la)).length<(AB (val lb)).length then -1 else 1)]])=some (.i6 (if (AB (val la)).length<(AB (val lb)).length then -1 else 1)):=by
      have hrs:Tryz.f156.results.toList=[.cell 4 3]:=(by kernel_rfl);have hld:Ad false 1 (.ptr (H.length+1) 0 0) (H++[Blk.c0 [.sl (enL cU (AB (val lb))) .no]]++[.c0 [.i6 (if (AB (val la)).length<(AB (val lb)).length then -1 else 1)]])=some (.i6 (if (AB (val la)).length<(AB (val lb)).length then -1 else 1)):=by
       simp only[Ad,Ax (show(H++[Blk.c0 [.sl (enL cU (AB (val lb))) .no]]++[Blk.c0 [.i6 (if (AB (val la)).length<(AB (val lb)).length then -1 else 1)]])[H.length+1]? = some (.c0 [.i6 (if (AB (val la)).length<(AB (val lb)).length then -1 else 1)])by simp),zXa]
       rfl
      rw[hrs];show I8 UO tm4 _ (.cell 4 3)=_;have hd4:tm4.getD 4 .undef=.ptr (H.length+1) 0 0:=(by rw[W6,g4];rfl);have hok:okT UO.P 3=true:=(by kernel_rfl);have hagg:BM UO.P 3=false:=(by kernel_rfl);have hsz:As UO.P 3=1:=(by kernel_rfl);simp only[I8,hok,hagg,hsz,hd4,Xo,WB,if_false];exact hld
     obtain⟨v,r1,r2⟩:=Tj (fn:=Tryz.f156) hf3 hra;have hv3:=Sn r2;subst hv3;show LeavesInM _ _ _ _ _ _ a3.defers _ _;rw[hf3.defers];show LeavesIn _ _ _ _ _ _ [] _ _;refine⟨_,r1,?_⟩;obtain⟨E',q1,q2,q3⟩:=fin2 _ _ E3 w3 rfl hf3.sim st3;refine⟨E',?_,q2,q3⟩;rw[<-hz];exact q1
   cases h
  cases h
 cases h
open Go.Proofs Go.RowKit Go.Shelf
theorem Vqo (x:Nat)(H:Aa):UdG (.int .i32 x) H=some (.ret (.bool (LP x)),H):=by
 unfold UdG LP;by_cases h:x<48
 ·have h':(x:Int)<48:=by omega
  simp[h,h']
 ·have h':¬(x:Int)<48:=by omega
  by_cases h2:57<x;have oT:(57:Int)<x:=(by omega);simp[h,h',h2,oT];have oT:¬(57:Int)<x:=(by omega);simp[h,h',h2,oT]
theorem Lr:AH Tryz.prog Gs 234 (ap2 UaL):=by
 intro args H res H' h;unfold ap2 at h;split at h
 ·unfold UaL at h;split at h
  ·rename_i s;cases h;refine Vkc Tryz.func234 (by kernel_rfl) λE w vs hG hs hv=>?_;obtain⟨v,u,rfl,h1,h2⟩:=Vmz hv;rw[Vei h1];have hu:u=.func (.func 235) #[] #[]:=by
    cases h2 with
    |@fn _ _ vs' pE aP=>exact congrArg _ (Array.eq_empty_of_size_eq_zero pE.symm)
   rw[hu];refine⟨_,.int _ _,Tryz.strings_IndexFunc_grows 235 #[] (λa w=>FI Tryz.func235 (by kernel_rfl) (by kernel_rfl) a w) LP ⟨s.toArray⟩ w λW x hx hb=>?_⟩;refine(Vjd PZ Tryz.func235 (by kernel_rfl) (λ_ _ h=>nomatch h) (Vp hs hb).1 (args:=[.int .i32 x]) (A4.cons (.int _ _) (A4.nil _)) (Vqo x [])).mono λe w' ⟨⟨E',he⟩,hw⟩=>⟨?_,hw⟩;cases e with|returned v=>rw[Az.bool_inv he]|panicked c=>exact he.elim|outgrown=>exact he.elim
  cases h
 cases h
theorem Ls:AH Tryz.prog Gs 177 (ap2 UaM):=by
 intro args H res H' h;unfold ap2 at h;split at h
 ·unfold UaM at h;split at h
  rename_i s c;cases h;refine Vkc Tryz.func177 (by kernel_rfl) λE w vs hG hs hv=>?_;obtain⟨v,u,rfl,h1,h2⟩:=Vmz hv;rw[Vei h1,Sn h2];exact⟨_,.int _ _,(Tryz.strings_IndexByte ⟨s.toArray⟩ c w).mono λe w' ⟨he,hw⟩=>⟨by simpa using he,hw ▸ Below.refl _ _⟩⟩;cases h
 cases h
end Go.Gm
namespace Go.Proofs
open Go.RowKit
set_option maxRecDepth 10000 in
theorem Tryz.catch_panickingR (p:Addr)(c0 c1:Value)(older:List PanicEntry)(w:World){wa w1:World}(hs0:Sem.run Tryz.prog (store p c0) w=.ok () wa)(hs1:Sem.run Tryz.prog (store { block:=p.block,off:=p.off+1} c1) wa=.ok () w1):CallsD Tryz.prog 124 #[.pointer (some p)] (.panicking ({ v:=.iface 127 (.agg #[c0,c1]),recovered:=false}::older)) w λe u' w'=>e=.returned (.tuple #[])/\u'=.panicking ({ v:=.iface 127 (.agg #[c0,c1]),recovered:=true}::older)/\w'=w1:=by
 have hta:Sem.run Tryz.prog (Instr.typeAssert (.iface 127 (.agg #[c0,c1])) 20 127 false) w=.ok (.agg #[c0,c1]) w:=by kernel_rfl
 refine callsD_of_wpS Tryz.func124 rfl λc₀ cs hu=>?_;apply wpS_seq;apply wpS_region;simp[wpOpsS,go_sem,recoverD,hu,Tryz.ntmps124,Exit.thenS];apply wpS_seq;apply wpS_region;simp[wpOpsS,go_sem,Exit.thenS];refine wpS_cond (t:=true) (by simp[Act.eval,Array.replicate]) ?_;simp only[if_true];apply wpS_region;simp[wpOpsS,go_sem,bodyPostS,results,Tryz.results124,hta,hs0,hs1]
set_option maxRecDepth 10000 in
theorem Tryz.catch_idleR (p:Addr)(w:World):CallsD Tryz.prog 124 #[.pointer (some p)] .returning w λe u' w'=>e=.returned (.tuple #[])/\u'=.returning/\w'=w:=by
 refine callsD_of_wpS Tryz.func124 rfl λc₀ cs hu=>?_;apply wpS_seq;apply wpS_region;simp[wpOpsS,go_sem,recoverD,hu,Tryz.ntmps124,Exit.thenS];apply wpS_seq;apply wpS_region;simp[wpOpsS,go_sem,Exit.thenS];refine wpS_cond (t:=false) (by simp[Act.eval,Array.replicate]) ?_;simp only[Bool.false_eq_true,if_false];refine wpS_of_wp (wp_skip ?_);cases c₀
 simp_all [bodyPostS,results,Tryz.results124]
end Go.Proofs
namespace Go.Proofs
open Go.RowKit
theorem Tryz.box_cellsR {w:World}{b:Nat}{x0 x1:Value}{t:TypeId}(hbox:w.heap[b]? = some (.cells #[x0,x1] t (0,0)))(y0 y1:Value):(w.setCell ⟨b,0,none⟩ y0).cell? ⟨b,1,none⟩=some x1/\(w.setCell ⟨b,0,none⟩ y0).frozen? ⟨b,1,none⟩=false /\
   ((w.setCell ⟨b,0,none⟩ y0).setCell ⟨b,1,none⟩ y1).cell? ⟨b,0,none⟩=some y0/\((w.setCell ⟨b,0,none⟩ y0).setCell ⟨b,1,none⟩ y1).cell? ⟨b,1,none⟩=some y1:=by
 have sz:b<w.heap.size:=by rcases Nat.lt_or_ge b w.heap.size with h | h;exact h;rw[Array.getElem?_eq_none h]at hbox;cases hbox
 have hx:w.heap[b]=.cells #[x0,x1] t (0,0):=by rw[Array.getElem?_eq_getElem sz]at hbox;exact Option.some.inj hbox
 refine⟨?_,?_,?_,?_⟩ <;> simp[World.cell?,World.frozen?,World.setCell,hx,sz,Array.getElem_modify]
set_option maxRecDepth 10000 in
set_option maxHeartbeats 1000000 in
theorem Tryz.caught_inR (g:Nat)(caps:Array Value)(w:World)(eg:∀args w,(callFunc g args).run Tryz.prog w=.ok (.enter g args) w){R:Ending->World->Prop}
  (hj:Calls Tryz.prog g caps (w.alloc (.cells #[.i6 0,.string ⟨#[]⟩] 127)) R)
  (hR:∀e w2,R e w2->(∃t c0 c1,w2.heap[w.heap.size]? = some (.cells #[c0,c1] t (0,0)))/\((∃v,e=.returned v)\/∃c0 c1,Value.oneCell' c0=true/\Value.oneCell' c1=true/\e=.panicked [{ v:=.iface 127 (.agg #[c0,c1]),recovered:=false}])):Calls Tryz.prog 68 #[.func (.func g) caps #[]] w λe w'=>∃e2 w2,R e2 w2/\∃c0 c1,e=.returned (.agg #[c0,c1])/\w'=(w2.setCell ⟨w.heap.size,0,none⟩ c0).setCell ⟨w.heap.size,1,none⟩ c1 /\
   ((∃v,e2=.returned v/\c0=.i6 0/\c1=.string ⟨#[]⟩)\/e2=.panicked [{ v:=.iface 127 (.agg #[c0,c1]),recovered:=false}]):=by
 have hmf:∀(fn:Fn)(first cap:Array Value)(w:World),(Instr.makeFunc fn first cap).run Tryz.prog w=.ok (.func fn first cap) w:=λ_ _ _ _=>rfl
 go_enter_defers Tryz.func68,Tryz.ntmps68
 go_wp2
 refine hj.mono ?_;rintro e w2 hr;obtain⟨⟨t,x0,x1,hbox⟩,h⟩:=hR _ _ hr;have c0:w2.cell? ⟨w.heap.size,0,none⟩=some x0:=by simp[World.cell?,hbox]
 have c1:w2.cell? ⟨w.heap.size,1,none⟩=some x1:=by simp[World.cell?,hbox]
 have f0:w2.frozen? ⟨w.heap.size,0,none⟩=false:=by simp[World.frozen?,hbox]
 have f1:w2.frozen? ⟨w.heap.size,1,none⟩=false:=by simp[World.frozen?,hbox]
 have K:=λy0 y1=>Tryz.box_cellsR (w:=w2) hbox y0 y1;rcases h with ⟨v,rfl⟩ | ⟨y0,y1,o0,o1,rfl⟩
 ·obtain⟨k1,k2,k3,k4⟩:=K (.i6 0) (.string ⟨#[]⟩)
  go_wp2
  refine leaves_cons (f:=124) (args:=#[.pointer (some ⟨w.heap.size,0,none⟩)]) (by simp) (by simp[go_sem]) ?_;refine(Tryz.catch_idleR ⟨w.heap.size,0,none⟩ _).mono ?_;rintro e u' w'' ⟨rfl,rfl,rfl⟩;simp[Leaves,settle,results,Tryz.results68,go_sem,k3,k4];exact⟨_,_,hr,_,_,⟨rfl,rfl⟩,rfl,Or.inl ⟨⟨_,rfl⟩,rfl,rfl⟩⟩
 obtain⟨k1,k2,k3,k4⟩:=K y0 y1;refine leaves_cons (f:=124) (args:=#[.pointer (some ⟨w.heap.size,0,none⟩)]) (by simp) (by simp[go_sem]) ?_;refine(Tryz.catch_panickingR ⟨w.heap.size,0,none⟩ y0 y1 [] _ (wa:=w2.setCell ⟨w.heap.size,0,none⟩ y0) (w1:=(w2.setCell ⟨w.heap.size,0,none⟩ y0).setCell ⟨w.heap.size,1,none⟩ y1) ?_ ?_).mono ?_;rw[run_store _ _ _ _ _ o0];simp[c0,f0];rw[run_store _ _ _ _ _ o1];simp[k1,k2];rintro e u' w'' ⟨rfl,rfl,rfl⟩;simp[Leaves,settle,results,Tryz.results68,go_sem,k3,k4];exact⟨_,_,hr,_,_,⟨rfl,rfl⟩,rfl,Or.inr rfl⟩
end Go.Proofs
namespace Go.Gm
open Go.Proofs Go.RowKit
theorem Sim.asideR {E:Env}{H:Aa}{w w':World}(hs:Sim E H w){b:Nat}(h1:¬Ny E H b)(h2:∀o,E.I b o=none)(hh:∀x,x≠b->w'.heap[x]? = w.heap[x]?):Sim E H w':=by
 have ne:∀id b',loc E H id=some b'->b'≠b:=λid b' hl e=>h1 ⟨id,e ▸ hl⟩;constructor;intro id B hB;refine((hs.blk id B hB).keep (.refl E) (λb' hl=>hh b' (ne id b' ?_)) (λ_ _=>rfl)).1;unfold loc;rw[hB];exact hl;exact hs.dom;exact hs.domk;exact hs.late;exact hs.inj
 ·intro b' o v hv;have hne:b'≠b:=λe=>by rw[e,h2 o]at hv;cases hv
  have:=hs.imm b' o v hv;simp only[World.cell?]at this⊢;rw[hh b' hne];exact this
 ·intro b' cs hf;obtain⟨⟨t,fr,k1⟩,⟨v,k2⟩,k3⟩:=hs.fix b' cs hf;have hne:b'≠b:=λe=>by rw[e,h2 0]at k2;cases k2
  exact⟨⟨t,fr,by rw[hh b' hne];exact k1⟩,⟨v,k2⟩,k3⟩
theorem UZ {orc:Orc}(ho:Hl Tryz.prog Gs orc):AH Tryz.prog Gs 68 (ap1 (PX orc)):=by
 intro args H res H' h;unfold ap1 at h;split at h
 case h_2=>cases h
 rename_i job;unfold PX at h;split at h
 case h_2=>cases h
 rename_i caps;cases hr:orc 69 caps H with
 |none=>rw[hr]at h;cases h
 |some r=>
  obtain⟨r,H1⟩:=r;rw[hr]at h;cases hc:SG r with
  |none=>simp[hc]at h
  |some x=>
   have hx:Res.ret x=res/\H1=H':=(by simpa[hc]using h);obtain⟨rfl,rfl⟩:=hx;intro E w vs hG hs hv;obtain⟨v,rfl,h1⟩:=Vox hv;cases h1 with
   |bfn hn hcv=>
    rename_i cv;obtain⟨s1,st1⟩:=hs.laid (.cells #[.i6 0,.string ⟨#[]⟩] 127);have hcs:A4 E caps cv.toList:=⟨by simpa using hn,λi c u hi hu=>hcv i c u hi (by simpa using hu)⟩;obtain⟨b1,b2,b3⟩:=Gh (show fnB 0 Tryz.f69=true by kernel_rfl);obtain⟨d1,d2,d3⟩:=Gh (show fnB 0 Tryz.f68=true by kernel_rfl);have f69:Tryz.prog.funcs[69]? = some Tryz.f69:=Tryz.func69;have f68:Tryz.prog.funcs[68]? = some Tryz.f68:=Tryz.func68;have nb:¬Ny E H w.heap.size:=hs.free_new;have lt:w.heap.size<(w.alloc (.cells #[.i6 0,.string ⟨#[]⟩] 127)).heap.size:=(by simp[World.alloc,-World.alloc_eq]);rcases ho 69 caps H r H1 hr E _ cv hG s1 hcs with ⟨_,hj⟩ | ⟨v,w',h1,_⟩
    ·refine .inl ⟨FI f68 d1 d2 _ w,?_⟩;have hj':=Tryz.caught_inR 69 cv w (λa w=>FI f69 b1 b2 a w) hj ?_
     ·refine hj'.mono ?_;rintro e w' ⟨e2,w2,⟨E',k1,k2,k3⟩,c0,c1,rfl,rfl,hcase⟩;have no:¬Ny E' H1 w.heap.size:=λho=>(k3.own _ ho).elim nb (λh=>by omega);have ni:∀o,E'.I w.heap.size o=none:=λo=>(by rw[k3.imm _ o lt nb];exact hs.imm_new o);have hh:∀b,b≠w.heap.size->((w2.setCell ⟨w.heap.size,0,none⟩ c0).setCell ⟨w.heap.size,1,none⟩ c1).heap[b]? = w2.heap[b]? := λb hb=>(by simp[World.setCell,Yq,Ne.symm hb]);have st2:=st1.trans k3;refine⟨E',?_,k2.asideR no ni hh,st2.le,st2.os,st2.tape,st2.output,?_,λb hb ho=>?_,st2.own,st2.imm⟩
      ·rcases hcase with ⟨v,rfl,rfl,rfl⟩ | rfl
       ·cases r with
        |ret y=>cases hc;exact Az.agg rfl (by intro i c v hi hv;match i with
          |0=>simp at hi hv;subst hi;subst hv;exact .int _ _
          |1=>simp at hi hv;subst hi;subst hv;exact .str []
          |_+2=>simp at hi)
        |pan y=>exact absurd k1 id
       ·cases r with
        |ret y=>exact absurd k1 id
        |pan y=>
         obtain⟨v,hv1,hv2⟩:=k1;cases hv1;unfold SG at hc;split at hc
         rename_i heq;cases heq
         ·rename_i heq;cases heq;cases hc;cases hv2 with
          |iface h=>exact h
         cases hc
      simpa[World.setCell]using st2.size;rw[hh b (by omega)];exact st2.frame b hb ho
     ·rintro e w2 ⟨E',k1,k2,k3⟩;refine⟨⟨127,_,_,by rw[k3.frame _ lt nb];exact World.heap_new w _⟩,?_⟩;cases r with
      |ret y=>cases e with|returned v=>exact .inl ⟨v,rfl⟩|_=>exact absurd k1 id
      |pan y=>cases e with
       |panicked ch=>
        obtain⟨v,rfl,hv2⟩:=k1;unfold SG at hc;split at hc
        rename_i heq;cases heq
        ·rename_i heq;cases heq;cases hv2 with
         |iface h=>cases h with
          |agg hn hv => 
           rename_i n s vs;obtain⟨l⟩:=vs
           match l,hn,hv with
           |[a,b],hn,hv=>have h0:=hv 0 _ a rfl rfl;have h1:=hv 1 _ b rfl rfl;cases h0;cases h1;exact .inr ⟨_,_,rfl,rfl,rfl⟩
        cases hc
       |_=>exact absurd k1 id
    rw[FI f69 b1 b2]at h1;cases h1
end Go.Gm
