/- Texts of this proof, joined. -/
import Derived.Test.YtagddbecnkbcdaaGreatJ3
import Derived.Test.YtagddbecnkbcdaaGreatJ4
import Derived.Test.YtagddbecnkbcdaaGreatJ5
import Derived.Test.YtagddbecnkbcdaaGreatJ6
set_option linter.unusedVariables false
set_option linter.unusedSimpArgs false
namespace Go.Gm
theorem OJ (y:Nd):JE y=(List.range 4).all fun k=>decide (y.kid k=0):=by
 rw [O9]
 simp only [JE,Bool.and_assoc]
 rfl
theorem IP {L:List Nd} {v n:Nat} {out:List Nd} (h:n=0∨(AC L).getD n true=true):B1 L (AC L) v n out=(out,0):=by
 have he:(AC L).getD n true=true:=by
  rcases h with h | h
  ·rw [h];exact PH L
  ·exact h
 cases v with
 | zero=>rfl
 | succ v=>simp only [B1,he,if_true]
theorem insF_pos {L:List Nd} {v n:Nat} {out:List Nd} (h:(AC L).getD n true=false):0<(B1 L (AC L) (v+1) n out).2:=by
 simp only [B1,h,WL,if_false]
 split
 ·exact putN_pos _ _
 ·exact putN_pos _ _
theorem Q8 (rec:Nat→List Nd→List Nd×Nat) (x:Nd) (out:List Nd):∀k,k≤4→∀j,j<k→(C1 rec x k out).2.kid j=((rec (x.kid j).toNat (C1 rec x j out).1).2:Int)
 | 0,_,j,h=>by omega
 | k+1,hk,j,h=>by
  simp only [C1]
  by_cases e:j=k
  ·subst e;rw [setKid_same _ _ (by omega)]
  ·rw [J0 _ _ (by omega) (by omega) e];exact Q8 rec x out k (by omega) j (by omega)
theorem Wd {L:List Nd} {v:Nat} (x:Nd) (out:List Nd) (h:∀k,k<4→(x.kid k).toNat=0∨(AC L).getD (x.kid k).toNat true=true):∀k,k≤4→(C1 (B1 L (AC L) v) x k out).1=out
 | 0,_=>rfl
 | k+1,hk=>by
  simp only [C1]
  rw [IP (h k (by omega))]
  exact Wd x out h k (by omega)
theorem intern_ins {L:List Nd} (hl:AP L=true) {m v:Nat} (hm:m<L.length) (hv:L[m].lv.toNat=v+1) (out:List Nd) :
  Hg (C1 (B1 L (AC L) v) L[m] (if 1<L[m].lv then 4 else 0) out).1 (C1 (B1 L (AC L) v) L[m] (if 1<L[m].lv then 4 else 0) out).2=B1 L (AC L) (v+1) (m+1) out:=by
 obtain ⟨l1,l2,l3⟩:=AO hl hm
 have hx:Bb L ((m+1:Nat):Int)=L[m]:=BN hm
 have he:=emp_iff hl (n:=m+1) (by omega) hm
 rw [hx]at he
 by_cases h1:1<L[m].lv
 ·rw [if_pos h1]
  cases hE:(AC L).getD (m+1) true with
  | true=>
   rw [hE]at he
   have hk:∀k,k<4→(L[m].kid k).toNat=0∨(AC L).getD (L[m].kid k).toNat true=true:=fun k hk=>by
    have:=Xb.1 he.symm k (by simpa using hk)
    simp only [XO,decide_eq_true_eq,WO]at this
    rcases this with h | h
    ·left;rw [h];rfl
    ·exact .inr h.2
   have hn:JE (C1 (B1 L (AC L) v) L[m] 4 out).2=true:=by
    rw [OJ,Xb]
    intro k hk'
    have hk4:k<4:=by simpa using hk'
    rw [decide_eq_true_eq,Q8 _ _ _ 4 (by omega) k hk4,IP (hk k hk4)];rfl
   unfold Hg
   rw [hn,if_pos rfl,Wd _ _ hk 4 (by omega)]
   simp only [B1,hE,if_true]
  | false=>
   rw [hE]at he
   have:¬ ∀k,k<4→(L[m].kid k=0∨(AC L).getD (L[m].kid k).toNat true=true):=fun h=>by
    have:((List.range 4).all fun k=>decide (L[m].kid k=0)||(decide (1<L[m].lv)&&(AC L).getD (L[m].kid k).toNat true))=true:=by
     rw [Xb]
     intro k hk
     have:=h k (by simpa using hk)
     simp only [XO,decide_eq_true_eq,WO]
     rcases this with q | q
     ·exact .inl q
     ·exact .inr ⟨h1,q⟩
    rw [this]at he;cases he
   have ⟨k,hk4,hk0⟩:∃k,k<4∧¬(L[m].kid k=0∨(AC L).getD (L[m].kid k).toNat true=true):=by
    by_cases h:∃k,k<4∧¬(L[m].kid k=0∨(AC L).getD (L[m].kid k).toNat true=true)
    ·exact h
    ·exact absurd (fun k hk=>Decidable.byContradiction fun hc=>h ⟨k,hk,hc⟩) this
   have hn:JE (C1 (B1 L (AC L) v) L[m] 4 out).2=false:=by
    rw [OJ,YD]
    refine ⟨k,by simpa using hk4,?_⟩
    rw [decide_eq_true_eq,Q8 _ _ _ 4 (by omega) k hk4]
    obtain ⟨v',rfl⟩:∃v',v=v'+1:=⟨v-1,by omega⟩
    have:=insF_pos (L:=L) (v:=v') (n:=(L[m].kid k).toNat) (out:=(C1 (B1 L (AC L) (v'+1)) L[m] k out).1) (by
     cases hq:(AC L).getD (L[m].kid k).toNat true with
     | false=>rfl
     | true=>exact absurd (.inr hq) hk0)
    omega
   unfold Hg
   rw [hn]
   simp only [B1,hE,WL,if_false,hx,if_pos h1]
 ·rw [if_neg h1]
  have hn:JE L[m]=(AC L).getD (m+1) true:=by
   rw [he,OJ,O9,O9]
   simp [h1]
  unfold Hg
  simp only [C1,B1,hn,hx,if_neg h1]
structure Seat where
 b:Nat
 pd:Nat
 pl:Nat
 pv:Nat
 pa:Nat
 ar:Nat
 km:Nat
 dm:Nat
structure VQ (s:Seat) (L:List Nd) (tk:Tok) (out:List Nd) (D:List (Nat×Nat)) (H:Aa):Prop where
 hb:s.b≤s.ar∧s.b≤s.km∧s.b≤s.dm∧s.km≠s.dm
 ne:s.pd≠s.ar∧s.pl≠s.ar∧s.pv≠s.ar∧s.pa≠s.ar
 done:H[s.pd]? = some (.cel 0 [.mp s.dm])
 list:H[s.pl]? = some (.cel 0 [.sl (enL cNd L) tk])
 self:H[s.pv]? = some (.cel 0 [.fn 161 [.ptr s.pd 0 0,.ptr s.pl 0 0,.ptr s.pv 0 0,.ptr s.pa 0 0]])
 arena:H[s.pa]? = some (.cel 0 [.ptr s.ar 0 0])
 nodes:∃v,AR s.b s.ar s.km out v H
 nums:H[s.dm]? = some (.map (dnM D))
structure VD (L out:List Nd) (D:List (Nat×Nat)):Prop where
 nd:(D.map (·.1)).Nodup
 le:∀p∈D,p.1≤L.length
 val:∀p∈D,B1 L (AC L) (Bb L (p.1:Int)).lv.toNat p.1 out=(out,p.2)
 cnt:out.length<D.length
 zero:lkD D 0=some 0
theorem VD.short {L out:List Nd} {D:List (Nat×Nat)} (h:VD L out D):out.length≤L.length:=by
 have:=nodup_le (L.length+1) (D.map (·.1)) h.nd (fun x hx=>by
  obtain ⟨p,hp,rfl⟩:=XQ.1 hx
  have:=h.le p hp;omega)
 rw [XM]at this
 have:=h.cnt;omega
theorem VQ.len {s:Seat} {L:List Nd} {tk:Tok} {out:List Nd} {D:List (Nat×Nat)} {H:Aa} (h:VQ s L tk out D H):s.b≤H.length:=by
 obtain ⟨v,h1⟩:=h.nodes
 have:=(WC.1 h1.cell).1
 have:=h.hb.1;omega
theorem VQ.cells {s:Seat} {L:List Nd} {tk:Tok} {out:List Nd} {D:List (Nat×Nat)} {H H':Aa} (h:VQ s L tk out D H) (hk:∀i,i<H.length→H'[i]? = H[i]?) (hl:H.length≤H'.length):VQ s L tk out D H':=by
 have g:∀ {i:Nat} {x:Blk},H[i]? = some x→H'[i]? = some x:=fun hx=>by rw [hk _ (WC.1 hx).1];exact hx
 obtain ⟨v,h1⟩:=h.nodes
 refine ⟨h.hb,h.ne,g h.done,g h.list,g h.self,g h.arena,⟨v,g h1.cell,?_,g h1.known⟩,g h.nums⟩
 rcases h1.row with r | ⟨t,r1,r2,r3⟩
 ·exact .inl r
 ·exact .inr ⟨t,r1,r2,g r3⟩
theorem VQ.put {s:Seat} {L:List Nd} {tk:Tok} {out:List Nd} {D:List (Nat×Nat)} {H:Aa} {q:Nat} {x y:Nd} (h:VQ s L tk out D H) (hq:H[q]? = some (.cel 0 (cNd x))):VQ s L tk out D (H.set q (.cel 0 (cNd y))):=by
 obtain ⟨v,h1⟩:=h.nodes
 have n5:∀ {i:Nat} {c:List Ab},H[i]? = some (.cel 0 c)→c.length≠5→(H.set q (.cel 0 (cNd y)))[i]? = some (.cel 0 c):=fun {i c} hi hc=>by
  have:q≠i:=fun e=>by rw [e,hi]at hq;injection hq with hq;injection hq with _ hq;rw [hq]at hc;exact hc rfl
  rw [WI this];exact hi
 have nm:∀ {i:Nat} {es:List (Ab×Ab)},H[i]? = some (.map es)→(H.set q (.cel 0 (cNd y)))[i]? = some (.map es):=fun {i es} hi=>by
  have:q≠i:=fun e=>by rw [e,hi]at hq;cases hq
  rw [WI this];exact hi
 exact ⟨h.hb,h.ne,n5 h.done (by simp),n5 h.list (by simp),n5 h.self (by simp),n5 h.arena (by simp),⟨v,n5 h1.cell (by simp),h1.row.put hq,nm h1.known⟩,nm h.nums⟩
theorem VD.grow {L out:List Nd} {D:List (Nat×Nat)} (h:VD L out D) (r:List Nd):∀p∈D,B1 L (AC L) (Bb L (p.1:Int)).lv.toNat p.1 (out++r)=(out++r,p.2):=by
 intro p hp
 have h3:=h.val p hp
 have:=OL (L:=L) (E:=AC L) (Bb L (p.1:Int)).lv.toNat p.1 out r
 rwa [h3]at this
theorem c06_visit {s:Seat} {L:List Nd} {tk:Tok} (hL:L.length<2000000000000) (hl:AP L=true):∀(v n d:Nat) (out:List Nd) (D:List (Nat×Nat)) (H:Aa),n≤L.length→(n=0∨(Bb L (n:Int)).lv.toNat=v)→v<d→VQ s L tk out D H→VD L out D →
  ∃H' D',Sh.fh d (.int .i64 (n:Int)) (.ptr s.pd 0 0) (.ptr s.pl 0 0) (.ptr s.pv 0 0) (.ptr s.pa 0 0) H=some (.ret (.int .i64 ((B1 L (AC L) v n out).2:Int)),H') ∧
   VQ s L tk (B1 L (AC L) v n out).1 D' H'∧Ext s.b s.ar H H'∧VD L (B1 L (AC L) v n out).1 D'∧∀j,n<j→lkD D' j=lkD D j:=by
 intro v
 induction v with
 | zero=>
  intro n d out D H hn hv hd hQ hD
  obtain ⟨d,rfl⟩:∃e,d=e+1:=⟨d-1,by omega⟩
  have hn0:n=0:=by
   rcases hv with h | h
   ·exact h
   ·cases n with
    | zero=>rfl
    | succ m=>
     rw [BN (show m<L.length from hn)]at h
     have:=(AO hl (show m<L.length from hn)).1;omega
  subst hn0
  refine ⟨H,D,?_,hQ,Ext.refl _ _ _,hD,fun _ _=>rfl⟩
  show Sh.f4c (Sh.fh d) _ _ _ _ _ _=_
  have hlk:=lookA_dn hQ.nums 0
  rw [hD.zero]at hlk
  unfold Sh.f4c
  simp only [GMb,GMc,HPa,HPc,HPd,HPe,HPz,Nat.reduceAdd,Nat.reduceLT,C5 hQ.done,hlk]
  rfl
 | succ v ih=>
  intro n d out D H hn hv hd hQ hD
  obtain ⟨d,rfl⟩:∃e,d=e+1:=⟨d-1,by omega⟩
  show ∃H' D',Sh.f4c (Sh.fh d) _ _ _ _ _ _=_∧_
  have hlk:=lookA_dn hQ.nums n
  unfold Sh.f4c
  simp only [GMb,GMc,HPa,HPc,HPd,HPe,HPz,Nat.reduceAdd,Nat.reduceLT,C5 hQ.done,hlk]
  cases hln:lkD D n with
  | some m=>
   have hmem:=lkD_mem hln
   have hval:=hD.val _ hmem
   dsimp only at hval
   have hins:B1 L (AC L) (v+1) n out=(out,m):=by
    rcases hv with h | h
    ·have:=IP (L:=L) (v:=(Bb L (n:Int)).lv.toNat) (out:=out) (n:=n) (.inl h)
     rw [hval]at this
     rw [IP (.inl h)]
     exact this.symm
    ·rw [h]at hval;exact hval
   rw [hins]
   exact ⟨H,D,by simp only [GMb,GMc,HPa,HPc,HPd,HPe,HPz,Nat.reduceAdd,Nat.reduceLT],hQ,Ext.refl _ _ _,hD,fun _ _=>rfl⟩
  | none=>
   obtain ⟨m,rfl⟩:∃m,n=m+1:=⟨n-1,by
    cases n with
    | zero=>rw [hD.zero]at hln;cases hln
    | succ n=>rfl⟩
   have hm:m<L.length:=hn
   have hv':(Bb L ((m+1:Nat):Int)).lv.toNat=v+1:=by
    rcases hv with h | h
    ·omega
    ·exact h
   obtain ⟨l1,l2,l3⟩:=AO hl hm
   have hx:Bb L ((m+1:Nat):Int)=L[m]:=BN hm
   rw [hx]at hv'
   have hwm:IntKind.i64.wrap (((m+1:Nat):Int)-1)=(m:Int):=by rw [Al] <;> omega
   have hble:=hQ.len
   have hQ1:VQ s L tk out D (H++[.cel 0 (cNd L[m])]):=hQ.cells (fun i hi=>WD hi) (by simp)
   have hE1:Ext s.b s.ar H (H++[.cel 0 (cNd L[m])]):=Ext.snoc hble _
   have hHar:H.length≠s.ar:=by
    obtain ⟨v,h1⟩:=hQ.nodes
    have:=(WC.1 h1.cell).1;omega
   simp only [GMb,GMc,HPa,HPc,HPd,HPe,HPz,Nat.reduceAdd,Nat.reduceLT,C5 hQ.list,EP,hwm,Ax hm,Nu,BI,Fs,Fr,Fj]
   have fin:∀(Hc:Aa) (D1:List (Nat×Nat)),lkD D1 (m+1)=none→VQ s L tk (C1 (B1 L (AC L) v) L[m] (if 1<L[m].lv then 4 else 0) out).1 D1 Hc→Hc[H.length]? = some (.cel 0 (cNd (C1 (B1 L (AC L) v) L[m] (if 1<L[m].lv then 4 else 0) out).2))→Ext s.b s.ar H Hc→VD L (C1 (B1 L (AC L) v) L[m] (if 1<L[m].lv then 4 else 0) out).1 D1→(∀j,m<j→lkD D1 j=lkD D j) →
     ∃H' D',Sh.f55 H (.int .i64 ((m+1:Nat):Int)) (.ptr s.pd 0 0) (.ptr s.pa 0 0) (.ptr H.length 0 0) Hc=some (.ret (.int .i64 ((B1 L (AC L) (v+1) (m+1) out).2:Int)),H') ∧
      VQ s L tk (B1 L (AC L) (v+1) (m+1) out).1 D' H'∧Ext s.b s.ar H H'∧VD L (B1 L (AC L) (v+1) (m+1) out).1 D'∧∀j,m+1<j→lkD D' j=lkD D j:=by
    intro Hc D1 hl1 hQc hbox hEc hDc hjj
    have hint:=intern_ins hl hm hv' out
    have hagain:=OL (L:=L) (E:=AC L) (v+1) (m+1) out []
    rw [Xl]at hagain
    generalize C1 (B1 L (AC L) v) L[m] (if 1<L[m].lv then 4 else 0) out=io at *
    obtain ⟨o,y⟩:=io
    dsimp only at *
    obtain ⟨vv,hA⟩:=hQc.nodes
    have hsh:=hDc.short
    obtain ⟨v',H2,i1,i2,i3⟩:=c06_intern hA hQc.hb.1 hQc.hb.2.1 hQc.len y (by omega)
    rw [hint]at i1 i2
    have hdm:s.dm≠s.km:=Ne.symm hQc.hb.2.2.2
    have hdn:=i3.map _ _ hdm hQc.nums
    have hpd:=i3.cel _ _ hQc.ne.1 hQc.done
    have hup:=updA_dn (H:=H2) (n:=m+1) hdn (B1 L (AC L) (v+1) (m+1) out).2 hl1
    have hgrow:∃r,(B1 L (AC L) (v+1) (m+1) out).1=o++r:=by
     rw [←hint]
     unfold Hg ET
     split
     ·exact ⟨[],by simp⟩
     ·split
      ·exact ⟨[y],rfl⟩
      ·exact ⟨[],by simp⟩
    have hglen:(B1 L (AC L) (v+1) (m+1) out).1.length≤o.length+1:=by
     rw [←hint]
     unfold Hg ET
     split
     ·dsimp only;omega
     ·split
      ·simp
      ·dsimp only;omega
    refine ⟨H2.set s.dm (.map (dnM (D1++[(m+1,(B1 L (AC L) (v+1) (m+1) out).2)]))),D1++[(m+1,(B1 L (AC L) (v+1) (m+1) out).2)],?_,?_,hEc.trans ⟨?_,fun i cs hi hc=>?_,fun i hi=>?_⟩,?_,fun j hj=>?_⟩
    ·unfold Sh.f55
     simp only [GMb,GMc,HPa,HPc,HPd,HPe,HPz,Nat.reduceAdd,Nat.reduceLT,C5 hQc.arena,EP,Pz hbox,i1,C5 hpd,hup]
    ·have hdl:s.dm<H2.length:=(WC.1 hdn).1
     have nc:∀ {i:Nat} {c:List Ab},i≠s.ar→Hc[i]? = some (.cel 0 c)→(H2.set s.dm (.map (dnM (D1++[(m+1,(B1 L (AC L) (v+1) (m+1) out).2)]))))[i]? = some (.cel 0 c):=fun {i c} hi hc=>by
      have h2:=i3.cel i c hi hc
      have:s.dm≠i:=fun e=>by rw [←e,hdn]at h2;cases h2
      rw [WI this];exact h2
     have hda:s.dm≠s.ar:=fun e=>by have:=i2.cell;rw [←e,hdn]at this;cases this
     exact ⟨hQc.hb,hQc.ne,nc hQc.ne.1 hQc.done,nc hQc.ne.2.1 hQc.list,nc hQc.ne.2.2.1 hQc.self,nc hQc.ne.2.2.2 hQc.arena,
      ⟨v',by rw [WI hda];exact i2.cell,i2.row.setB hdn (fun _ _ _ e=>by cases e),by rw [WI hdm];exact i2.known⟩,by rw [WS hdl]⟩
    ·rw [Xo];exact i3.len
    ·have h2:=i3.cel i cs hi hc
     have:s.dm≠i:=fun e=>by rw [←e,hdn]at h2;cases h2
     rw [WI this];exact h2
    ·have:=hQc.hb.2.2.1
     rw [WI (by omega)];exact i3.old i hi
    ·obtain ⟨r,hr⟩:=hgrow
     refine ⟨?_,fun p hp=>?_,fun p hp=>?_,?_,?_⟩
     ·rw [List.map_append,List.nodup_append]
      refine ⟨hDc.nd,by simp,fun a ha b hb=>?_⟩
      have hbm:b=m+1:=by simpa using hb
      have:=lkD_none hl1
      exact fun e=>this (by rw [←hbm,←e];exact ha)
     ·rcases WX.1 hp with h | h
      ·exact hDc.le p h
      ·rw [WY.1 h];exact hn
     ·rcases WX.1 hp with h | h
      ·rw [hr];exact hDc.grow r p h
      ·rw [WY.1 h]
       dsimp only
       rw [hx,hv'];exact hagain
     ·rw [WJ,List.length_singleton];have:=hDc.cnt;omega
     ·rw [lkD_app,hDc.zero]
    ·rw [lkD_app,hjj j (by omega)]
     cases lkD D j with
     | some _=>rfl
     | none=>dsimp only;rw [if_neg (by omega)]
   by_cases hlv:L[m].lv>1
   ·simp only [hlv,GMb,GMc]
    have h1lt:1<L[m].lv:=hlv
    rw [if_pos h1lt]at fin
    have loop:=HC (G:=fun rec2 vs H1=>Sh.f56 H (Sh.fh d) (fun vs H=>Sh.f55 H (ag vs 0) (ag vs 1) (ag vs 2) (ag vs 3) H) rec2 (ag vs 0) (ag vs 1) (ag vs 2) (ag vs 3) (ag vs 4) (ag vs 5) (ag vs 6) H1) 4
     (fun k vs Hc=>∃D',vs=[.int .i64 ((m+1:Nat):Int),.ptr s.pd 0 0,.ptr s.pv 0 0,.ptr s.pa 0 0,.ptr H.length 0 0,.agg (Id L[m]),.int .i64 (k:Int)]∧VQ s L tk (C1 (B1 L (AC L) v) L[m] k out).1 D' Hc∧Hc[H.length]? = some (.cel 0 (cNd (C1 (B1 L (AC L) v) L[m] k out).2))∧Ext s.b s.ar H Hc∧VD L (C1 (B1 L (AC L) v) L[m] k out).1 D'∧lkD D' (m+1)=none∧∀j,m<j→lkD D' j=lkD D j)
     (by decide) (fun k vs Hc hk hI=>?_) (vs:=[.int .i64 ((m+1:Nat):Int),.ptr s.pd 0 0,.ptr s.pv 0 0,.ptr s.pa 0 0,.ptr H.length 0 0,.agg (Id L[m]),.int .i64 0]) (H:=H++[Blk.cel 0 (cNd L[m])]) ⟨D,rfl,hQ1,by simp [C1],hE1,hD,hln,fun _ _=>rfl⟩
    ·obtain ⟨vs',Hc,⟨D',rfl,hQc,hbox,hEc,hDc,hlc,hjc⟩,rec,hloop⟩:=loop
     obtain ⟨H',D2,f1,f2⟩:=fin Hc D' hlc hQc hbox hEc hDc hjc
     refine ⟨H',D2,hloop.trans ?_,f2⟩
     unfold Sh.f56
     simp only [GMb,GMc,Ai,show ¬(((4:Nat):Int)<4) from by decide]
     exact f1
    ·obtain ⟨D1,rfl,hQc,hbox,hEc,hDc,hlc,hjc⟩:=hI
     have hk':(k:Int)<4:=by omega
     obtain ⟨q1,q2,q3⟩:=l3 k hk
     obtain ⟨c,hc⟩:∃c:Nat,L[m].kid k=(c:Int):=⟨(L[m].kid k).toNat,by omega⟩
     have hcm:c≤m:=by
      by_cases h0:0<L[m].kid k
      ·have:=(q3 h1lt h0).1;omega
      ·omega
     have hcv:c=0∨(Bb L (c:Int)).lv.toNat=v:=by
      by_cases h0:c=0
      ·exact .inl h0
      ·right
       obtain ⟨g,rfl⟩:∃g,c=g+1:=⟨c-1,by omega⟩
       have hgl:g<L.length:=by omega
       have:=(q3 h1lt (by omega)).2 L[g] (by rw [show (L[m].kid k-1).toNat=g by omega];exact WB hgl)
       rw [BN hgl];omega
     obtain ⟨H1,D',r1,r2,r3,r4,r5⟩:=ih c d (C1 (B1 L (AC L) v) L[m] k out).1 D1 Hc (by omega) hcv (by omega) hQc hDc
     have hbox1:=r3.cel _ _ hHar hbox
     have hst:=Ju (c:=((B1 L (AC L) v c (C1 (B1 L (AC L) v) L[m] k out).1).2:Int)) hbox1 hk
     have hstep:C1 (B1 L (AC L) v) L[m] (k+1) out=((B1 L (AC L) v c (C1 (B1 L (AC L) v) L[m] k out).1).1,(C1 (B1 L (AC L) v) L[m] k out).2.setKid k ((B1 L (AC L) v c (C1 (B1 L (AC L) v) L[m] k out).1).2:Int)):=by
      simp only [C1,hc,Int.toNat_natCast]
     rw [hstep]
     refine ⟨_,H1.set H.length (.cel 0 (cNd ((C1 (B1 L (AC L) v) L[m] k out).2.setKid k ((B1 L (AC L) v c (C1 (B1 L (AC L) v) L[m] k out).1).2:Int)))),⟨D',rfl,r2.put hbox1,?_,⟨by have:=hEc.len;have:=r3.len;rw [Xo];omega,fun i cs hi hc=>?_,fun i hi=>?_⟩,r4,?_,fun j hj=>?_⟩,fun rec=>?_⟩
     ·rw [WS (WC.1 hbox1).1]
     ·have:=(WC.1 hc).1
      rw [WI (by omega)];exact r3.cel i cs hi (hEc.cel i cs hi hc)
     ·rw [WI (by omega),r3.old i hi];exact hEc.old i hi
     ·rw [r5 (m+1) (by omega)];exact hlc
     ·rw [r5 j (by omega)];exact hjc j hj
     ·have hcall:Dg (GT (Sh.fh d)) (.fn 161 [.ptr s.pd 0 0,.ptr s.pl 0 0,.ptr s.pv 0 0,.ptr s.pa 0 0]) [.int .i64 (c:Int)] Hc=Sh.fh d (.int .i64 (c:Int)) (.ptr s.pd 0 0) (.ptr s.pl 0 0) (.ptr s.pv 0 0) (.ptr s.pa 0 0) Hc:=rfl
      unfold Sh.f56
      simp only [GMb,GMc,HPa,HPc,HPd,HPe,HPz,Nat.reduceAdd,Nat.reduceLT,Ai,hk',ag_kid _ hk,hc,C5 hQc.self,EP,hcall,r1,P6 hk,hst,Aw (show k<9223372036854775807 by omega)]
   ·simp only [hlv,GMb,GMc]
    rw [if_neg hlv]at fin
    exact fin _ D hln hQ1 (by simp [C1]) hE1 hD (fun _ _=>rfl)
theorem c06_of (L:List Nd) (tk:Tok) (n:Int) (H:Aa) (hL:L.length<1000000000000):Sh.f3b (.sl (enL cNd L) tk) (.int .i64 n) H =
  some (.ret (if ofOk L n then .tup [Gg (canonL L n.toNat),.int .i64 0]else .tup [Gg [],.int .i64 1]),H):=by
 unfold Sh.f3b
 have hbx:B2 true 1 (.sl (enL cNd L) tk) H=some (.ptr H.length 0 0,H++[.cel 0 [.sl (enL cNd L) tk]]):=by
  unfold B2;simp only [W8,alloc_eq (cs:=[.sl (enL cNd L) tk]) rfl];rfl
 have hq0:Ab.agg [.sl [] .no]=Gg []:=rfl
 simp only [hbx,GMb,GMc,HPa,HPc,HPd,HPe,HPz,Nat.reduceAdd,Nat.reduceLT,c05_loose L tk _ (show L.length<1152921504606846976 by omega)]
 unfold ofOk
 have hb0:AB (some [(.sl [] .tight)]) []=some (.agg [.sl [] .tight]):=rfl
 cases hl:AP L with
 | false=>simp only [GMb,GMc,HPa,HPc,HPd,HPe,HPz,Nat.reduceAdd,Nat.reduceLT,hb0,hq0,WL,if_false]
 | true=>
  by_cases hn0:n<0
  ·have:¬0≤n:=by omega
   simp only [GMb,GMc,HPa,HPc,HPd,HPe,HPz,Nat.reduceAdd,Nat.reduceLT,hb0,hq0,hn0,this,WL,if_false]
  ·have h0':0≤n:=by omega
   by_cases hn1:n>L.length
   ·have:¬n≤L.length:=by omega
    simp only [GMb,GMc,HPa,HPc,HPd,HPe,HPz,Nat.reduceAdd,Nat.reduceLT,hb0,hq0,hn0,h0',hn1,this,Av,WL,if_false]
   ·obtain ⟨n,rfl⟩:=X9 h0'
    have hle:n≤L.length:=by omega
    have hle':(n:Int)≤(L.length:Int):=by omega
    have hnn:¬(n:Int)>(L.length:Int):=hn1
    obtain ⟨s1,s2,s3⟩:=shrink_ok hl hle
    unfold canonL
    simp only [GMb,GMc,HPa,HPc,HPd,HPe,HPz,Nat.reduceAdd,Nat.reduceLT,hn0,h0',hnn,hle',Av,c06_shrink L tk n _ (show L.length<3518437200000 by omega) hl hle,if_true,Int.toNat_natCast]
    generalize F4 L n=S at s1 s2 s3
    obtain ⟨M,r⟩:=S
    dsimp only at s1 s2 s3 ⊢
    have hlvv:(Bb M (r:Int)).lv.toNat<AM:=by
     rw [Ey]
     by_cases hr:0<r
     ·have:=TS s1 hr s2;omega
     ·obtain rfl:r=0:=by omega
      unfold Bb
      rw [WH]
      by_cases hM:0<M.length
      ·rw [show (((0:Nat):Int)-1).toNat=0 from rfl,WB hM]
       have:=(AO s1 hM).2.1
       simp only [Option.getD_some];omega
      ·rw [show (((0:Nat):Int)-1).toNat=0 from rfl,WR (by omega)];simp
    have hmk:∀K:Aa,Eb K=some (.mp K.length,K++[.map []]):=fun _=>rfl
    have hb1:∀x,AB (some [.sl [] .tight,.nilmap]) [(1,1,.mp x)]=some (.agg [.sl [] .tight,.mp x]):=fun _=>rfl
    have hup:DC false 1 (.mp (H.length+5)) (.int .i64 0) (.int .i64 0) (H++[.cel 0 [.sl (enL cNd M) .no],.cel 0 [.sl [] .tight],.map [],.cel 0 [.sl [] .tight,.mp (H.length+2)],.cel 0 [.ptr (H.length+3) 0 0],.map []]) =
      some (H++[.cel 0 [.sl (enL cNd M) .no],.cel 0 [.sl [] .tight],.map [],.cel 0 [.sl [] .tight,.mp (H.length+2)],.cel 0 [.ptr (H.length+3) 0 0],.map (dnM [(0,0)])]):=by
     have:=updA_dn (H:=H++[.cel 0 [.sl (enL cNd M) .no],.cel 0 [.sl [] .tight],.map [],.cel 0 [.sl [] .tight,.mp (H.length+2)],.cel 0 [.ptr (H.length+3) 0 0],.map []]) (id:=H.length+5) (D:=[]) (by simp [dnM]) (n:=0) 0 rfl
     rw [show ((0:Nat):Int)=0 from rfl]at this
     rw [this,Xg _ _ (by omega),show H.length+5-H.length=5 by omega]
     rfl
    have hf:∀l:List Ab,Ah 1 (.ptr 0 0 0) (.fn 161 l) [Blk.cel 0 [.nilfn]]=some [.cel 0 [.fn 161 l]]:=fun l=>Qi rfl (by simp)
    obtain ⟨F,hF⟩:∃F:Aa,F=H++[.cel 0 [.sl (enL cNd M) .no],.cel 0 [.sl [] .tight],.map [],.cel 0 [.sl [] .tight,.mp (H.length+2)],.cel 0 [.ptr (H.length+3) 0 0],.map (dnM [(0,0)]),.cel 0 [.mp (H.length+5)],.cel 0 [.fn 161 [.ptr (H.length+6) 0 0,.ptr H.length 0 0,.ptr (H.length+7) 0 0,.ptr (H.length+4) 0 0]]]:=⟨_,rfl⟩
    have hQ:VQ ⟨H.length,H.length+6,H.length,H.length+7,H.length+4,H.length+3,H.length+2,H.length+5⟩ M .no [] [(0,0)] F:=by
     refine ⟨⟨by dsimp only;omega,by dsimp only;omega,by dsimp only;omega,by dsimp only;omega⟩,⟨by dsimp only;omega,by dsimp only;omega,by dsimp only;omega,by dsimp only;omega⟩,?_,?_,?_,?_,⟨.sl [] .tight,?_,.inl ⟨rfl,rfl⟩,?_⟩,?_⟩ <;> (rw [hF];simp [knF])
    have hD:VD M [] [(0,0)]:=⟨by simp,fun p hp=>by rw [WY.1 hp];exact Xd _,fun p hp=>by rw [WY.1 hp];exact IP (.inl rfl),by simp,rfl⟩
    obtain ⟨H',D',v1,v2,v3,v4,v5⟩:=c06_visit (s:=⟨H.length,H.length+6,H.length,H.length+7,H.length+4,H.length+3,H.length+2,H.length+5⟩) (L:=M) (tk:=.no) (by omega) s1 (Bb M (r:Int)).lv.toNat r AM [] [(0,0)] F s2 (.inr rfl) hlvv hQ hD
    dsimp only at v1 v3
    have hcall:Dg Iv (.fn 161 [.ptr (H.length+6) 0 0,.ptr H.length 0 0,.ptr (H.length+7) 0 0,.ptr (H.length+4) 0 0]) [.int .i64 (r:Int)] F=Sh.fh AM (.int .i64 (r:Int)) (.ptr (H.length+6) 0 0) (.ptr H.length 0 0) (.ptr (H.length+7) 0 0) (.ptr (H.length+4) 0 0) F:=rfl
    rw [v1]at hcall
    rw [hF]at hcall
    have hres:H'[H.length+1]? = some (.cel 0 [.sl [] .tight]):=v3.cel _ _ (by omega) (by rw [hF];simp)
    have hold:∀i,i<H.length→H'[i]? = H[i]? := fun i hi=>by rw [v3.old i hi,hF,WD hi]
    obtain ⟨v,hA⟩:=v2.nodes
    have hpa:=C5 (o:=0) (sz:=1) v2.arena
    have har:=C5 (o:=0) (sz:=1) hA.cell
    dsimp only at hpa har
    obtain ⟨tk3,rfl⟩:=hA.row.sl
    generalize (B1 M (AC M) (Bb M (r:Int)).lv.toNat r []).1=Q at *
    have hb:AB (some [(.sl [] .tight)]) [(0,1,.sl (enL cNd Q) tk3)]=some (.agg [.sl (enL cNd Q) tk3]):=by simp [AB,Gj,D9]
    have hst:=Qj (sz:=1) (ws:=[.sl (enL cNd Q) tk3]) hres rfl rfl rfl
    have hcl:=(WC.1 hres).1
    have hld:=Q5 (sz:=1) (H:=H'.set (H.length+1) (.cel 0 [.sl (enL cNd Q) tk3])) (p:=H.length+1) (by rw [WS hcl]) rfl
    have htake:(H'.set (H.length+1) (.cel 0 [.sl (enL cNd Q) tk3])).take H.length=H:=CB fun i hi=>by
     rw [WI (by omega)];exact hold i hi
    simp only [GMb,GMc,HPa,HPc,HPd,HPe,HPz,Nat.reduceAdd,Nat.reduceLT,hmk,hb1,hup,hf,hcall,hpa,har,EP,hb,hst,hld,Hx htake]
    rfl
structure Q4 (b p:Nat) (S:Nat→List Sp) (W:Nat→Ab) (T:Nat→Nat) (H:Aa):Prop where
 blk:H[p]? = some (.cel 0 [W 0,W 1,W 2,W 3])
 row:∀k,k<4→(S k=[]∧W k=.sl [] .tight)∨(S k≠[]∧b≤T k∧W k=.sl (enL cSp (S k)) (.own (T k))∧H[T k]? = some (.tok (S k).length BA 3))
 ne:∀i j,i<4→j<4→i≠j→S i≠[]→S j≠[]→T i≠T j
def up {α:Type} (f:Nat→α) (k:Nat) (a:α):Nat→α:=fun j=>if j=k then a else f j
theorem Jn {α:Type} (f:Nat→α) (k:Nat) (a:α):up f k a k=a:=if_pos rfl
theorem Et {α:Type} (f:Nat→α) {j k:Nat} (a:α) (h:j≠k):up f k a j=f j:=if_neg h
theorem up_cells (W:Nat→Ab) {k:Nat} (hk:k<4) (w:Ab):[W 0,W 1,W 2,W 3].set k w=[up W k w 0,up W k w 1,up W k w 2,up W k w 3]:=by
 match k,hk with
 | 0,_=>rfl
 | 1,_=>rfl
 | 2,_=>rfl
 | 3,_=>rfl
theorem get_cells (W:Nat→Ab) {k:Nat} (hk:k<4):[W 0,W 1,W 2,W 3][k]? = some (W k):=by
 match k,hk with
 | 0,_=>rfl
 | 1,_=>rfl
 | 2,_=>rfl
 | 3,_=>rfl
theorem Q4.push {b p:Nat} {S:Nat→List Sp} {W:Nat→Ab} {T:Nat→Nat} {H:Aa} (h:Q4 b p S W T H) (G:Aa):Q4 b p S W T (H++G):=
 ⟨AE h.blk,fun k hk=>by
  rcases h.row k hk with q | ⟨q0,q1,q2,q3⟩
  ·exact .inl q
  ·exact .inr ⟨q0,q1,q2,AE q3⟩,h.ne⟩
theorem Q4.add {b p:Nat} {S:Nat→List Sp} {W:Nat→Ab} {T:Nat→Nat} {H:Aa} (h:Q4 b p S W T H) (hb:b≤p) {k:Nat} (hk:k<4) (s:Sp) (hl:(S k).length<1000000000) :
  ∃w' H1 T',Ac false 1 (.ptr p 0 k) H=some (W k)∧AW BA 3 56 (W k) (.sl (enL cSp [s]) .tight) H=some (w',H1)∧Ah 1 (.ptr p 0 k) w' H1=some (H1.set p (.cel 0 [up W k w' 0,up W k w' 1,up W k w' 2,up W k w' 3])) ∧
   Q4 b p (up S k (S k++[s])) (up W k w') T' (H1.set p (.cel 0 [up W k w' 0,up W k w' 1,up W k w' 2,up W k w' 3]))∧H.length≤H1.length∧∀i,i<b→H1[i]? = H[i]? := by
 have hpl:p<H.length:=(WC.1 h.blk).1
 have hld:Ac false 1 (.ptr p 0 k) H=some (W k):=by rw [C5 h.blk];exact get_cells W hk
 have hlen4:k<[W 0,W 1,W 2,W 3].length:=hk
 rcases h.row k hk with ⟨q1,q2⟩ | ⟨q0,q1,q2,q3⟩
 ·have ha:=CA (f:=cSp) (sz:=3) (l:=[]) (m:=[s]) (ty:=BA) (bytes:=56) (tk:=.tight) (H:=H) (by simp) (by simp) (by simp)
  simp only [List.nil_append,List.length_nil,List.length_singleton,WE,Fw]at ha
  have hblk1:(H++[Blk.tok 1 BA 3])[p]? = some (.cel 0 [W 0,W 1,W 2,W 3]):=AE h.blk
  have hst:=Jw (v:=.sl (enL cSp [s]) (.own H.length)) hblk1 rfl hlen4
  rw [up_cells W hk]at hst
  refine ⟨.sl (enL cSp [s]) (.own H.length),H++[Blk.tok 1 BA 3],up T k H.length,hld,by rw [q2];exact ha,hst,⟨?_,fun j hj=>?_,fun i j hi hj hij hsi hsj=>?_⟩,by simp,fun i hi=>WD (by omega)⟩
  ·rw [WS (by simp;omega)]
  ·by_cases e:j=k
   ·subst e
    right
    rw [Jn,Jn,Jn,q1,WI (by omega)]
    exact ⟨by simp,by omega,rfl,by simp⟩
   ·rw [Et _ _ e,Et _ _ e,Et _ _ e]
    rcases h.row j hj with r | ⟨r0,r1,r2,r3⟩
    ·exact .inl r
    ·have:p≠T j:=fun e=>by rw [←e,h.blk]at r3;cases r3
     exact .inr ⟨r0,r1,r2,by rw [WI this];exact AE r3⟩
  ·have lt:∀i,i<4→S i≠[]→T i<H.length:=fun i hi hs=>by
    rcases h.row i hi with r | ⟨r0,r1,r2,r3⟩
    ·exact absurd r.1 hs
    ·exact (WC.1 r3).1
   by_cases e1:i=k
   ·have e2:j≠k:=fun e=>hij (by omega)
    rw [e1,Jn,Et _ _ e2]
    rw [Et _ _ e2]at hsj
    have:=lt j hj hsj;omega
   ·rw [Et _ _ e1]at hsi ⊢
    by_cases e2:j=k
    ·rw [e2,Jn];have:=lt i hi hsi;omega
    ·rw [Et _ _ e2]at hsj ⊢
     exact h.ne i j hi hj hij hsi hsj
 ·have ha:=EC (f:=cSp) (sz:=3) (l:=S k) (m:=[s]) (ty:=BA) (bytes:=56) (tk:=.tight) (H:=H) (t:=T k) (by simp) q3 (by simp;omega) (by simp;omega)
  simp only [List.length_singleton]at ha
  have htl:T k<H.length:=(WC.1 q3).1
  have hpt:T k≠p:=fun e=>by rw [e,h.blk]at q3;cases q3
  have hblk1:(H.set (T k) (Blk.tok ((S k).length+1) BA 3))[p]? = some (.cel 0 [W 0,W 1,W 2,W 3]):=by rw [WI hpt];exact h.blk
  have hst:=Jw (v:=.sl (enL cSp (S k++[s])) (.own (T k))) hblk1 rfl hlen4
  rw [up_cells W hk]at hst
  refine ⟨.sl (enL cSp (S k++[s])) (.own (T k)),H.set (T k) (Blk.tok ((S k).length+1) BA 3),T,hld,by rw [q2];exact ha,hst,⟨?_,fun j hj=>?_,fun i j hi hj hij hsi hsj=>?_⟩,by simp,fun i hi=>WI (by omega)⟩
  ·rw [WS (by simp;omega)]
  ·by_cases e:j=k
   ·subst e
    right
    rw [Jn,Jn,WI (Ne.symm hpt),WS htl]
    exact ⟨by simp,q1,rfl,by simp⟩
   ·rw [Et _ _ e,Et _ _ e]
    rcases h.row j hj with r | ⟨r0,r1,r2,r3⟩
    ·exact .inl r
    ·have:p≠T j:=fun e=>by rw [←e,h.blk]at r3;cases r3
     have h2:T k≠T j:=h.ne k j hk hj (Ne.symm e) q0 r0
     exact .inr ⟨r0,r1,r2,by rw [WI this,WI h2];exact r3⟩
  ·have b1:S i≠[]:=by
    by_cases e1:i=k
    ·rw [e1];exact q0
    ·rw [Et _ _ e1]at hsi;exact hsi
   have b2:S j≠[]:=by
    by_cases e1:j=k
    ·rw [e1];exact q0
    ·rw [Et _ _ e1]at hsj;exact hsj
   exact h.ne i j hi hj hij b1 b2
def SpOk (p:Sp):Prop:=(A0 p.a).length≤1000000∧(A0 p.b).length≤1000000
theorem MM (s:Sp):AQ 3 [.agg (cSp s)]=some (.sl (enL cSp [s]) .tight):=by
 simp [AQ,CK,Cj,cSp,Ab.isScal,Mw,B4,enL]
theorem qOf_lt (v:Nat) (p:Sp):qOf v p<4:=by unfold qOf;split <;> split <;> omega
theorem qSp_snoc {v k:Nat} {S:List Sp} {s:Sp}:qSp v k (S++[s])=if k=qOf v s then qSp v k S++[s]else qSp v k S:=by
 unfold qSp
 rw [Xw]
 by_cases h:k=qOf v s
 ·rw [if_pos h];simp [h]
 ·rw [if_neg h]
  have:¬qOf v s=k:=fun e=>h e.symm
  simp [this]
theorem lay_turn {self:Ab→Ab→Ab→Aa→Out} {pb v:Nat} {S:List Sp} {tk:Tok} {H B Hc:Aa} {W:Nat→Ab} {T:Nat→Nat} {i:Nat} (hi:i<S.length) (hok:∀p∈S,SpOk p) (hS:S.length<1000000000) (hv:v<100000)
  (hBb:H.length=B.length) (hq:Q4 B.length B.length (fun k=>qSp v k (S.take i)) W T Hc) (hlen:B.length≤Hc.length) (hold:∀i,i<B.length→Hc[i]? = B[i]?) :
  ∃W' T' Hd,(∀rec:LK,Sh.f49 H self rec (.ptr pb 0 0) (.int .i64 ((v+1:Nat):Int)) (.ptr B.length 0 0) (.sl (enL cSp S) tk) (.int .i64 (S.length:Int)) (.int .i64 (i:Int)) Hc=rec [.ptr pb 0 0,.int .i64 ((v+1:Nat):Int),.ptr B.length 0 0,.sl (enL cSp S) tk,.int .i64 (S.length:Int),.int .i64 ((i+1:Nat):Int)] Hd) ∧
   Q4 B.length B.length (fun k=>qSp v k (S.take (i+1))) W' T' Hd∧B.length≤Hd.length∧(∀i,i<B.length→Hd[i]? = B[i]?):=by
 have d1:decide ((i:Int)<(S.length:Int))=true:=decide_eq_true (by omega)
 have hsi:=hok _ (WP hi)
 have hlt:=qOf_lt v S[i]
 have hq1:Q4 B.length B.length (fun k=>qSp v k (S.take i)) W T (Hc++[.cel 0 (cSp S[i])]):=hq.push _
 have hll:(qSp v (qOf v S[i]) (S.take i)).length<1000000000:=X6 (Yf _ _) (by rw [WT];omega)
 obtain ⟨w',H1,T',a1,a2,a3,a4,a5,a6⟩:=hq1.add (WF _) hlt S[i] hll
 have hw:=Aw (show i<9223372036854775807 by omega)
 have w1:IntKind.i64.wrap (((v+1:Nat):Int)-1)=(v:Int):=by rw [Al] <;> omega
 have bx:=fun K=>p_bit S[i].a v .no K hsi.1 (by omega)
 have bY:=fun K=>p_bit S[i].b v .no K hsi.2 (by omega)
 have e1:(Hc++[Blk.cel 0 [Ab.sl [] .tight,.sl [] .tight,.int .u8 0]])[Hc.length]? = some (.cel 0 [.sl [] .tight,.sl [] .tight,.int .u8 0]):=Ar
 have e2:(Hc++[Blk.cel 0 (cSp S[i])])[Hc.length]? = some (.cel 0 (cSp S[i])):=Ar
 have hst:Ah 3 (.ptr Hc.length 0 0) (.agg (cSp S[i])) (Hc++[Blk.cel 0 [Ab.sl [] .tight,.sl [] .tight,.int .u8 0]])=some (Hc++[Blk.cel 0 (cSp S[i])]):=by
  rw [Qj (sz:=3) (ws:=cSp S[i]) e1 rfl rfl rfl,Bv]
 have ldA:Ac true 3 (.cptr (cSp S[i]) 0) Hc=some (.agg (cSp S[i])):=rfl
 have ld0:Ac false 1 (.ptr Hc.length 0 0) (Hc++[Blk.cel 0 (cSp S[i])])=some (.sl (enL cU (A0 S[i].a)) .no):=by rw [C5 e2];rfl
 have ld1:Ac false 1 (.ptr Hc.length 0 1) (Hc++[Blk.cel 0 (cSp S[i])])=some (.sl (enL cU (A0 S[i].b)) .no):=by rw [C5 e2];rfl
 have ldG:Ac true 3 (.ptr Hc.length 0 0) (Hc++[Blk.cel 0 (cSp S[i])])=some (.agg (cSp S[i])):=Q5 e2 rfl
 have hal:A3 (some [(.sl [] .tight),(.sl [] .tight),(.int .u8 0)]) Hc=some (.ptr Hc.length 0 0,Hc++[.cel 0 [Ab.sl [] .tight,.sl [] .tight,.int .u8 0]]):=alloc_eq rfl
 have hix:=P6 (K:=.i64) (id:=B.length) (g:=0) (o:=0) hlt
 rw [WE]at hix
 have w2:IntKind.i64.wrap (0+1)=1:=rfl
 have w3:IntKind.i64.wrap (0+2)=2:=rfl
 have w4:IntKind.i64.wrap (1+2)=3:=rfl
 refine ⟨up W (qOf v S[i]) w',T',H1.set B.length (.cel 0 [up W (qOf v S[i]) w' 0,up W (qOf v S[i]) w' 1,up W (qOf v S[i]) w' 2,up W (qOf v S[i]) w' 3]),fun rec=>?_,?_,?_,?_⟩
 ·unfold Sh.f49 Sh.f6v Sh.f6u
  simp only [GMb,GMc,d1,Av,Ax hi,ldA,hal,hst,AJ,Ag,WE,ld0,w1,bx]
  have fin:∀k:Int,k=((qOf v S[i]:Nat):Int)→(BZ 4 1 (.ptr B.length 0 0) (.int .i64 k))=some (.ptr B.length 0 (qOf v S[i])):=fun k hk=>by rw [hk];exact hix
  cases hA:S[i].a.testBit v with
  | true=>
   cases hB:S[i].b.testBit v with
   | true=>
    have f:=fin 3 (by unfold qOf;rw [hA,hB];rfl)
    simp only [GMb,GMc,w2,ld1,bY,hB,w4,f,a1,ldG,MM,a2,a3,AK,hw,Aj,Ai,AS,AY,Bo,B6,Di]
   | false=>
    have f:=fin 1 (by unfold qOf;rw [hA,hB];rfl)
    simp only [GMb,GMc,w2,ld1,bY,hB,f,a1,ldG,MM,a2,a3,AK,hw,Aj,Ai,AS,AY,Bo,B6,Di]
  | false=>
   cases hB:S[i].b.testBit v with
   | true=>
    have f:=fin 2 (by unfold qOf;rw [hA,hB];rfl)
    simp only [GMb,GMc,w3,ld1,bY,hB,f,a1,ldG,MM,a2,a3,AK,hw,Aj,Ai,AS,AY,Bo,B6,Di]
   | false=>
    have f:=fin 0 (by unfold qOf;rw [hA,hB];rfl)
    simp only [GMb,GMc,ld1,bY,hB,f,a1,ldG,MM,a2,a3,AK,hw,Aj,Ai,AS,AY,Bo,B6,Di]
 ·have hs:(fun k=>qSp v k (S.take (i+1)))=up (fun k=>qSp v k (S.take i)) (qOf v S[i]) (qSp v (qOf v S[i]) (S.take i)++[S[i]]):=by
   funext k
   rw [WM hi,qSp_snoc]
   unfold up
   by_cases h:k=qOf v S[i]
   ·rw [if_pos h,if_pos h,h]
   ·rw [if_neg h,if_neg h]
  rw [hs]
  exact a4
 ·rw [Xo];simp at a5;omega
 ·intro j hj
  rw [WI (by omega),a6 j hj,WD (by omega)]
  exact hold j hj
def JT (v:Nat) (S:List Sp):Nat→Nat
 | 0=>0
 | k+1=>JT v S k+(qSp v k S).length
theorem Ra (v:Nat):∀S:List Sp,JT v S 4=S.length
 | []=>by simp [JT,qSp]
 | p::S=>by
  have ih:=Ra v S
  have hq:=qOf_lt v p
  simp only [JT,qSp,X8,List.length_cons]at ih ⊢
  generalize qOf v p=q at hq
  match q,hq with
  | 0,_=>simp;omega
  | 1,_=>simp;omega
  | 2,_=>simp;omega
  | 3,_=>simp;omega
theorem Ww (v:Nat) (S:List Sp) {k:Nat} (h:k≤4):JT v S k≤S.length:=by
 have h4:=Ra v S
 match k,h with
 | 0,_=>simp [JT]
 | 1,_=>simp only [JT]at h4 ⊢;omega
 | 2,_=>simp only [JT]at h4 ⊢;omega
 | 3,_=>simp only [JT]at h4 ⊢;omega
 | 4,_=>omega

mutual
theorem lay_len:∀(v:Nat) (out:List Nd) (S:List Sp),(Cc v out S).1.length≤out.length+S.length*v
 | 0,out,S=>by simp [Cc]
 | v+1,out,S=>by
  unfold Cc
  split
  ·simp
  ·rename_i hS
   have h:=S2 v out S 4 (WF _)
   have hpos:0<S.length:=Xx.2 hS
   have:JT v S 4*v≤S.length*v:=X0 _ (Ww v S (WF _))
   simp only [WJ,List.length_singleton,Nat.mul_succ]
   omega
theorem S2:∀(v:Nat) (out:List Nd) (S:List Sp) (k:Nat),k≤4→(lyK (Cc v) v S k out).1.length≤out.length+JT v S k*v
 | v,out,S,0,_=>by simp [lyK,JT]
 | v,out,S,k+1,hk=>by
  have h:=S2 v out S k (by omega)
  unfold lyK
  split
  ·rename_i h0
   subst h0
   dsimp only;omega
  ·have h2:=lay_len v (lyK (Cc v) v S k out).1 (qSp v k S)
   dsimp only
   have:JT v S (k+1)*v=JT v S k*v+(qSp v k S).length*v:=by
    show (JT v S k+(qSp v k S).length)*v=_
    rw [Xz]
   omega

end
theorem lyK_kid (rec:List Nd→List Sp→List Nd×Nat) (v:Nat) (S:List Sp) (out:List Nd):∀k,k≤4→∀j,k≤j→j<4→(lyK rec v S k out).2.kid j=0
 | 0,_,j,_,h4=>by
  match j,h4 with
  | 0,_=>rfl
  | 1,_=>rfl
  | 2,_=>rfl
  | 3,_=>rfl
 | k+1,hk,j,hj,h4=>by
  unfold lyK
  split
  ·rw [J0 _ _ (by omega) h4 (by omega)];exact lyK_kid rec v S out k (by omega) j (by omega) h4
  ·rw [J0 _ _ (by omega) h4 (by omega)];exact lyK_kid rec v S out k (by omega) j (by omega) h4
theorem setKid_id (x:Nd) {k:Nat} (hk:k<4) (h:x.kid k=0):x.setKid k 0=x:=by
 match k,hk with
 | 0,_=>simp only [Nd.kid]at h;unfold Nd.setKid;cases x;simp_all
 | 1,_=>simp only [Nd.kid]at h;unfold Nd.setKid;cases x;simp_all
 | 2,_=>simp only [Nd.kid]at h;unfold Nd.setKid;cases x;simp_all
 | 3,_=>simp only [Nd.kid]at h;unfold Nd.setKid;cases x;simp_all
theorem PS.same {b:Nat} {out:List Nd} {v:Ab} {H H':Aa} (h:PS b out v H) (hs:∀i,i<H.length→H'[i]? = H[i]?):PS b out v H':=by
 rcases h with h1 | ⟨t,h1,h2,h3⟩
 ·exact .inl h1
 ·exact .inr ⟨t,h1,h2,by rw [hs t (WC.1 h3).1];exact h3⟩
def LayOk (b pb n:Nat) (self:Ab→Ab→Ab→Aa→Out):Prop:=
 ∀(out:List Nd) (w:Ab) (S:List Sp) (tk:Tok) (H:Aa),H[pb]? = some (.cel 0 [w])→PS b out w H→b≤H.length→(∀p∈S,SpOk p)→S.length<1000000000→out.length+S.length*n<3518437208880 →
  ∃H' w',self (.ptr pb 0 0) (.int .i64 (n:Int)) (.sl (enL cSp S) tk) H=some (.ret (.int .i64 ((Cc n out S).2:Int)),H')∧H'[pb]? = some (.cel 0 [w'])∧PS b (Cc n out S).1 w' H'∧Ext b pb H H'
theorem nd_new (v:Nat):AB (some [(.int .i64 0),(.int .i64 0),(.int .i64 0),(.int .i64 0),(.int .i64 0)]) [(0,1,.int .i64 (v:Int))]=some (.agg (cNd ⟨(v:Int),0,0,0,0⟩)):=by
 simp [AB,Gj,D9,cNd]
theorem lay_kid {b pb q v k:Nat} {self:Ab→Ab→Ab→Aa→Out} {out:List Nd} {S:List Sp} {H Hd:Aa} {W:Nat→Ab} {w:Ab} (hself:v=0∨LayOk b pb v self) (hv:v<100000) (hk:k<4)
  (hW:∃tk,W k=.sl (enL cSp (qSp v k S)) tk) (hok:∀p∈S,SpOk p) (hS:S.length<1000000000) (hlen:out.length+S.length*v<3518437208880) (hbp:b≤pb) (hqp:q≠pb) (hbq:b≤q)
  (f1:Hd[pb]? = some (.cel 0 [w])) (f2:PS b (lyK (Cc v) v S k out).1 w Hd) (f3:Hd[q]? = some (.cel 0 (cNd (lyK (Cc v) v S k out).2))) :
  ∃w' He,(∀rec:LK,Sh.f1t H self rec (.ptr pb 0 0) (.int .i64 ((v+1:Nat):Int)) (.ptr q 0 0) (.agg [W 0,W 1,W 2,W 3]) (.int .i64 (k:Int)) Hd=rec [.ptr pb 0 0,.int .i64 ((v+1:Nat):Int),.ptr q 0 0,.agg [W 0,W 1,W 2,W 3],.int .i64 ((k+1:Nat):Int)] He) ∧
   He[pb]? = some (.cel 0 [w'])∧PS b (lyK (Cc v) v S (k+1) out).1 w' He∧He[q]? = some (.cel 0 (cNd (lyK (Cc v) v S (k+1) out).2))∧Hd.length≤He.length∧(∀(i:Nat) (cs:List Ab),i≠pb→i≠q→Hd[i]? = some (.cel 0 cs)→He[i]? = some (.cel 0 cs))∧∀i,i<b→He[i]? = Hd[i]? := by
 obtain ⟨tk,hW⟩:=hW
 have hk':decide ((k:Int)<4)=true:=decide_eq_true (by omega)
 have hpl:pb<Hd.length:=(WC.1 f1).1
 have hql:q<Hd.length:=(WC.1 f3).1
 have hag:Iy false 4 1 (.agg [W 0,W 1,W 2,W 3]) (.int .i64 (k:Int))=some (W k):=by
  match k,hk with
  | 0,_=>rfl
  | 1,_=>rfl
  | 2,_=>rfl
  | 3,_=>rfl
 have hw:=Aw (show k<9223372036854775807 by omega)
 have w1:IntKind.i64.wrap (((v+1:Nat):Int)-1)=(v:Int):=by rw [Al] <;> omega
 have hix:=P6 (K:=.i64) (id:=q) (g:=0) (o:=1) hk
 rcases Yc v with h0 | h0
 ·subst h0
  have d1:decide (((0+1:Nat):Int)>1)=false:=rfl
  have e:lyK (Cc 0) 0 S (k+1) out=((lyK (Cc 0) 0 S k out).1,(lyK (Cc 0) 0 S k out).2.setKid k (headP (qSp 0 k S))):=rfl
  rw [e]
  cases hq:qSp 0 k S with
  | nil=>
   rw [hq]at hW
   have hid:=setKid_id _ hk (lyK_kid (Cc 0) 0 S out k (by omega) k (WF _) hk)
   refine ⟨w,Hd,fun rec=>?_,f1,f2,?_,WF _,fun _ _ _ _ h=>h,fun _ _=>rfl⟩
   ·unfold Sh.f1t
    have hl0:A2 (.sl (enL cSp []) tk)=some (.int .i64 0):=rfl
    have d2:decide ((0:Int)>0)=false:=rfl
    simp only [GMb,GMc,hk',hag,d1,hW,hl0,d2,hw]
   ·show Hd[q]? = some (.cel 0 (cNd ((lyK (Cc 0) 0 S k out).2.setKid k 0)))
    rw [hid];exact f3
  | cons s r=>
   rw [hq]at hW
   have hst:=Ju (c:=(s.s.toNat:Int)) f3 hk
   refine ⟨w,Hd.set q (.cel 0 (cNd ((lyK (Cc 0) 0 S k out).2.setKid k (s.s.toNat:Int)))),fun rec=>?_,?_,f2.put f3,?_,by simp,fun i cs h1 h2 h=>?_,fun i hi=>?_⟩
   ·have hl1:decide (((s::r).length:Int)>0)=true:=decide_eq_true (by simp only [List.length_cons];omega)
    have hi0:At 3 (.sl (enL cSp (s::r)) tk) (.int .i64 0)=some (.cptr (cSp s) 0):=Ax (f:=cSp) (l:=s::r) (i:=0) (K:=.i64) (by simp)
    have hld:∀K,Ac false 1 (.cptr (cSp s) 2) K=some (.int .u8 (s.s.toNat:Int)):=fun _=>rfl
    have hc:A9 .i64 (.int .u8 (s.s.toNat:Int))=some (.int .i64 (s.s.toNat:Int)):=by
     have:=s.s.toNat_lt
     rw [By,Al (by omega) (by omega)]
    unfold Sh.f1t
    simp only [GMb,GMc,hk',hag,d1,hW,Av,hl1,hi0,Ap,Ag,WE,hld,hc,hix,hst,AK,hw]
   ·rw [WI hqp];exact f1
   ·rw [WS hql];rfl
   ·rw [WI (Ne.symm h2)];exact h
   ·rw [WI (by omega)]
 ·obtain hself:=hself.resolve_left (by omega)
  have d1:decide (((v+1:Nat):Int)>1)=true:=decide_eq_true (by omega)
  have hcnt:=S2 v out S k (by omega)
  have hc2:JT v S (k+1)*v=JT v S k*v+(qSp v k S).length*v:=by
   show (JT v S k+(qSp v k S).length)*v=_
   rw [Xz]
  have hc3:JT v S (k+1)*v≤S.length*v:=X0 _ (Ww v S (by omega))
  obtain ⟨H1,w',r1,r2,r3,r4⟩:=hself (lyK (Cc v) v S k out).1 w (qSp v k S) tk Hd f1 f2 (by omega) (fun p hp=>hok p (XT.1 hp).1) (X6 (Yf _ _) hS) (by omega)
  have f3':=r4.cel q _ hqp f3
  have hst:=Ju (c:=((Cc v (lyK (Cc v) v S k out).1 (qSp v k S)).2:Int)) f3' hk
  have hql':q<H1.length:=(WC.1 f3').1
  have e:lyK (Cc v) v S (k+1) out=((Cc v (lyK (Cc v) v S k out).1 (qSp v k S)).1,(lyK (Cc v) v S k out).2.setKid k ((Cc v (lyK (Cc v) v S k out).1 (qSp v k S)).2:Int)):=by
   conv=>lhs;unfold lyK
   rw [if_neg (by omega)]
  rw [e]
  refine ⟨w',H1.set q (.cel 0 (cNd ((lyK (Cc v) v S k out).2.setKid k ((Cc v (lyK (Cc v) v S k out).1 (qSp v k S)).2:Int)))),fun rec=>?_,?_,r3.put f3',?_,by rw [Xo];exact r4.len,fun i cs h1 h2 h=>?_,fun i hi=>?_⟩
  ·unfold Sh.f1t
   simp only [GMb,GMc,hk',hag,d1,hW,w1,r1,Ag,WE,hix,hst,AK,hw]
  ·rw [WI hqp];exact r2
  ·rw [WS hql']
  ·rw [WI (Ne.symm h2)];exact r4.cel i cs h1 h
  ·rw [WI (by omega)];exact r4.old i hi
theorem lay_step {b pb v:Nat} {self:Ab→Ab→Ab→Aa→Out} (hself:v=0∨LayOk b pb v self) (hv:v<100000) (hbp:b≤pb):LayOk b pb (v+1) (Sh.f6f self):=by
 intro out w S tk H f1 f2 hb hok hS hlen
 have hpl:pb<H.length:=(WC.1 f1).1
 unfold Sh.f6f Cc
 by_cases h0:S=[]
 ·subst h0
  refine ⟨H,w,?_,f1,f2,Ext.refl _ _ _⟩
  simp
 ·rw [if_neg h0]
  have hpos:=Xx.2 h0
  have hne:decide ((S.length:Int)=0)=false:=decide_eq_false (by omega)
  have hne2:((S.length:Int) == 0)=false:=by rw [beq_eq_false_iff_ne];omega
  have hal:A3 (some [(.sl [] .tight),(.sl [] .tight),(.sl [] .tight),(.sl [] .tight)]) H=some (.ptr H.length 0 0,H++[.cel 0 [Ab.sl [] .tight,.sl [] .tight,.sl [] .tight,.sl [] .tight]]):=alloc_eq rfl
  simp only [GMb,GMc,Av,hne,hne2,hal]
  have hQ0:Q4 H.length H.length (fun k=>qSp v k (S.take 0)) (fun _=>.sl [] .tight) (fun _=>0) (H++[.cel 0 [Ab.sl [] .tight,.sl [] .tight,.sl [] .tight,.sl [] .tight]]):=
   ⟨Ar,fun k hk=>.inl ⟨rfl,rfl⟩,fun i j _ _ _ h=>absurd rfl h⟩
  have loop:=HC (G:=fun rec1 vs H1=>Sh.f49 H self rec1 (ag vs 0) (ag vs 1) (ag vs 2) (ag vs 3) (ag vs 4) (ag vs 5) H1) S.length
   (fun i vs Hc=>vs=[.ptr pb 0 0,.int .i64 ((v+1:Nat):Int),.ptr H.length 0 0,.sl (enL cSp S) tk,.int .i64 (S.length:Int),.int .i64 (i:Int)]∧∃W T,Q4 H.length H.length (fun k=>qSp v k (S.take i)) W T Hc∧H.length≤Hc.length∧∀i,i<H.length→Hc[i]? = H[i]?)
   (by omega) (fun i vs Hc hi hI=>?_) (vs:=[.ptr pb 0 0,.int .i64 ((v+1:Nat):Int),.ptr H.length 0 0,.sl (enL cSp S) tk,.int .i64 (S.length:Int),.int .i64 0]) (H:=H++[.cel 0 [Ab.sl [] .tight,.sl [] .tight,.sl [] .tight,.sl [] .tight]])
   ⟨rfl,_,_,hQ0,by simp,fun i hi=>WD hi⟩
  ·obtain ⟨vs,Hc,⟨rfl,W,T,hQ,hl,hold⟩,rec,hloop⟩:=loop
   rw [Xv]at hQ
   rw [hloop]
   have d1:decide ((S.length:Int)<(S.length:Int))=false:=decide_eq_false (by omega)
   have hal2:A3 (some [(.int .i64 0),(.int .i64 0),(.int .i64 0),(.int .i64 0),(.int .i64 0)]) Hc=some (.ptr Hc.length 0 0,Hc++[.cel 0 [Ab.int .i64 0,.int .i64 0,.int .i64 0,.int .i64 0,.int .i64 0]]):=alloc_eq rfl
   have hst:Ah 5 (.ptr Hc.length 0 0) (.agg (cNd ⟨((v+1:Nat):Int),0,0,0,0⟩)) (Hc++[.cel 0 [Ab.int .i64 0,.int .i64 0,.int .i64 0,.int .i64 0,.int .i64 0]])=some (Hc++[.cel 0 (cNd ⟨((v+1:Nat):Int),0,0,0,0⟩)]):=by
    rw [V7 Ar rfl,Bv]
   have hldq:Ac true 4 (.ptr H.length 0 0) (Hc++[.cel 0 (cNd ⟨((v+1:Nat):Int),0,0,0,0⟩)])=some (.agg [W 0,W 1,W 2,W 3]):=Q5 (AE hQ.blk) rfl
   have hqH:H.length<Hc.length:=(WC.1 hQ.blk).1
   have hWr:∀k,k<4→∃tk,W k=.sl (enL cSp (qSp v k S)) tk:=fun k hk=>by
    rcases hQ.row k hk with ⟨q1,q2⟩ | ⟨_,_,q2,_⟩
    ·exact ⟨.tight,by rw [q2,show qSp v k S=[] from q1];rfl⟩
    ·exact ⟨_,q2⟩
   have hlenv:out.length+S.length*v<3518437208880:=by rw [Nat.mul_succ]at hlen;omega
   have loop2:=HC (G:=fun rec4 vs H1=>Sh.f1t H self rec4 (ag vs 0) (ag vs 1) (ag vs 2) (ag vs 3) (ag vs 4) H1) 4
    (fun k vs Hd=>vs=[.ptr pb 0 0,.int .i64 ((v+1:Nat):Int),.ptr Hc.length 0 0,.agg [W 0,W 1,W 2,W 3],.int .i64 (k:Int)]∧∃w',Hd[pb]? = some (.cel 0 [w'])∧PS b (lyK (Cc v) v S k out).1 w' Hd∧Hd[Hc.length]? = some (.cel 0 (cNd (lyK (Cc v) v S k out).2))∧Hc.length≤Hd.length∧(∀(i:Nat) (cs:List Ab),i≠pb→i<H.length→H[i]? = some (.cel 0 cs)→Hd[i]? = some (.cel 0 cs))∧∀i,i<b→Hd[i]? = H[i]?)
    (by decide) (fun k vs Hd hk hI=>?_) (vs:=[.ptr pb 0 0,.int .i64 ((v+1:Nat):Int),.ptr Hc.length 0 0,.agg [W 0,W 1,W 2,W 3],.int .i64 0]) (H:=Hc++[.cel 0 (cNd ⟨((v+1:Nat):Int),0,0,0,0⟩)])
    ⟨rfl,w,by rw [WD (by omega),hold pb hpl];exact f1,f2.same fun i hi=>by rw [WD (by omega)];exact hold i hi,by simp [lyK],by simp,fun i cs _ hi hc=>by rw [WD (by omega),hold i hi];exact hc,fun i hi=>by rw [WD (by omega)];exact hold i (by omega)⟩
   ·obtain ⟨vs,Hd,⟨rfl,w1,g1,g2,g3,g4,g5,g6⟩,rec2,hloop2⟩:=loop2
    have hlk:=S2 v out S 4 (WF _)
    rw [Ra]at hlk
    obtain ⟨w2,H2,a1,a2,a3⟩:=g2.snoc (show b≤Hd.length by omega) (lyK (Cc v) v S 4 out).2 (by omega)
    have h2b:=a3.cel pb _ g1
    have hpl2:=(WC.1 h2b).1
    obtain ⟨tk2,hw2⟩:=a2.sl
    have hst2:=Jw (v:=w2) (o:=0) h2b (by rw [hw2];rfl) (by simp)
    have hld1:Ac false 1 (.ptr pb 0 0) Hd=some w1:=by rw [C5 g1];rfl
    have hld2:Ac false 1 (.ptr pb 0 0) (H2.set pb (.cel 0 ([w1].set 0 w2)))=some w2:=by rw [C5 (cs:=[w1].set 0 w2) (WS hpl2)];rfl
    have hldn:=Pz g3
    have hlen2:A2 w2=some (.int .i64 (((lyK (Cc v) v S 4 out).1.length+1:Nat):Int)):=by rw [hw2,Av,WJ,List.length_singleton]
    have d4:decide (((4:Nat):Int)<4)=false:=rfl
    refine ⟨H2.set pb (.cel 0 ([w1].set 0 w2)),w2,?_,by rw [WS hpl2];rfl,a2.put h2b,⟨?_,fun i cs hi hc=>?_,fun i hi=>?_⟩⟩
    ·unfold Sh.f49
     simp only [Aj,Ai,AS,AY,Bo,B6,Di,GMb,GMc,d1,nd_new,hal2,hst,AK,hldq]
     rw [hloop2]
     unfold Sh.f1t
     simp only [Aj,Ai,AS,AY,Bo,B6,Di,GMb,GMc,d4,nil_ptr,Ag,WE,hld1,hldn,UB,a1,hst2,AK,hld2,hlen2]
    ·rw [Xo];have:=a3.len;omega
    ·rw [WI (Ne.symm hi)]
     exact a3.cel i cs (g5 i cs hi (WC.1 hc).1 hc)
    ·rw [WI (by omega),a3.old i hi];exact g6 i hi
   ·obtain ⟨rfl,w1,g1,g2,g3,g4,g5,g6⟩:=hI
    obtain ⟨w',He,t1,t2,t3,t4,t5,t6,t7⟩:=lay_kid (H:=H) (W:=W) hself hv hk (hWr k hk) hok hS hlenv hbp (show Hc.length≠pb by omega) (by omega) g1 g2 g3
    exact ⟨_,He,⟨rfl,w',t2,t3,t4,by omega,fun i cs hi hl hc=>t6 i cs hi (by omega) (g5 i cs hi hl hc),fun i hi=>(t7 i hi).trans (g6 i hi)⟩,t1⟩
  ·obtain ⟨rfl,W,T,hQ,hl,hold⟩:=hI
   obtain ⟨W',T',Hd,t1,t2,t3,t4⟩:=lay_turn (self:=self) (pb:=pb) (tk:=tk) (H:=H) hi hok hS hv rfl hQ hl hold
   exact ⟨_,Hd,⟨rfl,W',T',t2,t3,t4⟩,t1⟩
theorem lay_ok {b pb:Nat} (hbp:b≤pb):∀(n d:Nat),n<d→n<100000→1≤n→LayOk b pb n (Sh.f1u d)
 | 0,_,_,_,h=>by omega
 | n+1,d,hd,hn,_=>by
  obtain ⟨d,rfl⟩:∃e,d=e+1:=⟨d-1,by omega⟩
  refine lay_step (v:=n) ?_ (by omega) hbp
  rcases Yc n with h | h
  ·exact .inl h
  ·exact .inr (lay_ok hbp n d (by omega) (by omega) h)
theorem p_clone (l:List Cl) (tk:Tok) (H:Aa) (hl:l.length<1000000000):Sh.f2i (.sl (enL cCl l) tk) H=some (if l=[]then (.ret (.sl [] .tight),H)else (.ret (dV H.length 0 l.length),H++[.buf 0 (flat cCl l) A6 5])):=by
 have hb:AQ 5 []=some (.sl [] .tight):=rfl
 unfold Sh.f2i
 cases l with
 | nil=>
  have ha:Fy A6 5 72 (.sl [] .tight) (.sl (enL cCl []) tk) H=some (.sl [] .tight,H):=rfl
  have hn:Sb .eql (.sl (enL cCl []) tk)=some .ubool:=rfl
  have hu:∀x:Out,Ak .ubool x x=x:=fun x=>if_pos rfl
  simp only [hn,GMb,GMc,hb,ha]
  exact hu _
 | cons c l=>
  have hn:Sb .eql (.sl (enL cCl (c::l)) tk)=some (.bool false):=rfl
  have ha:Fy A6 5 72 (.sl [] .tight) (.sl (enL cCl (c::l)) tk) H=some (dV H.length 0 (c::l).length,H++[.buf 0 (flat cCl (c::l)) A6 5]):=by
   have he:BK 5 (.sl (enL cCl (c::l)) tk) H=some (enL cCl (c::l)):=M2
   have hlen:(enL cCl (c::l)).length=(c::l).length:=by simp [enL]
   unfold Fy
   rw [he]
   simp only [Option.bind_some]
   unfold Ho
   rw [hlen,if_neg (by simp)]
   simp only [List.length_nil,WE,List.all_nil,List.nil_append]
   rw [if_pos ⟨trivial,by omega,by omega⟩]
   rfl
  simp only [hn,GMb,GMc,hb,ha]
  rw [if_neg (by simp)]
def WA (P L:List Cl) (i:Nat):Prop:=L.length=P.length∧∀k,k<P.length→L[k]? = if k<i∨P.length-i≤k then P[P.length-1-k]? else P[k]?
theorem WA.step {P L:List Cl} {i:Nat} (h:WA P L i) (hi:i<P.length-1-i):WA P (swp L i (P.length-1-i)) (i+1):=by
 obtain ⟨h1,h2⟩:=h
 have hl:i<L.length:=by omega
 have hj:P.length-1-i<L.length:=by omega
 refine ⟨by rw [Na];exact h1,fun k hk=>?_⟩
 have ei:=h2 i (by omega)
 have ej:=h2 (P.length-1-i) (by omega)
 rw [WB hl,if_neg (by omega)]at ei
 rw [WB hj,if_neg (by omega)]at ej
 rw [swp_eq hl hj]
 by_cases k1:k=P.length-1-i
 ·subst k1
  rw [WS (by simp;omega),if_pos (by omega),ei]
  congr 1
  omega
 ·rw [WI (Ne.symm k1)]
  by_cases k2:k=i
  ·subst k2
   rw [WS hl,if_pos (by omega),ej]
  ·rw [WI (Ne.symm k2),h2 k hk]
   by_cases k3:k<i∨P.length-i≤k
   ·rw [if_pos k3,if_pos (by omega)]
   ·rw [if_neg k3,if_neg (by omega)]
theorem WA.done {P L:List Cl} {i:Nat} (h:WA P L i) (hi:¬i<P.length-1-i):L=P.reverse:=by
 apply XZ
 intro k
 by_cases hk:k<P.length
 ·rw [h.2 k hk,List.getElem?_reverse hk]
  split
  ·rfl
  ·congr 1
   omega
 ·rw [WR (by rw [h.1];omega),WR (by simp;omega)]
section
variable {p g:Nat} {l:List Cl} {H:Aa}
theorem p_reverse (h:C6 H p g l) (hp:0<l.length) (hl:l.length<1000000000):Sh.f15 (dV p g l.length) H=some (.ret (.tup []),B5 H p g l.reverse):=by
 have hw:IntKind.i64.wrap ((l.length:Int)-1)=((l.length-1:Nat):Int):=by rw [Al] <;> omega
 have hln:A2 (dV p g l.length)=some (.int .i64 (l.length:Int)):=rfl
 unfold Sh.f15
 simp only [hln,GMb,GMc,hw]
 have key:=DH (G:=fun rec1 vs H1=>Sh.f43 H rec1 (ag vs 0) (ag vs 1) (ag vs 2) H1) (σ:=Nat×List Cl)
  (fun s vs H1=>(WA l s.2 s.1∧2*s.1≤l.length)∧vs=[dV p g l.length,.int .i64 (s.1:Int),.int .i64 ((l.length:Int)-1-(s.1:Int))]∧H1=B5 H p g s.2) (fun s=>l.length-s.1) (fun s=>¬s.1<l.length-1-s.1) (fun s vs H1 hI hd=>?_)
  (s:=(0,l)) (vs:=[dV p g l.length,.int .i64 0,.int .i64 ((l.length-1:Nat):Int)]) (H:=H) ⟨⟨⟨rfl,fun k hk=>by rw [if_neg (by omega)]⟩,Xd _⟩,by dsimp only;rw [show (l.length:Int)-1-((0:Nat):Int)=((l.length-1:Nat):Int)by omega];rfl,(Ck h).symm⟩ (by dsimp only;omega)
 ·obtain ⟨⟨i,L⟩,vs,H1,hd,⟨⟨ht,hi⟩,rfl,rfl⟩,rec,hloop⟩:=key
  dsimp only at ht hi hd hloop
  have d1:decide ((i:Int)<(l.length:Int)-1-(i:Int))=false:=decide_eq_false (by omega)
  rw [hloop]
  unfold Sh.f43
  simp only [Aj,Ai,AS,AY,GMb,GMc,d1]
  rw [ht.done hd]
 ·obtain ⟨i,L⟩:=s
  obtain ⟨⟨ht,hi⟩,rfl,rfl⟩:=hI
  dsimp only at ht hi hd ⊢
  have hr:C6 (B5 H p g L) p g L:=C9 h
  have hlt:i<l.length-1-i:=by omega
  have hLl:=ht.1
  have i1:i<L.length:=by omega
  have i2:l.length-1-i<L.length:=by omega
  have e:(l.length:Int)-1-(i:Int)=((l.length-1-i:Nat):Int):=by omega
  have d1:decide ((i:Int)<((l.length-1-i:Nat):Int))=true:=decide_eq_true (by omega)
  have hw1:=Aw (show i<9223372036854775807 by omega)
  have hw2:IntKind.i64.wrap (((l.length-1-i:Nat):Int)-1)=(l.length:Int)-1-((i+1:Nat):Int):=by rw [Al] <;> omega
  obtain ⟨s1,s2⟩:=Tl hr i1 i2
  rw [Bq]at s1 s2
  rw [Bq]at s2
  refine ⟨(i+1,swp L i (l.length-1-i)),_,_,by dsimp only;omega,⟨⟨ht.step hlt,by dsimp only;omega⟩,rfl,rfl⟩,fun rec=>?_⟩
  unfold Sh.f43
  simp only [Aj,Ai,AS,AY,GMb,GMc,e,d1,BD (show i<l.length by omega),BD (show l.length-1-i<l.length by omega),BY hr i1,BY hr i2,B9,s1,s2,Br,AK,hw1,hw2]
theorem p_sort {f:Ab} {l0:List Cl} (hf1:UO A4 f l0) (hf2:Vw f l0) (h:C6 H p g l) (hm:∀c∈l,c∈l0) (hl:l.length<1000000000) :
  ∃S,DS ltC S∧ES ltC l S∧S.length=l.length∧Sh.f19 (dV p g l.length) f H=some (.ret (.tup []),B5 H p g S):=by
 obtain ⟨S,s1,s2,s3,s4⟩:=stable_ok hf1 hf2 h hm hl
 refine ⟨S,s1,s2,s3,?_⟩
 have hln:A2 (dV p g l.length)=some (.int .i64 (l.length:Int)):=rfl
 unfold Sh.f19
 simp only [hln,GMb,GMc,s4]
def RwT (H:Aa) (p g:Nat) (l:List Cl) (r:List Ab):Prop:=H[p]? = some (.buf g (flat cCl l++r) A6 5)
theorem C6.t (h:C6 H p g l):RwT H p g l []:=by unfold RwT;rw [Xl];exact h

end
theorem cpL_snoc (lt:Cl→Cl→Bool) (y:Cl):∀(P:List Cl) (x:Cl),cpL lt (P++[x]++[y])=if Bw lt y x then cpL lt (P++[x])else cpL lt (P++[x])++[y]:=by
 have key:∀(t:List Cl) (a x:Cl),cpF lt a (t++[x]++[y])=if Bw lt y x then cpF lt a (t++[x])else cpF lt a (t++[x])++[y]:=by
  intro t
  induction t with
  | nil=>
   intro a x
   show (if Bw lt x a then cpF lt x [y]else x::cpF lt x [y])=if Bw lt y x then (if Bw lt x a then cpF lt x []else x::cpF lt x [])else (if Bw lt x a then cpF lt x []else x::cpF lt x [])++[y]
   have e:cpF lt x [y]=if Bw lt y x then []else [y]:=rfl
   rw [e]
   cases Bw lt x a <;> cases Bw lt y x <;> rfl
  | cons b t ih=>
   intro a x
   have ihb:=ih b x
   show (if Bw lt b a then cpF lt b (t++[x]++[y])else b::cpF lt b (t++[x]++[y]))=if Bw lt y x then (if Bw lt b a then cpF lt b (t++[x])else b::cpF lt b (t++[x]))else (if Bw lt b a then cpF lt b (t++[x])else b::cpF lt b (t++[x]))++[y]
   rw [ihb]
   cases Bw lt b a <;> cases Bw lt y x <;> rfl
 intro P x
 cases P with
 | nil=>
  show x::cpF lt x [y]=if Bw lt y x then [x]else [x]++[y]
  have e:cpF lt x [y]=if Bw lt y x then []else [y]:=rfl
  rw [e]
  cases Bw lt y x <;> rfl
 | cons a P=>
  show a::cpF lt a (P++[x]++[y])=if Bw lt y x then a::cpF lt a (P++[x])else (a::cpF lt a (P++[x]))++[y]
  rw [key]
  cases Bw lt y x <;> rfl
theorem cpL_len (lt:Cl→Cl→Bool):∀l:List Cl,(cpL lt l).length≤l.length:=by
 have key:∀(t:List Cl) (a:Cl),(cpF lt a t).length≤t.length:=by
  intro t
  induction t with
  | nil=>intro a;exact WF _
  | cons b t ih=>
   intro a
   have:=ih b
   unfold cpF
   split
   ·simp only [List.length_cons];omega
   ·simp only [List.length_cons];omega
 intro l
 cases l with
 | nil=>exact WF _
 | cons a t=>have:=key t a;show (cpF lt a t).length+1≤t.length+1;omega
def zCl:List Ab:=[.bool false,.sl [] .tight,.bool false,.sl [] .tight,.int .u8 0]
theorem repl_scal (n:Nat):(LR n zCl).all Ab.isScal=true:=by
 unfold LR
 induction n with
 | zero=>rfl
 | succ n ih=>rw [List.replicate_succ,List.flatten_cons,Zm,ih];rfl
theorem repl_len (n:Nat):(LR n zCl).length=n*5:=by
 unfold LR
 induction n with
 | zero=>rfl
 | succ n ih=>rw [List.replicate_succ,List.flatten_cons,WJ,ih,show zCl.length=5 from rfl];omega
theorem flat_split {L:List Cl} {k:Nat} (hk:k≤L.length):(flat cCl L).take (k*5)=flat cCl (L.take k)∧(flat cCl L).drop (k*5)=flat cCl (L.drop k):=by
 have h1:flat cCl L=flat cCl (L.take k)++flat cCl (L.drop k):=by rw [←R6,Xr]
 have h2:(flat cCl (L.take k)).length=k*5:=by rw [Fl,WT,X4 hk]
 rw [h1]
 exact ⟨by rw [←h2,Yy],by rw [←h2,YC]⟩
section
variable {p g:Nat} {l:List Cl} {H:Aa} {r:List Ab}
theorem VH {L:List Cl} {k:Nat} (h:RwT H p g L r) (hk:k≤L.length) :
  ∃G r',JV 5 (some zCl) (.ms p g (k*5) (L.length-k) (L.length-k) 5 false) H=some G∧RwT G p g (L.take k) r'∧(∀i,i≠p→G[i]? = H[i]?)∧G.length=H.length:=by
 unfold JV
 by_cases h0:L.length-k=0
 ·have:L.take k=L:=WN (by omega)
  simp only [h0,if_true]
  exact ⟨H,r,rfl,by rw [this];exact h,fun _ _=>rfl,rfl⟩
 ·have hpl:p<H.length:=(WC.1 h).1
  have hget:A1 H p g=some (flat cCl L++r):=by
   unfold RwT at h;simp [A1,h]
  have hac:(Ab.agg (LR (L.length-k) zCl)).acells=some (LR (L.length-k) zCl):=by
   show (if (LR (L.length-k) zCl).all Ab.isScal=true then _ else _)=_
   rw [if_pos (repl_scal _)]
  have hfl:(flat cCl L).length=L.length*5:=Fl L
  have hset:∀cs,FJ H p g cs=H.set p (.buf g cs A6 5):=fun cs=>by
   unfold RwT at h;unfold FJ;rw [h]
  simp only [h0,if_false,Option.bind_some,if_true,Ah,hget,hac,repl_len,WJ,hfl]
  rw [if_pos ⟨trivial,by omega⟩,hset]
  refine ⟨_,(LR (L.length-k) zCl)++r,rfl,?_,fun i hi=>?_,by rw [Xo]⟩
  ·unfold RwT
   rw [WS hpl]
   have e1:D9 (flat cCl L++r) (k*5) ((L.length-k)*5) (LR (L.length-k) zCl)=flat cCl (L.take k)++(LR (L.length-k) zCl++r):=by
    unfold D9
    rw [XY (by omega),(flat_split hk).1,show k*5+(L.length-k)*5=(flat cCl L).length by omega,YC,WG]
   rw [e1]
  ·rw [WI (Ne.symm hi)]
theorem compact_l2 {f:Ab} {k0:Nat} {H0:Aa} (hf:∀c∈l,∀d∈l,∀H,Dg AA f [.agg (cCl c),.agg (cCl d)] H=some (.ret (.bool (Bw ltC c d)),H))
  (h:C6 H p g l) (h1:1≤k0) (h2:k0<l.length) (h3:cpL ltC (l.take k0)=l.take k0) (h4:Bw ltC l[k0] (l[k0-1]'(by omega))=true) (hl:l.length<1000000000) :
  ∃G r,An (fun rec2 vs H1=>Sh.f2q H0 rec2 (ag vs 0) (ag vs 1) (ag vs 2) (ag vs 3) (ag vs 4) H1) AM [dV p g l.length,f,.int .i64 (k0:Int),.ms p g (k0*5) (l.length-k0) (l.length-k0) 5 false,.int .i64 1] H =
   some (.ret (.ms p g 0 (cpL ltC l).length l.length 5 false),G)∧RwT G p g (cpL ltC l) r∧(∀i,i≠p→G[i]? = H[i]?)∧G.length=H.length:=by
 have hsnoc:∀m (hm1:1≤m) (hm:m<l.length),cpL ltC (l.take (m+1))=if Bw ltC l[m] (l[m-1]'(by omega))then cpL ltC (l.take m)else cpL ltC (l.take m)++[l[m]]:=fun m hm1 hm=>by
  obtain ⟨j,rfl⟩:∃j,m=j+1:=⟨m-1,by omega⟩
  have:=cpL_snoc ltC l[j+1] (l.take j) (l[j]'(by omega))
  rw [←WM (by omega:j<l.length),←WM hm]at this
  exact this
 have key:=DH (G:=fun rec2 vs H1=>Sh.f2q H0 rec2 (ag vs 0) (ag vs 1) (ag vs 2) (ag vs 3) (ag vs 4) H1) (σ:=Nat×List Cl)
  (fun s vs H1=>(k0+1≤s.1∧s.1≤l.length∧s.2.length=l.length∧(cpL ltC (l.take s.1)).length≤s.1-1∧s.2.take (cpL ltC (l.take s.1)).length=cpL ltC (l.take s.1)∧s.2.drop (s.1-1)=l.drop (s.1-1)) ∧
   vs=[dV p g l.length,f,.int .i64 ((cpL ltC (l.take s.1)).length:Int),.ms p g (k0*5) (l.length-k0) (l.length-k0) 5 false,.int .i64 ((s.1-k0:Nat):Int)]∧H1=B5 H p g s.2) (fun s=>l.length-s.1) (fun s=>¬s.1<l.length) (fun s vs H1 hI hd=>?_)
  (s:=(k0+1,l)) (vs:=[dV p g l.length,f,.int .i64 (k0:Int),.ms p g (k0*5) (l.length-k0) (l.length-k0) 5 false,.int .i64 1]) (H:=H)
  (by
   have e1:cpL ltC (l.take (k0+1))=l.take k0:=by rw [hsnoc k0 h1 h2,h4,if_pos rfl,h3]
   have e2:(l.take k0).length=k0:=by rw [WT];omega
   dsimp only
   rw [e1,e2]
   exact ⟨⟨WF _,h2,rfl,by omega,rfl,by rw [Xi]⟩,by rw [Nat.add_sub_cancel_left];rfl,(Ck h).symm⟩) (by dsimp only;omega)
 ·obtain ⟨⟨m,L⟩,vs,H1,hd,⟨⟨i1,i2,i3,i4,i5,i6⟩,rfl,rfl⟩,rec,hloop⟩:=key
  dsimp only at i1 i2 i3 i4 i5 i6 hd hloop
  have em:m=l.length:=by omega
  subst em
  rw [WN (WF _)]at i4 i5 hloop
  have hr:RwT (B5 H p g L) p g L []:=(C9 h).t
  obtain ⟨G,r,g1,g2,g3,g4⟩:=VH (k:=(cpL ltC l).length) hr (by omega)
  rw [i3]at g1
  rw [i5]at g2
  have d1:decide (((l.length-k0:Nat):Int)<((l.length-k0:Nat):Int))=false:=decide_eq_false (by omega)
  have hln:A2 (.ms p g (k0*5) (l.length-k0) (l.length-k0) 5 false)=some (.int .i64 ((l.length-k0:Nat):Int)):=rfl
  have s1:Bn 5 (dV p g l.length) (some (.int .i64 ((cpL ltC l).length:Int))) none none=some (.ms p g ((cpL ltC l).length*5) (l.length-(cpL ltC l).length) (l.length-(cpL ltC l).length) 5 false):=by
   have:(cpL ltC l).length≤l.length:=by omega
   simp [Bn,Bk,this]
  have s2:Bn 5 (dV p g l.length) none (some (.int .i64 ((cpL ltC l).length:Int))) none=some (.ms p g 0 (cpL ltC l).length l.length 5 false):=by
   have:(cpL ltC l).length≤l.length:=by omega
   simp [Bn,Bk,this]
  refine ⟨G,r,?_,g2,fun i hi=>?_,?_⟩
  ·rw [hloop]
   unfold Sh.f2q
   simp only [Aj,Ai,AS,AY,Bo,B6,GMb,GMc,hln,d1,s1,s2]
   rw [show [Ab.bool false,.sl [] .tight,.bool false,.sl [] .tight,.int .u8 0]=zCl from rfl,g1]
   simp only [GMb,GMc,AK,DE,forget,DM,fgt]
  ·rw [g3 i hi]
   unfold B5
   rw [WI (Ne.symm hi)]
  ·rw [g4];unfold B5;rw [Xo]
 ·obtain ⟨m,L⟩:=s
  obtain ⟨⟨i1,i2,i3,i4,i5,i6⟩,rfl,rfl⟩:=hI
  dsimp only at i1 i2 i3 i4 i5 i6 hd ⊢
  have hm:m<l.length:=by omega
  have hr:C6 (B5 H p g L) p g L:=C9 h
  have hLm:m<L.length:=by omega
  have hLm1:m-1<L.length:=by omega
  have e1:L[m]=l[m]:=by
   have:=congrArg (fun x=>x[1]?) i6
   simp only [Xt]at this
   rw [show m-1+1=m by omega,WB hLm,WB hm]at this
   exact Yi this
  have e2:L[m-1]=l[m-1]:=by
   have:=congrArg (fun x=>x[0]?) i6
   simp only [Xt,Nat.add_zero]at this
   rw [WB hLm1,WB (by omega)]at this
   exact Yi this
  have hln:A2 (.ms p g (k0*5) (l.length-k0) (l.length-k0) 5 false)=some (.int .i64 ((l.length-k0:Nat):Int)):=rfl
  have d1:decide (((m-k0:Nat):Int)<((l.length-k0:Nat):Int))=true:=decide_eq_true (by omega)
  have hw1:IntKind.i64.wrap (((m-k0:Nat):Int)-1)=((m-k0-1:Nat):Int):=by rw [Al] <;> omega
  have hw2:IntKind.i64.wrap (((m-k0:Nat):Int)+1)=((m+1-k0:Nat):Int):=by rw [Al] <;> omega
  have x1:At 5 (.ms p g (k0*5) (l.length-k0) (l.length-k0) 5 false) (.int .i64 ((m-k0:Nat):Int))=some (.ptr p g (m*5)):=by
   rw [Cy (by omega),←Xz,show k0+(m-k0)=m by omega]
  have x2:At 5 (.ms p g (k0*5) (l.length-k0) (l.length-k0) 5 false) (.int .i64 ((m-k0-1:Nat):Int))=some (.ptr p g ((m-1)*5)):=by
   rw [Cy (by omega),←Xz,show k0+(m-k0-1)=m-1 by omega]
  have c1:=hf l[m] (WP hm) (l[m-1]'(by omega)) (WP _)
  have hsn:=hsnoc m (by omega) hm
  have l1:=BY hr hLm
  have l2:=BY hr hLm1
  rw [e1]at l1
  rw [e2]at l2
  cases he:Bw ltC l[m] (l[m-1]'(by omega))with
  | true=>
   rw [he,if_pos rfl]at hsn
   refine ⟨(m+1,L),_,_,by dsimp only;omega,⟨⟨by dsimp only;omega,by dsimp only;omega,i3,by dsimp only;rw [hsn];omega,by dsimp only;rw [hsn];exact i5,by
    dsimp only
    rw [Xi]
    have:=congrArg (List.drop 1) i6
    rw [XD,XD,show m-1+1=m by omega]at this
    exact this⟩,rfl,rfl⟩,fun rec=>?_⟩
   rw [he]at c1
   unfold Sh.f2q Sh.f68
   simp only [Aj,Ai,AS,AY,Bo,B6,GMb,GMc,hln,d1,hw1,x1,x2,l1,l2,B9,c1,Br,hw2,hsn]
  | false=>
   rw [he]at hsn
   simp only [WL,if_false]at hsn
   have hk:(cpL ltC (l.take m)).length<L.length:=by omega
   have hwk:=Aw (show (cpL ltC (l.take m)).length<9223372036854775807 by omega)
   have hst:=row_st hr hk l[m]
   rw [Bq]at hst
   refine ⟨(m+1,L.set (cpL ltC (l.take m)).length l[m]),_,_,by dsimp only;omega,⟨⟨by dsimp only;omega,by dsimp only;omega,by dsimp only;rw [Xo];exact i3,by dsimp only;rw [hsn];simp;omega,by
     dsimp only
     rw [hsn,WJ,List.length_singleton,WM (by rw [Xo];omega),Zn,List.take_set_of_le (WF _),i5],by
     dsimp only
     rw [Xi,List.drop_set_of_lt (by omega)]
     have:=congrArg (List.drop 1) i6
     rw [XD,XD,show m-1+1=m by omega]at this
     exact this⟩,rfl,rfl⟩,fun rec=>?_⟩
   rw [he]at c1
   unfold Sh.f2q Sh.f68
   simp only [Aj,Ai,AS,AY,Bo,B6,GMb,GMc,hln,d1,hw1,x1,x2,l1,l2,B9,c1,Br,BD (show (cpL ltC (l.take m)).length<l.length by omega),hst,AK,hwk,hw2,hsn,WJ,List.length_singleton]

end
def dupAt (l:List Cl) (k:Nat):Bool:=match l[k]?,l[k-1]? with
 | some a,some b=>Bw ltC a b
 | _,_=>false
theorem dupAt_eq {l:List Cl} {k:Nat} (hk:k<l.length) (hk1:k-1<l.length):dupAt l k=Bw ltC l[k] l[k-1]:=by
 unfold dupAt
 rw [WB hk,WB hk1]
section
variable {p g:Nat} {l:List Cl} {H:Aa} {r:List Ab} {f:Ab}
theorem p_compact (hf:∀c∈l,∀d∈l,∀H,Dg AA f [.agg (cCl c),.agg (cCl d)] H=some (.ret (.bool (Bw ltC c d)),H))
  (h:C6 H p g l) (hl:l.length<1000000000) :
  ∃G r,Sh.f1a (dV p g l.length) f H=some (.ret (.ms p g 0 (cpL ltC l).length l.length 5 false),G)∧RwT G p g (cpL ltC l) r∧(∀i,i≠p→G[i]? = H[i]?)∧G.length=H.length:=by
 have hln:A2 (dV p g l.length)=some (.int .i64 (l.length:Int)):=rfl
 have hsnoc:∀m (hm1:1≤m) (hm:m<l.length),cpL ltC (l.take (m+1))=if Bw ltC l[m] (l[m-1]'(by omega))then cpL ltC (l.take m)else cpL ltC (l.take m)++[l[m]]:=fun m hm1 hm=>by
  obtain ⟨j,rfl⟩:∃j,m=j+1:=⟨m-1,by omega⟩
  have:=cpL_snoc ltC l[j+1] (l.take j) (l[j]'(by omega))
  rw [←WM (by omega:j<l.length),←WM hm]at this
  exact this
 unfold Sh.f1a
 by_cases h2:l.length<2
 ·have d2:decide ((l.length:Int)<2)=true:=decide_eq_true (by omega)
  have e:cpL ltC l=l:=by
   match l,h2 with
   | [],_=>rfl
   | [c],_=>rfl
   | _::_::_,h2=>simp only [List.length_cons]at h2;omega
  refine ⟨H,[],?_,by rw [e];exact h.t,fun _ _=>rfl,rfl⟩
  simp only [hln,GMb,GMc,d2,DE,forget,DM,fgt]
  rw [e]
 ·have d2:decide ((l.length:Int)<2)=false:=decide_eq_false (by omega)
  have key:=DH (G:=fun rec1 vs H1=>Sh.f46 H rec1 (ag vs 0) (ag vs 1) (ag vs 2) H1) (σ:=Nat)
   (fun k vs H1=>(1≤k∧k≤l.length∧cpL ltC (l.take k)=l.take k)∧vs=[dV p g l.length,f,.int .i64 (k:Int)]∧H1=H) (fun k=>l.length-k) (fun k=>k<l.length→dupAt l k=true) (fun k vs H1 hI hd=>?_)
   (s:=1) (vs:=[dV p g l.length,f,.int .i64 1]) (H:=H) ⟨⟨WF _,by omega,by
    cases l with
    | nil=>simp at h2
    | cons c l=>rfl⟩,rfl,rfl⟩ (by omega)
  ·obtain ⟨k,vs,H1,hd,⟨⟨i1,i2,i3⟩,rfl,rfl⟩,rec,hloop⟩:=key
   simp only [hln,GMb,GMc,d2]
   rw [hloop]
   by_cases hk:k<l.length
   ·have hk1:k-1<l.length:=by omega
    have hdd:=hd hk
    rw [dupAt_eq hk hk1]at hdd
    obtain ⟨G,r,g1,g2,g3,g4⟩:=compact_l2 (H0:=H1) hf h i1 hk i3 hdd hl
    refine ⟨G,r,?_,g2,g3,g4⟩
    have d1:decide ((k:Int)<(l.length:Int))=true:=decide_eq_true (by omega)
    have hw1:IntKind.i64.wrap ((k:Int)-1)=((k-1:Nat):Int):=by rw [Al] <;> omega
    have c1:=hf l[k] (WP hk) l[k-1] (WP hk1)
    rw [hdd]at c1
    have s1:Bn 5 (dV p g l.length) (some (.int .i64 (k:Int))) none none=some (.ms p g (k*5) (l.length-k) (l.length-k) 5 false):=by
     have:k≤l.length:=by omega
     simp [Bn,Bk,this]
    unfold Sh.f46
    simp only [Aj,Ai,AS,AY,GMb,GMc,hln,d1,hw1,BD hk,BD (show k-1<l.length by omega),BY h hk,BY h (show k-1<l.length by omega),B9,c1,s1]
    exact g1
   ·have d1:decide ((k:Int)<(l.length:Int))=false:=decide_eq_false (by omega)
    have e:cpL ltC l=l:=by
     rw [WN (by omega)]at i3;exact i3
    refine ⟨H1,[],?_,by rw [e];exact h.t,fun _ _=>rfl,rfl⟩
    unfold Sh.f46
    simp only [Aj,Ai,AS,AY,GMb,GMc,hln,d1,DE,forget,DM,fgt]
    rw [e]
  ·obtain ⟨⟨i1,i2,i3⟩,rfl,rfl⟩:=hI
   have hk:k<l.length:=by
    rcases Xs k l.length with q | q
    ·exact q
    ·exact absurd (fun hk=>absurd hk (by omega)) hd
   have hk1:k-1<l.length:=by omega
   have he:Bw ltC l[k] l[k-1]=false:=by
    cases e:Bw ltC l[k] l[k-1]with
    | false=>rfl
    | true=>exact absurd (fun _=>by rw [dupAt_eq hk hk1];exact e) hd
   have d1:decide ((k:Int)<(l.length:Int))=true:=decide_eq_true (by omega)
   have hw1:IntKind.i64.wrap ((k:Int)-1)=((k-1:Nat):Int):=by rw [Al] <;> omega
   have hw2:=Aw (show k<9223372036854775807 by omega)
   have c1:=hf l[k] (WP hk) l[k-1] (WP hk1)
   rw [he]at c1
   refine ⟨k+1,_,_,by omega,⟨⟨by omega,hk,by rw [hsnoc k i1 hk,if_neg (by rw [he];decide),i3,WM hk]⟩,rfl,rfl⟩,fun rec=>?_⟩
   unfold Sh.f46
   simp only [Aj,Ai,AS,AY,GMb,GMc,hln,d1,hw1,BD hk,BD (show k-1<l.length by omega),BY h hk,BY h (show k-1<l.length by omega),B9,c1,hw2]
theorem Tn (h:RwT H p g l r):A1 H p g=some (flat cCl l++r):=by
 unfold RwT at h
 simp [A1,h]
theorem row_ldT {i:Nat} (h:RwT H p g l r) (hi:i<l.length):Ac true 5 (.ptr p g (i*5)) H=some (.agg (cCl l[i])):=by
 have h1:=JO (f:=cCl) (sz:=5) hi
 have h2:=S9 (f:=cCl) (sz:=5) hi
 have h3:((flat cCl l++r).drop (i*5)).take 5=cCl l[i]:=by
  rw [Yr (by omega),XY (by rw [WZ];omega),h2]
 simp only [Ac,Tn h,Option.bind_some,if_true,h3]
 rw [if_pos (by rw [WJ];omega)]
theorem row_stT {i:Nat} (h:RwT H p g l r) (hi:i<l.length) (a:Cl):∃G,Ah 5 (.ptr p g (i*5)) (.agg (cCl a)) H=some G∧RwT G p g (l.set i a) r∧(∀i,i≠p→G[i]? = H[i]?)∧G.length=H.length:=by
 have hpl:p<H.length:=(WC.1 h).1
 have h1:=JO (f:=cCl) (sz:=5) hi
 have hs:=Ui (f:=cCl) (sz:=5) (a:=a) hi
 have hset:∀cs,FJ H p g cs=H.set p (.buf g cs A6 5):=fun cs=>by
  unfold RwT at h;unfold FJ;rw [h]
 have hp:D9 (flat cCl l++r) (i*5) 5 (cCl a)=flat cCl (l.set i a)++r:=by
  rw [←hs]
  unfold D9
  rw [XY (by omega),Yr (by omega)]
  simp only [WG]
 refine ⟨H.set p (.buf g (flat cCl (l.set i a)++r) A6 5),?_,?_,fun j hj=>by rw [WI (Ne.symm hj)],by rw [Xo]⟩
 ·simp only [Ah,Tn h,Option.bind_some,NA,show (cCl a).length=5 from rfl]
  rw [if_pos ⟨trivial,by rw [WJ];omega⟩,hset,hp]
 ·unfold RwT
  rw [WS hpl]
theorem RwT.push (h:RwT H p g l r) (G:Aa):RwT (H++G) p g l r:=by
 have hpl:p<H.length:=(WC.1 h).1
 unfold RwT at h ⊢
 rw [WD hpl];exact h
def z0 (c:Cl):Bool:=decide (c.s=0)
theorem index_z {cap:Nat} (hf:∀c∈l,∀H,Dg A8 f [.agg (cCl c)] H=some (.ret (.bool (z0 c)),H)) (h:RwT H p g l r) (hl:l.length<1000000000) :
  Sh.fg (.ms p g 0 l.length cap 5 false) f H=some (.ret (.int .i64 (match l.findIdx? z0 with | some i=>(i:Int) | none=>-1)),H):=by
 have hln:A2 (.ms p g 0 l.length cap 5 false)=some (.int .i64 (l.length:Int)):=rfl
 unfold Sh.fg
 simp only [hln,GMb,GMc]
 have key:=Bl (G:=fun rec1 vs H1=>Sh.ft H rec1 (ag vs 0) (ag vs 1) (ag vs 2) (ag vs 3) H1) (σ:=Nat) (fun i=>i≤l.length∧(l.take i).findIdx? z0=none)
  (fun i=>[.ms p g 0 l.length cap 5 false,f,.int .i64 (l.length:Int),.int .i64 (i:Int)]) (fun _=>H) (fun i=>l.length-i) (fun _=>some (.ret (.int .i64 (match l.findIdx? z0 with | some i=>(i:Int) | none=>-1)),H)) (fun i rec hi hrec=>?_) 0 ⟨Xd _,rfl⟩ (by omega)
 ·exact key
 ·obtain ⟨h1,h2⟩:=hi
  unfold Sh.ft
  by_cases hi:i<l.length
  ·have d1:decide ((i:Int)<(l.length:Int))=true:=decide_eq_true (by omega)
   have x1:At 5 (.ms p g 0 l.length cap 5 false) (.int .i64 (i:Int))=some (.ptr p g (i*5)):=by rw [Cy hi,WE]
   have hwi:=Aw (show i<9223372036854775807 by omega)
   have c1:=hf l[i] (WP hi)
   cases hz:z0 l[i]with
   | true=>
    rw [hz]at c1
    have:l.findIdx? z0=some i:=by
     rw [Y7]
     refine ⟨hi,hz,fun j hj=>?_⟩
     rw [YY]at h2
     have:=h2 l[j] (by rw [List.mem_take_iff_getElem];exact ⟨j,by omega,rfl⟩)
     simpa using this
    simp only [Aj,Ai,AS,AY,Bo,GMb,GMc,d1,x1,row_ldT h hi,c1,this]
   | false=>
    rw [hz]at c1
    simp only [Aj,Ai,AS,AY,Bo,GMb,GMc,d1,x1,row_ldT h hi,c1,hwi]
    refine hrec (i+1) ⟨hi,?_⟩ (by omega)
    rw [WM hi,List.findIdx?_append,h2]
    simp [hz]
  ·have d1:decide ((i:Int)<(l.length:Int))=false:=decide_eq_false (by omega)
   rw [WN (by omega)]at h2
   simp only [Aj,Ai,AS,AY,Bo,GMb,GMc,d1,h2]

end
theorem fall_msX {α:Type} {f:α→List Ab} {sz:Nat} [hf:Sz f sz] [hp:Pl f] {H:Aa} {l:List α} {r:List Ab} {id b d cap:Nat} {ex:Bool} (hg:A1 H id 0=some (flat f l++r)) (hi:b≤id):Gy H b (d+3) (.ms id 0 0 l.length cap sz ex)=some (.sl (enL f l) .no):=by
 have h1:¬id<b:=by omega
 have h2:l.length*sz≤(flat f l++r).length:=by rw [WJ,Fl];omega
 have h3:(flat f l++r).take (l.length*sz)=flat f l:=by rw [←Fl (f:=f) (sz:=sz) l,Yy]
 unfold Gy
 simp only [frz,h1,if_false,hg,Option.bind_some,Yd,WE,h2,if_true,h3,Gt (N4 (f:=f) l),PA (f:=f) l,M8,Option.map_some,forget,DM,fgt]
section
variable {p g:Nat} {l:List Cl} {H:Aa} {r:List Ab} {f:Ab}
def kp (c:Cl):Bool:=decide (c.s≠0)
theorem kp_z (c:Cl):kp c = !z0 c:=by unfold kp z0;by_cases h:c.s=0 <;> simp [h]
theorem p_delete {cap:Nat} (hf:∀c∈l,∀H,Dg A8 f [.agg (cCl c)] H=some (.ret (.bool (z0 c)),H)) (hf2:∀c∈l,∀H,Dg AU f [.agg (cCl c)] H=some (.ret (.bool (z0 c)),H))
  (h:RwT H p g l r) (hc:l.length≤cap) (hl:cap<1000000000) :
  ∃G r',Sh.f1b (.ms p g 0 l.length cap 5 false) f H=some (.ret (.ms p g 0 (l.filter kp).length cap 5 false),G)∧RwT G p g (l.filter kp) r'∧(∀i,i<H.length→i≠p→G[i]? = H[i]?)∧H.length≤G.length:=by
 have hix:=index_z (cap:=cap) hf h (by omega)
 have hln:A2 (.ms p g 0 l.length cap 5 false)=some (.int .i64 (l.length:Int)):=rfl
 unfold Sh.f1b
 cases hfi:l.findIdx? z0 with
 | none=>
  rw [hfi]at hix
  have e:l.filter kp=l:=by
   rw [List.filter_eq_self]
   intro c hc
   rw [YY]at hfi
   rw [kp_z,hfi c hc];rfl
  refine ⟨H,r,?_,by rw [e];exact h,fun _ _ _=>rfl,WF _⟩
  have hb:((-1:Int) == -1)=true:=rfl
  simp only [GMb,GMc,hix,hb,DE,forget,DM,fgt]
  rw [e]
 | some i0=>
  rw [hfi]at hix
  rw [Y7]at hfi
  obtain ⟨hi0,hz0,hless⟩:=hfi
  have hb:(((i0:Nat):Int) == -1)=false:=by rw [beq_eq_false_iff_ne];omega
  have hw0:=Aw (show i0<9223372036854775807 by omega)
  have ef:(l.take (i0+1)).filter kp=l.take i0:=by
   rw [WM hi0,Xw]
   have e1:(l.take i0).filter kp=l.take i0:=by
    rw [List.filter_eq_self]
    intro c hc
    rw [List.mem_take_iff_getElem]at hc
    obtain ⟨j,hj,rfl⟩:=hc
    rw [kp_z]
    have:=hless j (by omega)
    simpa using this
   have e2:[l[i0]].filter kp=[]:=by simp [X8,kp_z,hz0]
   rw [e1,e2,Xl]
  have key:=DH (G:=fun rec1 vs H1=>Sh.f47 H rec1 (ag vs 0) (ag vs 1) (ag vs 2) (ag vs 3) H1) (σ:=Nat×List Cl)
   (fun s vs K=>(i0+1≤s.1∧s.1≤l.length∧s.2.length=l.length∧((l.take s.1).filter kp).length<s.1∧s.2.take ((l.take s.1).filter kp).length=(l.take s.1).filter kp∧s.2.drop s.1=l.drop s.1) ∧
    (RwT K p g s.2 r∧(∀i,i<H.length→i≠p→K[i]? = H[i]?)∧H.length≤K.length)∧vs=[.ms p g 0 l.length cap 5 false,f,.int .i64 (((l.take s.1).filter kp).length:Int),.int .i64 (s.1:Int)]) (fun s=>l.length-s.1) (fun s=>¬s.1<l.length) (fun s vs K hI hd=>?_)
   (s:=(i0+1,l)) (vs:=[.ms p g 0 l.length cap 5 false,f,.int .i64 (i0:Int),.int .i64 ((i0+1:Nat):Int)]) (H:=H)
   (by
    have e2:(l.take i0).length=i0:=by rw [WT];omega
    dsimp only
    rw [ef,e2]
    exact ⟨⟨WF _,hi0,rfl,by omega,rfl,rfl⟩,⟨h,fun _ _ _=>rfl,WF _⟩,rfl⟩) (by dsimp only;omega)
  ·obtain ⟨⟨j,L⟩,vs,K,hd,⟨⟨i1,i2,i3,i4,i5,i6⟩,⟨k1,k2,k3⟩,rfl⟩,rec,hloop⟩:=key
   dsimp only at i1 i2 i3 i4 i5 i6 k1 hd hloop
   have ej:j=l.length:=by omega
   subst ej
   rw [WN (WF _)]at i4 i5 hloop
   obtain ⟨G,r',g1,g2,g3,g4⟩:=VH (k:=(l.filter kp).length) k1 (by omega)
   rw [i3]at g1
   rw [i5]at g2
   have d1:decide ((l.length:Int)<(l.length:Int))=false:=decide_eq_false (by omega)
   have s1:Bn 5 (.ms p g 0 l.length cap 5 false) (some (.int .i64 ((l.filter kp).length:Int))) none none=some (.ms p g ((l.filter kp).length*5) (l.length-(l.filter kp).length) (cap-(l.filter kp).length) 5 false):=by
    have:(l.filter kp).length≤l.length:=by omega
    simp [Bn,Bk,this,hc]
   have s2:Bn 5 (.ms p g 0 l.length cap 5 false) none (some (.int .i64 ((l.filter kp).length:Int))) none=some (.ms p g 0 (l.filter kp).length cap 5 false):=by
    have:(l.filter kp).length≤cap:=by omega
    simp [Bn,Bk,this]
   have g1':JV 5 (some zCl) (.ms p g ((l.filter kp).length*5) (l.length-(l.filter kp).length) (cap-(l.filter kp).length) 5 false) K=some G:=g1
   refine ⟨G,r',?_,g2,fun i hi hne=>by rw [g3 i hne];exact k2 i hi hne,by omega⟩
   simp only [GMb,GMc,hix,hb,hw0]
   rw [hloop]
   unfold Sh.f47
   simp only [Aj,Ai,AS,AY,Bo,GMb,GMc,hln,d1,s1,s2]
   rw [show [Ab.bool false,.sl [] .tight,.bool false,.sl [] .tight,.int .u8 0]=zCl from rfl,g1']
   simp only [GMb,GMc,AK,DE,forget,DM,fgt]
  ·obtain ⟨j,L⟩:=s
   obtain ⟨⟨i1,i2,i3,i4,i5,i6⟩,⟨k1,k2,k3⟩,rfl⟩:=hI
   dsimp only at i1 i2 i3 i4 i5 i6 k1 hd ⊢
   have hj:j<l.length:=by omega
   have hLj:j<L.length:=by omega
   have ej:L[j]=l[j]:=by
    have:=congrArg (fun x=>x[0]?) i6
    simp only [Xt,Nat.add_zero]at this
    rw [WB hLj,WB hj]at this
    exact Yi this
   have edr:L.drop (j+1)=l.drop (j+1):=by
    have:=congrArg (List.drop 1) i6
    rw [XD,XD]at this
    exact this
   have d1:decide ((j:Int)<(l.length:Int))=true:=decide_eq_true (by omega)
   have x1:At 5 (.ms p g 0 l.length cap 5 false) (.int .i64 (j:Int))=some (.ptr p g (j*5)):=by rw [Cy hj,WE]
   have hwj:=Aw (show j<9223372036854775807 by omega)
   have ld:=row_ldT k1 hLj
   rw [ej]at ld
   have al:A3 (some [.bool false,.sl [] .tight,.bool false,.sl [] .tight,.int .u8 0]) K=some (.ptr K.length 0 0,K++[.cel 0 zCl]):=alloc_eq rfl
   have stv:Ah 5 (.ptr K.length 0 0) (.agg (cCl l[j])) (K++[.cel 0 zCl])=some (K++[.cel 0 (cCl l[j])]):=by
    simp only [Ah,A5 Ar,Option.bind_some,NA,show (cCl l[j]).length=5 from rfl]
    rw [if_pos ⟨trivial,by simp [zCl]⟩,BT Ar,Bv]
    rfl
   have ldv:Ac true 5 (.ptr K.length 0 0) (K++[.cel 0 (cCl l[j])])=some (.agg (cCl l[j])):=by
    simp only [Ac,A5 Ar,Option.bind_some];rfl
   have c1:=hf2 l[j] (WP hj)
   have kr:=k1.push [.cel 0 (cCl l[j])]
   have hsn:(l.take (j+1)).filter kp=(l.take j).filter kp++[l[j]].filter kp:=by rw [WM hj,Xw]
   cases hz:z0 l[j]with
   | true=>
    have e0:[l[j]].filter kp=[]:=by simp [X8,kp_z,hz]
    rw [e0,Xl]at hsn
    rw [hz]at c1
    refine ⟨(j+1,L),_,K++[.cel 0 (cCl l[j])],by dsimp only;omega,⟨⟨by dsimp only;omega,hj,i3,by dsimp only;rw [hsn];omega,by dsimp only;rw [hsn];exact i5,edr⟩,⟨kr,fun i hi hne=>by rw [WD (by omega)];exact k2 i hi hne,by simp;omega⟩,rfl⟩,fun rec=>?_⟩
    unfold Sh.f47 Sh.f69
    simp only [Aj,Ai,AS,AY,Bo,GMb,GMc,hln,d1,x1,ld,al,stv,ldv,AK,c1,hwj,hsn]
   | false=>
    have e0:[l[j]].filter kp=[l[j]]:=by simp [X8,kp_z,hz]
    rw [e0]at hsn
    rw [hz]at c1
    have hi':((l.take j).filter kp).length<L.length:=by omega
    obtain ⟨G,g1,g2,g3,g4⟩:=row_stT kr hi' l[j]
    have hwi:=Aw (show ((l.take j).filter kp).length<9223372036854775807 by omega)
    have x2:At 5 (.ms p g 0 l.length cap 5 false) (.int .i64 (((l.take j).filter kp).length:Int))=some (.ptr p g (((l.take j).filter kp).length*5)):=by rw [Cy (by omega),WE]
    have hGl:G.length=K.length+1:=by rw [g4];simp
    refine ⟨(j+1,L.set ((l.take j).filter kp).length l[j]),_,G,by dsimp only;omega,⟨⟨by dsimp only;omega,hj,by dsimp only;rw [Xo];exact i3,by dsimp only;rw [hsn];simp;omega,by
      dsimp only
      rw [hsn,WJ,List.length_singleton,WM (by rw [Xo];omega),Zn,List.take_set_of_le (WF _),i5],by
      dsimp only
      rw [List.drop_set_of_lt (by omega)];exact edr⟩,⟨g2,fun i hi hne=>by rw [g3 i hne,WD (by omega)];exact k2 i hi hne,by omega⟩,rfl⟩,fun rec=>?_⟩
    unfold Sh.f47 Sh.f69
    simp only [Aj,Ai,AS,AY,Bo,GMb,GMc,hln,d1,x1,x2,ld,al,stv,ldv,AK,c1,g1,hwi,hwj,hsn,WJ,List.length_singleton]

end
theorem M6 {g:FuncId} {F:List Ab→Aa→Out} {o:Orc} {args:List Ab} {H:Aa}:Dg (ent g F o) (.fn g []) args H=F args H:=by
 unfold Dg ent
 simp only [if_true,Xl]
theorem SH {g g':FuncId} {F:List Ab→Aa→Out} {o:Orc} {args:List Ab} {H:Aa} (h:¬g'=g):Dg (ent g F o) (.fn g' []) args H=Dg o (.fn g' []) args H:=by
 unfold Dg ent
 simp only [h,if_false]
theorem Qa (F:Ab→Aa→Out) (a:Ab) (H:Aa):ap1 F [a] H=F a H:=rfl
theorem ap2_two (F:Ab→Ab→Aa→Out) (a b:Ab) (H:Aa):ap2 F [a,b] H=F a b H:=rfl
theorem cmp_ins {l:List Cl} (hok:∀c∈l,c.ok):UO A4 (.fn 144 []) l:=fun c hc d hd K=>by
 unfold A4
 rw [M6,ap2_two]
 exact p_order (hok c hc) (hok d hd) K
theorem cmp_sym {l:List Cl} (hok:∀c∈l,c.ok):Vw (.fn 144 []) l:=fun self c hc d hd K=>by
 unfold AV
 rw [SH (by decide),M6,ap2_two]
 exact p_order (hok c hc) (hok d hd) K
theorem p_last1 {c d:Cl} (hc:c.ok) (hd:d.ok) (H:Aa):Sh.f45 (.agg (cCl c)) (.agg (cCl d)) H=some (.ret (.bool (Bw ltC c d)),H):=by
 have e1:(H++[Blk.cel 0 (cCl c)]++[Blk.cel 0 (cCl d)])[H.length]? = some (.cel 0 (cCl c)):=by simp
 have e2:(H++[Blk.cel 0 (cCl c)]++[Blk.cel 0 (cCl d)])[(H++[Blk.cel 0 (cCl c)]).length]? = some (.cel 0 (cCl d)):=Ar
 have ld:∀ {K:Aa} {p:Nat} {x:Cl},K[p]? = some (.cel 0 (cCl x))→Ac true 5 (.ptr p 0 0) K=some (.agg (cCl x)):=fun h=>by
  simp only [Ac,A5 h,Option.bind_some];rfl
 have ho:=fun K=>p_order hc hd K
 have fin:∀q:Bool,rP H (.bool q) (H++[Blk.cel 0 (cCl c)]++[Blk.cel 0 (cCl d)])=some (.ret (.bool q),H):=fun q=>FF rfl (by simp)
 have hb:(Iu c d == 0)=Bw ltC c d:=by rw [←VS];rfl
 unfold Sh.f45
 simp only [GMb,GMc,boxCl,ld e1,ld e2,ho,hb,fin]
theorem S0 (c:Cl) (H:Aa):Sh.f2g (.agg (cCl c)) H=some (.ret (.bool (z0 c)),H):=by
 have ld:Ac false 1 (.ptr H.length 0 4) (H++[Blk.cel 0 (cCl c)])=some (.int .u8 (c.s.toNat:Int)):=by
  simp only [Ac,A5 Ar,Option.bind_some];rfl
 have fin:∀q:Bool,rP H (.bool q) (H++[Blk.cel 0 (cCl c)])=some (.ret (.bool q),H):=fun q=>FF rfl (by simp)
 have hb:((c.s.toNat:Int) == 0)=z0 c:=by
  unfold z0
  by_cases h:c.s=0
  ·rw [h];rfl
  ·rw [decide_eq_false h,beq_eq_false_iff_ne]
   intro e
   exact h (YK.1 (by simpa using e))
 unfold Sh.f2g
 simp only [GMb,GMc,boxCl,Ag,WE,ld,hb,fin]
theorem kp_last (l:List Cl):(C0 l).filter kp=CC l:=rfl
theorem eq_cp {l:List Cl} (hok:∀c∈l,c.ok):∀c∈l,∀d∈l,∀H,Dg AA (.fn 146 []) [.agg (cCl c),.agg (cCl d)] H=some (.ret (.bool (Bw ltC c d)),H):=fun c hc d hd K=>by
 unfold AA
 rw [M6,ap2_two]
 exact p_last1 (hok c hc) (hok d hd) K
theorem z_ix (c:Cl) (K:Aa):Dg A8 (.fn 148 []) [.agg (cCl c)] K=some (.ret (.bool (z0 c)),K):=by
 unfold A8
 first
  | rw [M6,Qa];exact S0 c K
  | rw [SH (by decide),M6,Qa];exact S0 c K
theorem z_del (c:Cl) (K:Aa):Dg AU (.fn 148 []) [.agg (cCl c)] K=some (.ret (.bool (z0 c)),K):=by
 unfold AU
 first
  | rw [M6,Qa];exact S0 c K
  | rw [SH (by decide),M6,Qa];exact S0 c K
theorem last_nil (H:Aa) (f1 f2 f3:Ab):Sh.f15 (.sl [] .tight) H=some (.ret (.tup []),H)∧Sh.f19 (.sl [] .tight) f1 H=some (.ret (.tup []),H) ∧
  Sh.f1a (.sl [] .tight) f2 H=some (.ret (.sl [] .no),H)∧Sh.f1b (.sl [] .no) f3 H=some (.ret (.sl [] .no),H):=by
 have hl:∀tk,A2 (.sl [] tk)=some (.int .i64 0):=fun _=>rfl
 have w1:IntKind.i64.wrap (0-1) = -1:=rfl
 have w2:IntKind.i64.wrap (0+1)=1:=rfl
 have d1:decide ((0:Int) < -1)=false:=rfl
 have d2:decide ((20:Int)≤0)=false:=rfl
 have d3:decide ((1:Int)<0)=false:=rfl
 have d4:decide ((20:Int)<0)=false:=rfl
 have d5:decide ((0:Int)<2)=true:=rfl
 have d6:decide ((0:Int)<0)=false:=rfl
 have hins:Sh.fp (.sl [] .tight) (.int .i64 0) (.int .i64 0) f1 H=some (.ret (.tup []),H):=by
  unfold Sh.fp
  simp only [GMb,GMc,w2]
  rw [Dy Ez]
  unfold Sh.f4u
  simp only [Aj,Ai,AS,AY,Bo,B6,GMb,GMc,d3]
 have hst:Sh.f18 (.sl [] .tight) (.int .i64 0) f1 H=some (.ret (.tup []),H):=by
  unfold Sh.f18
  rw [Dy Ez]
  unfold Sh.f44
  simp only [Aj,Ai,AS,AY,Bo,B6,Di,GMb,GMc,d2,hins]
  rw [Dy Ez]
  unfold Sh.f1o
  simp only [Aj,Ai,AS,AY,Bo,GMb,GMc,d4]
 have hix:Sh.fg (.sl [] .no) f3 H=some (.ret (.int .i64 (-1)),H):=by
  unfold Sh.fg
  simp only [hl,GMb,GMc]
  rw [Dy Ez]
  unfold Sh.ft
  simp only [Aj,Ai,AS,AY,Bo,GMb,GMc,d6]
 refine ⟨?_,?_,?_,?_⟩
 ·unfold Sh.f15
  simp only [hl,GMb,GMc,w1]
  rw [Dy Ez]
  unfold Sh.f43
  simp only [Aj,Ai,AS,AY,GMb,GMc,d1]
 ·unfold Sh.f19
  simp only [hl,GMb,GMc,hst]
 ·unfold Sh.f1a
  simp only [hl,GMb,GMc,d5,DE,forget,DM,fgt]
 ·unfold Sh.f1b
  have hb:((-1:Int) == -1)=true:=rfl
  simp only [GMb,GMc,hix,hb,DE,forget,DM,fgt]
theorem p_last (l:List Cl) (tk:Tok) (H:Aa) (hl:l.length<1000000000) (hok:∀c∈l,c.ok):Sh.f2r (.sl (enL cCl l) tk) H=some (.ret (.sl (enL cCl (CC l)) .no),H):=by
 have hcl:=p_clone l tk H hl
 unfold Sh.f2r
 by_cases h0:l=[]
 ·subst h0
  rw [if_pos rfl]at hcl
  obtain ⟨n1,n2,n3,n4⟩:=last_nil H (.fn 144 []) (.fn 146 []) (.fn 148 [])
  have hl0:CC ([]:List Cl)=[]:=rfl
  simp only [GMb,GMc,hcl,n1,n2,n3,n4,Pj,Fu,Option.map_some,hl0]
  rfl
 ·rw [if_neg h0]at hcl
  have hp:0<l.length:=Xx.2 h0
  have r0:C6 (H++[.buf 0 (flat cCl l) A6 5]) H.length 0 l:=by unfold C6;simp
  have hrev:=p_reverse r0 hp hl
  have r1:C6 (B5 (H++[.buf 0 (flat cCl l) A6 5]) H.length 0 l.reverse) H.length 0 l.reverse:=C9 r0
  have hlr:l.reverse.length=l.length:=List.length_reverse
  obtain ⟨S,s1,s2,s3,s4⟩:=p_sort (f:=.fn 144 []) (l0:=l) (cmp_ins hok) (cmp_sym hok) r1 (fun c hc=>List.mem_reverse.1 hc) (by omega)
  rw [hlr,Bq]at s4
  rw [hlr]at s3
  have hmS:∀c∈S,c∈l:=fun c hc=>List.mem_reverse.1 ((s2.mem IB).2 hc)
  have r2:C6 (B5 (H++[.buf 0 (flat cCl l) A6 5]) H.length 0 S) H.length 0 S:=C9 r0
  obtain ⟨G,r,g1,g2,g3,g4⟩:=p_compact (f:=.fn 146 []) (eq_cp fun c hc=>hok c (hmS c hc)) r2 (by omega)
  have hcp:=cp_last s1 s2
  rw [hcp,s3]at g1
  rw [hcp]at g2
  have hAl:(C0 l).length≤l.length:=by rw [←hcp,←s3];exact cpL_len _ _
  obtain ⟨G2,r',k1,k2,k3,k4⟩:=p_delete (f:=.fn 148 []) (cap:=l.length) (fun c hc K=>z_ix c K) (fun c hc K=>z_del c K) g2 hAl hl
  rw [kp_last]at k1 k2
  have hHl:(H++[Blk.buf 0 (flat cCl l) A6 5]).length=H.length+1:=by simp
  have hGl:G.length=H.length+1:=by rw [g4];unfold B5;rw [Xo,hHl]
  have hold:∀i,i<H.length→G2[i]? = H[i]? := fun i hi=>by
   rw [k3 i (by omega) (by omega),g3 i (by omega)]
   unfold B5
   rw [WI (by omega),WD hi]
  have hfa:=fall_msX (d:=5) (cap:=l.length) (ex:=false) (Tn k2) (WF H.length)
  simp only [GMb,GMc,hcl,hrev,s4,g1,k1,Hx (CB hold)]
  rw [hfa]
  rfl
theorem p_of1 (r:RC) (hf:r.fits) (H:Aa):Sh.f42 (.agg (cRC r)) H=some (.ret (.bool (!r.right)),H):=by
 obtain ⟨f1,f2,f3,f4⟩:=hf
 have hb:B2 true 5 (.agg (cRC r)) H=some (.ptr H.length 0 0,H++[.cel 0 (cRC r)]):=BQ rfl rfl
 have e1:(H++[Blk.cel 0 (cRC r)])[H.length]? = some (.cel 0 (cRC r)):=Ar
 have l1:Ac true 2 (.ptr H.length 0 0) (H++[Blk.cel 0 (cRC r)])=some (.agg [.bool r.n1,.sl (enL cU r.l1) .no]):=by
  simp only [Ac,A5 e1,Option.bind_some];rfl
 have l2:Ac true 2 (.ptr H.length 0 2) (H++[Blk.cel 0 (cRC r)])=some (.agg [.bool r.n2,.sl (enL cU r.l2) .no]):=by
  simp only [Ac,A5 e1,Option.bind_some];rfl
 have r1:=fun K=>T7 r.n1 r.l1 .no K f3
 have r2:=fun K=>T7 r.n2 r.l2 .no K f4
 have fin:∀q:Bool,rP H (.bool q) (H++[Blk.cel 0 (cRC r)])=some (.ret (.bool q),H):=fun q=>FF rfl (by simp)
 unfold Sh.f42 RC.right
 simp only [GMb,GMc,hb,Ag,WE,l1,r1]
 cases Fd r.n1 r.l1 with
 | false=>simp only [GMb,GMc,XL,fin,XE]
 | true=>simp only [GMb,GMc,X2,Ag,WE,l2,r2,fin,X7]
theorem U0 (l:List RC) (tk:Tok) (H:Aa) (hl:l.length<1000000000) (hf:∀r∈l,r.fits) :
  Sh.f2h (.sl (enL cRC l) tk) (.fn 84 []) H=some (.ret (.bool (!l.all RC.right)),H):=by
 have hcall:∀(r:RC),r∈l→∀K,Dg A8 (.fn 84 []) [.agg (cRC r)] K=some (.ret (.bool (!r.right)),K):=fun r hr K=>by
  unfold A8
  rw [SH (by decide),M6,Qa]
  exact p_of1 r (hf r hr) K
 have key:∃k:Int,Sh.fg (.sl (enL cRC l) tk) (.fn 84 []) H=some (.ret (.int .i64 k),H)∧decide (k≥0) = !l.all RC.right:=by
  unfold Sh.fg
  simp only [Av,GMb,GMc]
  cases hall:l.all RC.right with
  | true=>
   refine ⟨-1,?_,rfl⟩
   refine Cf (G:=fun rec1 vs H1=>Sh.ft H rec1 (ag vs 0) (ag vs 1) (ag vs 2) (ag vs 3) H1) l.length
    (fun i=>[.sl (enL cRC l) tk,.fn 84 [],.int .i64 (l.length:Int),.int .i64 (i:Int)]) (fun _=>H) _ (by omega) (fun rec i hi=>?_) (fun rec=>?_)
   ·have d1:decide ((i:Int)<(l.length:Int))=true:=decide_eq_true (by omega)
    have hr:l[i].right=true:=Xb.1 hall _ (WP hi)
    have c1:=hcall l[i] (WP hi) H
    have hld:Ac true 5 (.cptr (cRC l[i]) 0) H=some (.agg (cRC l[i])):=rfl
    have hwi:=Aw (show i<9223372036854775807 by omega)
    rw [hr]at c1
    unfold Sh.ft
    simp only [Aj,Ai,AS,AY,Bo,GMb,GMc,d1,Ax hi,hld,c1,hwi,X2]
   ·have d1:decide ((l.length:Int)<(l.length:Int))=false:=decide_eq_false (by omega)
    unfold Sh.ft
    simp only [Aj,Ai,AS,AY,Bo,GMb,GMc,d1]
  | false=>
   obtain ⟨k,hk⟩:∃k,l.findIdx? (fun r=>!r.right)=some k:=by
    cases hq:l.findIdx? (fun r=>!r.right)with
    | some k=>exact ⟨k,rfl⟩
    | none=>
     rw [YY]at hq
     rw [YD]at hall
     obtain ⟨r,hr,h⟩:=hall
     have:=hq r hr
     cases hrr:r.right with
     | true=>exact absurd hrr h
     | false=>rw [hrr]at this;simp at this
   rw [Y7]at hk
   obtain ⟨k1,k2,k3⟩:=hk
   refine ⟨k,?_,by simp⟩
   have loop:=Bl (G:=fun rec1 vs H1=>Sh.ft H rec1 (ag vs 0) (ag vs 1) (ag vs 2) (ag vs 3) H1) (σ:=Nat) (fun i=>i≤k)
    (fun i=>[.sl (enL cRC l) tk,.fn 84 [],.int .i64 (l.length:Int),.int .i64 (i:Int)]) (fun _=>H) (fun i=>k-i) (fun _=>some (.ret (.int .i64 (k:Int)),H)) (fun i rec hi hrec=>?_) 0 (Xd _) (by omega)
   ·exact loop
   ·have hil:i<l.length:=by omega
    have d1:decide ((i:Int)<(l.length:Int))=true:=decide_eq_true (by omega)
    have c1:=hcall l[i] (WP hil) H
    have hld:Ac true 5 (.cptr (cRC l[i]) 0) H=some (.agg (cRC l[i])):=rfl
    have hwi:=Aw (show i<9223372036854775807 by omega)
    unfold Sh.ft
    rcases Xs i k with h | h
    ·have:=k3 i h
     have hr:l[i].right=true:=by simpa using this
     rw [hr]at c1
     simp only [Aj,Ai,AS,AY,Bo,GMb,GMc,d1,Ax hil,hld,c1,hwi,X2]
     exact hrec (i+1) (by omega) (by omega)
    ·obtain rfl:i=k:=by omega
     have hr:(!l[i].right)=true:=k2
     rw [hr]at c1
     simp only [Aj,Ai,AS,AY,Bo,GMb,GMc,d1,Ax hil,hld,c1]
 obtain ⟨k,e1,e2⟩:=key
 unfold Sh.f2h
 simp only [GMb,GMc,e1,e2]
theorem fold_max (a b c:Nat):GM IL (.int .i64 (a:Int)) [.int .i64 (b:Int),.int .i64 (c:Int)]=some (.int .i64 ((max a (max b c):Nat):Int)):=by
 have m:∀x y:Nat,IL (.int .i64 (x:Int)) (.int .i64 (y:Int))=some (.int .i64 ((max x y:Nat):Int)):=fun x y=>by
  unfold IL
  by_cases h:(y:Int)>(x:Int)
  ·simp only [if_pos h];congr 2;omega
  ·simp only [if_neg h];congr 2;omega
 simp only [GM,m,Option.bind_some]
 congr 2;omega
def bxC (l:List Cl):Aa:=l.map fun c=>Blk.cel 0 (cCl c)
theorem bxC_snoc (l:List Cl) (c:Cl):bxC (l++[c])=bxC l++[.cel 0 (cCl c)]:=by simp [bxC]
theorem box5 (H:Aa) (c:Cl):Ah 5 (.ptr H.length 0 0) (.agg (cCl c)) (H++[.cel 0 [.bool false,.sl [] .tight,.bool false,.sl [] .tight,.int .u8 0]])=some (H++[.cel 0 (cCl c)]):=by
 rw [Qj (sz:=5) (ws:=cCl c) Ar rfl rfl rfl,Bv]
theorem ldX (H:Aa) (c:Cl):Ac true 2 (.ptr H.length 0 0) (H++[.cel 0 (cCl c)])=some (big c.x)∧Ac true 2 (.ptr H.length 0 2) (H++[.cel 0 (cCl c)])=some (big c.y)∧Ac false 1 (.ptr H.length 0 4) (H++[.cel 0 (cCl c)])=some (.int .u8 (c.s.toNat:Int)):=by
 refine ⟨?_,?_,?_⟩ <;> (simp only [Ac,A5 Ar,Option.bind_some];rfl)
theorem need_turn {l:List Cl} {tk:Tok} {H K:Aa} {x2 x14:Ab} {i:Nat} (hi:i<l.length) (hok:∀c∈l,c.ok) (hl:l.length<1000000000) (rec:LK) :
  Sh.f3c H rec x2 x14 (.int .i64 (DG l i:Int)) (.sl (enL cCl l) tk) (.int .i64 (l.length:Int)) (.int .i64 (i:Int)) (K++bxC (l.take i))=rec [x2,x14,.int .i64 (DG l (i+1):Int),.sl (enL cCl l) tk,.int .i64 (l.length:Int),.int .i64 ((i+1:Nat):Int)] (K++bxC (l.take (i+1))):=by
 have d1:decide ((i:Int)<(l.length:Int))=true:=decide_eq_true (by omega)
 have hwi:=Aw (show i<9223372036854775807 by omega)
 have hc:=hok _ (WP hi)
 have hld:∀G,Ac true 5 (.cptr (cCl l[i]) 0) G=some (.agg (cCl l[i])):=fun _=>rfl
 have hal:∀G:Aa,A3 (some [(.bool false),(.sl [] .tight),(.bool false),(.sl [] .tight),(.int .u8 0)]) G=some (.ptr G.length 0 0,G++[.cel 0 [.bool false,.sl [] .tight,.bool false,.sl [] .tight,.int .u8 0]]):=fun G=>alloc_eq rfl
 have n1:=fun G=>p_need (z:=l[i].x) G (hc.1.lb (by decide)) hc.1
 have n2:=fun G=>p_need (z:=l[i].y) G (hc.2.lb (by decide)) hc.2
 have hn:DG l (i+1)=max (DG l i) (max (Pv l[i].x) (Pv l[i].y)):=by
  simp only [DG,WB hi,Ry]
 have hbx:K++bxC (l.take (i+1))=(K++bxC (l.take i))++[.cel 0 (cCl l[i])]:=by
  rw [WM hi,bxC_snoc,WG]
 obtain ⟨l1,l2,l3⟩:=ldX (K++bxC (l.take i)) l[i]
 have hfm:=fold_max (DG l i) (Pv l[i].x) (Pv l[i].y)
 unfold Pv at hfm hn
 rw [hbx,hn]
 generalize K++bxC (l.take i)=G at *
 have b5:=box5 G l[i]
 unfold Sh.f3c
 simp only [GMb,GMc,d1,Ax hi,hld,hal,b5,AK,Ag,WE,l1,l2,n1,n2,hfm,hwi,B9,and_self,FY]
def txR (neg:Bool) (l:List Nat):List UInt8:=(if neg then [45]else [])++BV (val l)
theorem q03_textR (neg:Bool) (l:List Nat) (H:Aa) (hl:l.length≤1000) (hx:Lim l) (hd:(BV (val l)).length≤600) :
  Sh.f9 (.agg [.bool neg,.sl (enL cU l) .no]) H=some (.ret (.str (txR neg l)),H):=by
 unfold Sh.f9
 have hb:B2 true 2 (.agg [.bool neg,.sl (enL cU l) .no]) H=some (.ptr H.length 0 0,H++[.cel 0 [.bool neg,.sl (enL cU l) .no]]):=BQ rfl rfl
 have g0:Ac false 1 (.ptr H.length 0 0) (H++[Blk.cel 0 [.bool neg,.sl (enL cU l) .no]])=some (.bool neg):=by simp only [Ac,A5 Ar,Option.bind_some];rfl
 have g1:Ac false 1 (.ptr H.length 0 1) (H++[Blk.cel 0 [.bool neg,.sl (enL cU l) .no]])=some (.sl (enL cU l) .no):=by simp only [Ac,A5 Ar,Option.bind_some];rfl
 simp only [GMb,GMc,hb,Ag,WE,g1]
 generalize hB:H++[Blk.cel 0 [.bool neg,.sl (enL cU l) .no]]=B at g0
 have hend:∀s:List UInt8,rP H (.str s) B=some (.ret (.str s),H):=fun s=>by rw [←hB];exact rP_str
 have key:=Bl (G:=fun rec1 vs H1=>Sh.f4m H rec1 (ag vs 0) (ag vs 1) (ag vs 2) H1) (σ:=List Nat×List UInt8) (fun s=>s.1.length≤1000∧Lim s.1∧s.2.length+(BV (val s.1)).length≤600)
  (fun s=>[.ptr H.length 0 0,.str s.2,.sl (enL cU s.1) .no]) (fun _=>B) (fun s=>(BV (val s.1)).length)
  (fun s=>some (.ret (.str ((if neg then [45]else [])++BV (val s.1)++s.2)),H)) (fun s rec hs hrec=>?_) (l,[]) ⟨hl,hx,by simpa using hd⟩ (by dsimp only;omega)
 ·refine key.trans ?_
  unfold txR
  simp
 ·obtain ⟨l',s⟩:=s
  obtain ⟨h1,h2,h3⟩:=hs
  simp only at h1 h2 h3 hrec ⊢
  have hdiv:=fun H=>q01_div l' .no 10 H (by omega) h2 (by omega) (by omega)
  simp only [show ((10:Nat):Int)=10 from rfl]at hdiv
  have hv:=SP l' h2
  have hlim:=Bh (val l' / 10)
  have hll:(A0 (val l' / 10)).length≤l'.length:=Ec (X6 (Nat.div_le_self _ _) hv)
  have hvl:=Bp (val l' / 10)
  have hds:0<(BV (val l')).length:=PL _
  have hnx:=fun h=>hrec (A0 (val l' / 10),UInt8.ofNat (48+val l'%10)::s) ⟨by dsimp only;omega,hlim,h⟩
  simp only [hvl]at hnx
  generalize val l'=n at hdiv h3 hv hnx hds
  have hd10:n%10<10:=XG _ (by omega)
  have hdig:=digit_u8 hd10
  unfold Sh.f4m
  simp only [GMb,GMc,Ai,hdiv,Cn,Cz,hdig,build_Y,V5]
  rw [CQ (by simp;omega)]
  simp only [GMb,GMc,Av]
  by_cases hn:n<10
  ·have h0:n / 10=0:=by omega
   have hm:n%10=n:=by omega
   have hdn:BV n=[UInt8.ofNat (48+n)]:=by unfold BV;rw [dif_pos hn]
   rw [hdn,h0,CW,hm]
   simp only [GMb,GMc,List.length_nil,show ((0:Nat):Int)=0 from rfl,Ag,Nat.add_zero,g0]
   cases neg with
   | true=>
    simp only [GMb,GMc,if_true]
    rw [CQ (by simp;omega)]
    simp only [GMb,GMc,hend]
    simp
   | false=>
    simp only [GMb,GMc,hend]
    simp
  ·have h0:n / 10≠0:=by omega
   have hne:¬((A0 (n / 10)).length:Int)=0:=by
    have:=Xx.2 (Nv h0);omega
   have hdn:BV n=BV (n / 10)++[UInt8.ofNat (48+n%10)]:=by
    conv=>lhs;unfold BV
    rw [dif_neg hn]
   have hlen:(BV n).length=(BV (n / 10)).length+1:=by rw [hdn];simp
   have:=hnx (by simp;omega) (by omega)
   simp only [hne,GMb,GMc]
   rw [show ([UInt8.ofNat (48+n%10)]:List UInt8)++s=UInt8.ofNat (48+n%10)::s from rfl,this,hdn]
   simp
def Pi (r:RC):List UInt8:=txR r.n1 r.l1++32::txR r.n2 r.l2
def RC.smal (r:RC):Prop:=Lim r.l1∧Lim r.l2∧r.l1.length≤50∧r.l2.length≤50
theorem Nx {l:List Nat} {k d:Nat} (hx:Lim l) (hl:l.length≤k) (hk:4294967296^k<10^d) (hd:d≠0):(BV (val l)).length≤d:=by
 have h1:=SP l hx
 have h2:=Pr hl
 have:=QX d (val l) (X5 h1 (Xh h2 (Y8 hk)))
 rw [if_neg hd]at this;exact this
theorem p50:(4294967296:Nat)^50<10^600:=by decide +kernel
theorem p40:(4294967296:Nat)^40<10^400:=by decide +kernel
theorem Nf {r:RC} (h:r.smal):(BV (val r.l1)).length≤600∧(BV (val r.l2)).length≤600:=⟨Nx h.1 h.2.2.1 p50 (by decide),Nx h.2.1 h.2.2.2 p50 (by decide)⟩
theorem MZ {n:Bool} {l:List Nat} (h:(BV (val l)).length≤600):(txR n l).length≤601:=by
 unfold txR
 cases n <;> simp <;> omega
theorem Ph {r:RC} (h:r.smal):(Pi r).length≤1203:=by
 have h1:=MZ (n:=r.n1) (Nf h).1
 have h2:=MZ (n:=r.n2) (Nf h).2
 unfold Pi
 simp;omega
theorem V3 {n:Bool} {l:List Nat} (h:Fd n l=true) (hx:Lim l):txR n l=Do (FM n l):=by
 unfold txR Do FM
 cases n with
 | false=>simp
 | true=>
  have hne:val l≠0:=by
   have h2:=bigC_ok h hx
   intro h0
   have h3:FM true l=0:=by simp [FM,h0]
   rw [h3]at h2
   exact absurd (congrArg (·[0]?) h2) (by simp [AD])
  simp only [if_true]
  rw [if_pos (by omega)]
  simp
theorem Ts {r:RC} (h:r.right=true) (hs:r.smal):Pi r=plT r.cl:=by
 simp only [RC.right,WO]at h
 unfold Pi plT
 rw [V3 h.1 hs.1,V3 h.2 hs.2.1];rfl
def okK (r:RC):Bool:=r.right&&decide (r.l1.length≤40)&&decide (r.l2.length≤40)
theorem okK_shrt {r:RC} (h:okK r=true) (hs:r.smal):r.right=true∧r.cl.shrt:=by
 unfold okK at h
 simp only [WO,decide_eq_true_eq]at h
 refine ⟨h.1.1,?_,?_⟩
 ·show (BV (FM r.n1 r.l1).natAbs).length≤400
  rw [PZ];exact Nx hs.1 h.1.2 p40 (by decide)
 ·show (BV (FM r.n2 r.l2).natAbs).length≤400
  rw [PZ];exact Nx hs.2.1 h.2 p40 (by decide)
theorem text_c {n:Bool} {l:List Nat} (H:Aa) (hl:l.length≤50) (hx:Lim l) (hd:(BV (val l)).length≤600):Sh.f9 (.agg [.bool n,.sl (enL cU l) .no]) H=some (.ret (.str (txR n l)),H):=q03_textR n l H (by omega) hx hd
theorem turn_round {l:List RC} {H G:Aa} {t i m:Nat} {a b:List UInt8} (hi:i<l.length) (hn:l.length≤20) (ht:t<256) (hs:∀r∈l,r.smal) (hm:m=(i+t)%l.length) (hml:m<l.length)
  (ha:a.length≤100000) (hb:b.length≤100000) (rec:LK) :
  Sh.f22 H rec (.sl (enL cRC l) .no) (.int .u8 (t:Int)) (.str a) (.str b) (.int .i64 (i:Int)) (H++G) =
   if okK l[m]then rec [.sl (enL cRC l) .no,.int .u8 (t:Int),.str (a++Pi l[i]++[10]),.str (Pi l[m]++[13,10]++b),.int .i64 ((i+1:Nat):Int)] (H++(G++[.cel 0 (cRC l[m])]))else some (.ret (.bool true),H):=by
 have d1:decide ((i:Int)<(l.length:Int))=true:=decide_eq_true (by omega)
 have hwi:=Aw (show i<9223372036854775807 by omega)
 have hcv:A9 .i64 (.int .u8 (t:Int))=some (.int .i64 (t:Int)):=by rw [By,Al (by omega) (by omega)]
 have hw2:IntKind.i64.wrap ((i:Int)+(t:Int))=((i+t:Nat):Int):=by rw [Al (by omega) (by omega)];simp
 haveI:NeZero l.length:=⟨by omega⟩
 have hrem:∀ek,Ae ek .rem (.int .i64 ((i+t:Nat):Int)) (.int .i64 (l.length:Int))=some (.int .i64 (m:Int)):=fun ek=>by rw [bin_remN,hm]
 have hr:=hs _ (WP hml)
 have hc:=hs _ (WP hi)
 obtain ⟨k1,k2⟩:=Nf hr
 obtain ⟨c1,c2⟩:=Nf hc
 have hla:=Ph hc
 have hlb:=Ph hr
 have t1:=fun K=>text_c (n:=l[m].n1) K hr.2.2.1 hr.1 k1
 have t2:=fun K=>text_c (n:=l[m].n2) K hr.2.2.2 hr.2.1 k2
 have t3:=fun K=>text_c (n:=l[i].n1) K hc.2.2.1 hc.1 c1
 have t4:=fun K=>text_c (n:=l[i].n2) K hc.2.2.2 hc.2.1 c2
 have r1:=fun K=>VM l[m].n1 l[m].l1 .no K (by have:=hr.2.2.1;omega)
 have r2:=fun K=>VM l[m].n2 l[m].l2 .no K (by have:=hr.2.2.2;omega)
 have hld:∀G,Ac true 5 (.cptr (cRC l[m]) 0) G=some (.agg (cRC l[m])):=fun _=>rfl
 have hx1:∀G,Ac true 2 (.cptr (cRC l[i]) 0) G=some (.agg [.bool l[i].n1,.sl (enL cU l[i].l1) .no]):=fun _=>rfl
 have hx2:∀G,Ac true 2 (.cptr (cRC l[i]) 2) G=some (.agg [.bool l[i].n2,.sl (enL cU l[i].l2) .no]):=fun _=>rfl
 have hok:okK l[m]=(Fd l[m].n1 l[m].l1&&Fd l[m].n2 l[m].l2&&decide (l[m].l1.length≤40)&&decide (l[m].l2.length≤40)):=rfl
 have ea:a++Pi l[i]++[10]=a++txR l[i].n1 l[i].l1++[32]++txR l[i].n2 l[i].l2++[10]:=by simp [Pi]
 have eb:Pi l[m]++[13,10]++b=txR l[m].n1 l[m].l1++[32]++txR l[m].n2 l[m].l2++[13,10]++b:=by simp [Pi]
 have q1:=MZ (n:=l[i].n1) c1
 have q2:=MZ (n:=l[i].n2) c2
 have q3:=MZ (n:=l[m].n1) k1
 have q4:=MZ (n:=l[m].n2) k2
 rw [hok,ea,eb,show H++(G++[Blk.cel 0 (cRC l[m])])=(H++G)++[.cel 0 (cRC l[m])] from (WG _ _ _).symm]
 have hend:rP H (.bool true) ((H++G)++[.cel 0 (cRC l[m])])=some (.ret (.bool true),H):=by rw [WG];exact EI
 have hal:∀G:Aa,A3 (some [(.bool false),(.sl [] .tight),(.bool false),(.sl [] .tight),(.int .u8 0)]) G=some (.ptr G.length 0 0,G++[.cel 0 [.bool false,.sl [] .tight,.bool false,.sl [] .tight,.int .u8 0]]):=fun G=>alloc_eq rfl
 have b5:Ah 5 (.ptr (H++G).length 0 0) (.agg (cRC l[m])) ((H++G)++[.cel 0 [.bool false,.sl [] .tight,.bool false,.sl [] .tight,.int .u8 0]])=some ((H++G)++[.cel 0 (cRC l[m])]):=by
  rw [Jv,Nb (cs:=[.bool false,.sl [] .tight,.bool false,.sl [] .tight,.int .u8 0]) (sz:=5) (vs:=cRC l[m]) (Cj rfl) rfl rfl];rfl
 have l1:Ac true 2 (.ptr (H++G).length 0 0) ((H++G)++[.cel 0 (cRC l[m])])=some (.agg [.bool l[m].n1,.sl (enL cU l[m].l1) .no]):=by simp only [Ac,A5 Ar,Option.bind_some];rfl
 have l2:Ac true 2 (.ptr (H++G).length 0 2) ((H++G)++[.cel 0 (cRC l[m])])=some (.agg [.bool l[m].n2,.sl (enL cU l[m].l2) .no]):=by simp only [Ac,A5 Ar,Option.bind_some];rfl
 have l3:Ac false 1 (.ptr (H++G).length 0 1) ((H++G)++[.cel 0 (cRC l[m])])=some (.sl (enL cU l[m].l1) .no):=by simp only [Ac,A5 Ar,Option.bind_some];rfl
 have l4:Ac false 1 (.ptr (H++G).length 0 3) ((H++G)++[.cel 0 (cRC l[m])])=some (.sl (enL cU l[m].l2) .no):=by simp only [Ac,A5 Ar,Option.bind_some];rfl
 generalize H++G=K at *
 unfold Sh.f22
 simp only [Sl.gliderref02_Right_eq,Sl.gliderref03_Text_eq,GMb,GMc,Av,d1,hcv,hw2,hrem,Ax hml,hld,hal,b5,AK,Ag,l1,r1]
 cases e1:Fd l[m].n1 l[m].l1 with
 | false=>simp only [GMb,GMc,hend,XE]
 | true=>
  simp only [GMb,GMc,Ag,l2,r2,X7]
  cases e2:Fd l[m].n2 l[m].l2 with
  | false=>simp only [GMb,GMc,hend,XE]
  | true=>
   simp only [GMb,GMc,Ag,l3,Av,X7]
   by_cases e3:l[m].l1.length≤40
   ·have d3:decide ((l[m].l1.length:Int)>40)=false:=decide_eq_false (by omega)
    have d3':decide (l[m].l1.length≤40)=true:=decide_eq_true e3
    simp only [d3,d3',GMb,GMc,Ag,l4,Av,X7]
    by_cases e4:l[m].l2.length≤40
    ·have d4:decide ((l[m].l2.length:Int)>40)=false:=decide_eq_false (by omega)
     have d4':decide (l[m].l2.length≤40)=true:=decide_eq_true e4
     simp only [d4,d4',GMb,GMc,Ax hi,Ap,WE,hx1,hx2,B9,and_self,FY,t3,t4,Ag,l1,l2,t1,t2]
     repeat (rw [CQ (by (try simp);omega)];simp only [BC])
     simp only [GMb,GMc,hwi]
    ·have d4:decide ((l[m].l2.length:Int)>40)=true:=decide_eq_true (by omega)
     have d4':decide (l[m].l2.length≤40)=false:=decide_eq_false e4
     simp only [d4,d4',GMb,GMc,hend]
   ·have d3:decide ((l[m].l1.length:Int)>40)=true:=decide_eq_true (by omega)
    have d3':decide (l[m].l1.length≤40)=false:=decide_eq_false e3
    simp only [d3,d3',GMb,GMc,hend,XE]
theorem q05_nodes (A B:List Nd) (t t':Tok) (H:Aa) (hA:A.length<1000000000000):Sh.f3y (.sl (enL cNd A) t) (.sl (enL cNd B) t') H=some (.ret (.bool (decide (A=B))),H):=by
 unfold Sh.f3y
 simp only [GMb,GMc,Av]
 by_cases hl:A.length=B.length
 ·have hd:decide ((A.length:Int)=(B.length:Int))=true:=decide_eq_true (by omega)
  simp only [GMb,GMc,hd]
  have key:=Bl (G:=fun rec1 vs H1=>Sh.f6p H rec1 (ag vs 0) (ag vs 1) (ag vs 2) H1) (σ:=Nat) (fun i=>i≤A.length)
   (fun i=>[.sl (enL cNd A) t,.sl (enL cNd B) t',.int .i64 (i:Int)]) (fun _=>H) (fun i=>A.length-i) (fun i=>some (.ret (.bool (decide (A.drop i=B.drop i))),H)) (fun i rec hi hrec=>?_) 0 (Xd _) (by omega)
  ·simpa using key
  ·unfold Sh.f6p
   by_cases h:i<A.length
   ·have h':i<B.length:=by omega
    have hlt:(i:Int)<(A.length:Int):=by omega
    have hw:=Aw (show i<9223372036854775807 by omega)
    have:=hrec (i+1) h (by omega)
    rw [Xf h,Xf h']
    simp only [GMb,GMc,Ai,Av,hlt,Ax h,Ax h',Nu,neq_nd,hw]
    by_cases he:A[i]=B[i]
    ·simp only [he,GMb,GMc,List.cons.injEq,true_and]
     exact this
    ·simp only [he,GMb,GMc,List.cons.injEq,false_and]
   ·have hlt:¬(i:Int)<(A.length:Int):=by omega
    rw [XR (by omega),XR (by omega)]
    simp only [GMb,GMc,Ai,Av,hlt]
 ·have hd:decide ((A.length:Int)=(B.length:Int))=false:=decide_eq_false (by omega)
  have hne:decide (A=B)=false:=decide_eq_false fun h=>hl (by rw [h])
  simp only [GMb,GMc,hd,hne]
theorem q05_same (A B:List Nd) (H:Aa) (hA:A.length<1000000000000):Sh.f3z (.agg [.sl (enL cNd A) .no]) (.agg [.sl (enL cNd B) .no]) H=some (.ret (.bool (decide (A=B))),H):=by
 unfold Sh.f3z
 simp only [GMb,GMc,HPa,HPc,HPd,HPe,HPz,Nat.reduceAdd,Nat.reduceLT,q05_nodes A B .no .no _ hA]
theorem q11_same (r r':List UInt8) (A B:List Nd) (H:Aa) (hA:A.length<1000000000000):Sh.f13 (pat r A) (pat r' B) H=some (.ret (.bool (decide (r=r')&&decide (A=B))),H):=by
 unfold Sh.f13 pat GK
 have hq:Cq A=[.sl (enL cNd A) .no]:=rfl
 have hq2:Cq B=[.sl (enL cNd B) .no]:=rfl
 have hl:∀(c d:Ab) (G:Aa),Ac true 1 (.ptr 0 0 1) (.cel 0 [c,d]::G)=some (.agg [d]):=fun c d G=>by
  simp only [Ac,IR];rfl
 by_cases hr:r=r'
 ·have hd:(r == r')=true:=by simp [hr]
  have hd2:decide (r=r')=true:=decide_eq_true hr
  simp only [GMb,GMc,HPa,HPc,HPd,HPe,HPz,Nat.reduceAdd,Nat.reduceLT,MO,hd,hd2,hl,q05_same A B _ hA]
 ·have hd:(r == r')=false:=by simp [hr]
  have hd2:decide (r=r')=false:=decide_eq_false hr
  simp only [GMb,GMc,HPa,HPc,HPd,HPe,HPz,Nat.reduceAdd,Nat.reduceLT,MO,hd,hd2]
set_option exponentiation.threshold 5000
theorem build_spot (p:Sp):AB (some [(.sl [] .tight),(.sl [] .tight),(.int .u8 0)]) [(0,1,.sl (enL cU (A0 p.a)) .no),(1,1,.sl (enL cU (A0 p.b)) .no),(2,1,.int .u8 (p.s.toNat:Int))]=some (.agg (cSp p)):=by
 simp [AB,Gj,D9,cSp]
theorem fld_big (z:Int):QS false 1 1 (big z)=some (.sl (enL cU (A0 z.natAbs)) .no):=rfl
theorem spot_turn {L:List Cl} {tk:Tok} {H Hc:Aa} {x50 x51 w:Ab} {b ph i n:Nat} (hi:i<L.length) (hok:∀c∈L,c.ok) (hl:L.length<1000000000) (hn:n≤1400) (hin:∀c∈L,0≤c.x+2^n∧0≤c.y+2^n)
  (hb:b≤Hc.length) (hR:RS cSp BA 3 b ((L.take i).map (spot (2^n))) w Hc) (hp:Hc[ph]? = some (.cel 0 (AD (2^n)))) :
  ∃w' Hd,(∀rec:LK,Sh.f4d H rec x50 x51 (.ptr ph 0 0) w (.sl (enL cCl L) tk) (.int .i64 (L.length:Int)) (.int .i64 (i:Int)) Hc=rec [x50,x51,.ptr ph 0 0,w',.sl (enL cCl L) tk,.int .i64 (L.length:Int),.int .i64 ((i+1:Nat):Int)] Hd) ∧
   RS cSp BA 3 b ((L.take (i+1)).map (spot (2^n))) w' Hd∧Kp b Hc Hd:=by
 have d1:decide ((i:Int)<(L.length:Int))=true:=decide_eq_true (by omega)
 have hwi:=Aw (show i<9223372036854775807 by omega)
 have hc:=hok _ (WP hi)
 have hz:=hin _ (WP hi)
 have hld:∀G,Ac true 5 (.cptr (cCl L[i]) 0) G=some (.agg (cCl L[i])):=fun _=>rfl
 have hal:∀G:Aa,A3 (some [(.bool false),(.sl [] .tight),(.bool false),(.sl [] .tight),(.int .u8 0)]) G=some (.ptr G.length 0 0,G++[.cel 0 [.bool false,.sl [] .tight,.bool false,.sl [] .tight,.int .u8 0]]):=fun G=>alloc_eq rfl
 have hp44:SB 44 (2^n):=Nh hn
 have a1:=fun G=>p_addB (a:=L[i].x) (b:=2^n) G (hc.1.lb (by decide)) (hp44.lb (by decide))
 have a2:=fun G=>p_addB (a:=L[i].y) (b:=2^n) G (hc.2.lb (by decide)) (hp44.lb (by decide))
 obtain ⟨l1,l2,l3⟩:=ldX Hc L[i]
 have lh:Ac true 2 (.ptr ph 0 0) (Hc++[.cel 0 (cCl L[i])])=some (big (2^n)):=Cx (AE hp)
 have b5:=box5 Hc L[i]
 have hR1:=hR.left [Blk.cel 0 (cCl L[i])]
 obtain ⟨w',H2,r1,r2,r3⟩:=hR1.snoc (bytes:=56) (by simp;omega) (spot (2^n) L[i]) .tight (by simp;omega) (by simp;omega)
 have hbs:AB (some [(.sl [] .tight),(.sl [] .tight),(.int .u8 0)]) [(0,1,.sl (enL cU (A0 (L[i].x+2^n).natAbs)) .no),(1,1,.sl (enL cU (A0 (L[i].y+2^n).natAbs)) .no),(2,1,.int .u8 (L[i].s.toNat:Int))]=some (.agg (cSp (spot (2^n) L[i]))):=by
  have e1:(L[i].x+2^n).natAbs=(spot (2^n) L[i]).a:=by unfold spot;dsimp only;omega
  have e2:(L[i].y+2^n).natAbs=(spot (2^n) L[i]).b:=by unfold spot;dsimp only;omega
  rw [e1,e2]
  exact build_spot _
 have hmap:(L.take (i+1)).map (spot (2^n))=(L.take i).map (spot (2^n))++[spot (2^n) L[i]]:=by
  rw [WM hi,List.map_append];rfl
 rw [hmap]
 refine ⟨w',H2,fun rec=>?_,r2,(Kp.app hb _).trans r3⟩
 unfold Sh.f4d
 simp only [GMb,GMc,d1,Ax hi,hld,hal,b5,AK,Ag,WE,l1,l2,l3,lh,a1,a2,fld_big,hbs,MM,r1,hwi,B9,and_self,FY]
theorem p_cellsOf (l:List RC) (tk:Tok) (H:Aa) (hl:l.length<700000000) (hf:∀r∈l,r.fits) (hs:∀r∈l,r.right=true→r.cl.ok) :
  Sh.f1w (.sl (enL cRC l) tk) H=some (.ret (if l.all RC.right then .tup [Gg (OH (l.map RC.cl)).1,.int .i64 (OH (l.map RC.cl)).2]else .tup [Gg [],.int .i64 1]),H):=by
 have hcw:=fun K=>U0 l tk K (by omega) hf
 have hal:A3 (some [(.sl [] .tight)]) H=some (.ptr H.length 0 0,H++[.cel 0 [.sl [] .tight]]):=alloc_eq rfl
 unfold Sh.f1w
 simp only [GMb,GMc,hal,hcw]
 cases hr:l.all RC.right with
 | false=>
  simp only [GMb,GMc,XL,quad_bad,WL,if_false]
 | true=>
  have hrr:∀r∈l,r.right=true:=Xb.1 hr
  have hcl:∀c∈l.map RC.cl,c.ok:=fun c hc=>by
   obtain ⟨r,h1,rfl⟩:=XQ.1 hc
   exact hs r h1 (hrr r h1)
  rw [enL_RC hrr hf]
  generalize hL:l.map RC.cl=L at hcl
  have hLl:L.length<700000000:=by rw [←hL];simpa using hl
  have hla:=fun K=>p_last L tk K (by omega) hcl
  simp only [GMb,GMc,X2,hla,Av,of07_eq,if_true]
  have hsm:∀c∈CC L,c.ok:=fun c hc=>hcl c (lastL_mem hc)
  have hsl:=lastL_len L
  generalize CC L=S at hsm hsl
  refine Eq.trans ?hd (Cf (G:=fun rec1 vs H1=>Sh.f3c H rec1 (ag vs 0) (ag vs 1) (ag vs 2) (ag vs 3) (ag vs 4) (ag vs 5) H1) S.length
   (fun i=>[.ptr H.length 0 0,.sl (enL cCl S) .no,.int .i64 (DG S i:Int),.sl (enL cCl S) .no,.int .i64 (S.length:Int),.int .i64 (i:Int)]) (fun i=>H++[.cel 0 [.sl [] .tight]]++bxC (S.take i))
   (some (.ret (.tup [Gg (of07S S).1,.int .i64 (of07S S).2]),H)) (by omega) (fun rec i hi=>?_) (fun rec=>?_))
  case hd=>
   have e0:H++[Blk.cel 0 [.sl [] .tight]]++bxC (S.take 0)=H++[Blk.cel 0 [.sl [] .tight]]:=by simp [bxC]
   rw [e0]
   rfl
  ·exact need_turn hi hsm (by omega) rec
  ·have hlv:=levelOf_need S
   have d1:decide ((S.length:Int)<(S.length:Int))=false:=decide_eq_false (by omega)
   have h1n:1≤DG S S.length:=by rw [Qz];omega
   rw [Xv]
   unfold of07S
   by_cases hv:1329<DG S S.length
   ·have hv':decide ((DG S S.length:Int)>1329)=true:=decide_eq_true (by omega)
    rw [if_pos (by omega)]
    have hbe:AB (some [(.sl [] .tight)]) []=some (.agg [.sl (enL cNd []) .tight]):=rfl
    have qt:=Nj (H:=H) (Hq:=H++[.cel 0 [.sl [] .tight]]++bxC S) (tk:=.tight) (Q:=[]) (e:=4) (by rw [WG];simp) (fun i hi=>by rw [WG,WD hi])
    unfold Sh.f3c
    simp only [Aj,Ai,AS,AY,Bo,B6,Di,GMb,GMc,d1,hv',hbe]
    exact qt
   ·have hv':decide ((DG S S.length:Int)>1329)=false:=decide_eq_false (by omega)
    have hle:Bt S≤1329:=by omega
    have hlev:Bt S=DG S S.length:=by omega
    rw [if_neg (by omega)]
    have hsq:∀c∈S,InSq (Bt S) (-(2^(Bt S-1))) (-(2^(Bt S-1))) c:=fun c hc=>within_sq (by omega) (level_in hle c hc)
    rw [hlev]at hsq
    rw [hlev]
    obtain ⟨n,hn⟩:∃n,DG S S.length=n+1:=⟨DG S S.length-1,by omega⟩
    rw [hn,Xi]at hsq ⊢
    have hin:∀c∈S,0≤c.x+2^n∧0≤c.y+2^n:=fun c hc=>by
     obtain ⟨q1,q2,q3,q4⟩:=hsq c hc
     generalize (2:Int)^n=P at *
     omega
    have hlp:=Wa (h:=2^n) (n+1) [] (-(2^n)) (-(2^n)) S 0 0 0 0 (by simp;omega) (by simp;omega) rfl rfl hsq
    have hwn:IntKind.i64.wrap (((n+1:Nat):Int)-1)=(n:Int):=by rw [Al] <;> omega
    have hpow:=fun G=>p_pow (m:=n) (by omega) G
    have s1:∀B:Aa,Ah 2 (.ptr B.length 0 0) (big (2^n)) (B++[.cel 0 [.bool false,.sl [] .tight]])=some (B++[.cel 0 (AD (2^n))]):=fun B=>by rw [Dk (Ar (B:=B)) rfl,Bv]
    obtain ⟨B,hB⟩:∃B,B=H++[.cel 0 [.sl [] .tight]]++bxC S:=⟨_,rfl⟩
    have hBH:B[H.length]? = some (.cel 0 [.sl [] .tight]):=by rw [hB,WG];simp
    have hBo:∀i,i<H.length→B[i]? = H[i]? := fun i hi=>by rw [hB,WG,WD hi]
    have hBl:H.length<B.length:=(WC.1 hBH).1
    rw [←hB]
    have loop:=HC (G:=fun rec2 vs H1=>Sh.f4d H rec2 (ag vs 0) (ag vs 1) (ag vs 2) (ag vs 3) (ag vs 4) (ag vs 5) (ag vs 6) H1) S.length
     (fun i vs Hc=>∃w,vs=[.ptr H.length 0 0,.int .i64 ((n+1:Nat):Int),.ptr B.length 0 0,w,.sl (enL cCl S) .no,.int .i64 (S.length:Int),.int .i64 (i:Int)]∧RS cSp BA 3 B.length ((S.take i).map (spot (2^n))) w Hc∧Kp B.length (B++[.cel 0 (AD (2^n))]) Hc)
     (by omega) (fun i vs Hc hi hI=>?_) (vs:=[.ptr H.length 0 0,.int .i64 ((n+1:Nat):Int),.ptr B.length 0 0,.sl [] .tight,.sl (enL cCl S) .no,.int .i64 (S.length:Int),.int .i64 0]) (H:=B++[.cel 0 (AD (2^n))])
     ⟨_,rfl,.inl ⟨rfl,rfl⟩,Kp.refl _ _⟩
    ·obtain ⟨vs,Hc,⟨w,rfl,hR,hK⟩,rec2,hloop⟩:=loop
     rw [Xv]at hR
     obtain ⟨tk2,rfl⟩:=hR.sl
     have hKl:=hK.len
     rw [WJ,List.length_singleton]at hKl
     have hHc:Hc[H.length]? = some (.cel 0 [.sl [] .tight]):=hK.cel _ _ (AE hBH)
     have hHo:∀i,i<H.length→Hc[i]? = H[i]? := fun i hi=>by rw [hK.old i (by omega),WD (by omega)];exact hBo i hi
     have hbx:B2 true 1 (.agg [.sl [] .tight]) Hc=some (.ptr Hc.length 0 0,Hc++[.cel 0 [.sl [] .tight]]):=BQ rfl rfl
     have hbe:AB (some [(.sl [] .tight)]) []=some (.agg [.sl [] .tight]):=rfl
     have hmul:S.length*(n+1)≤700000000*1329:=Nat.mul_le_mul (by omega) (by omega)
     have hspk:∀p∈S.map (spot (2^n)),SpOk p:=fun p hp=>by
      obtain ⟨c,hc,rfl⟩:=XQ.1 hp
      obtain ⟨q1,q2,q3,q4⟩:=hsq c hc
      have hpw:(2:Int)^(n+1)=((2^(n+1):Nat):Int):=ipow _
      rw [hpw]at q2 q4
      have hpt:2^(n+1)≤2^(32*44):=Xm (by decide) (by omega)
      rw [←w_pow]at hpt
      exact ⟨Xh (Ec (k:=44) (by unfold spot;dsimp only;omega)) (by decide),Xh (Ec (k:=44) (by unfold spot;dsimp only;omega)) (by decide)⟩
     obtain ⟨Hq,w',p1,p2,p3,p4⟩:=lay_ok (b:=H.length) (pb:=Hc.length) (by omega) (n+1) AM (by rw [Ey];omega) (by omega) (by omega) [] (.sl [] .tight) (S.map (spot (2^n))) tk2 (Hc++[.cel 0 [.sl [] .tight]]) Ar (.inl ⟨rfl,rfl⟩) (by simp;omega) hspk (by simp;omega) (by simp only [List.length_nil,XM];omega)
     rw [hlp]at p1 p3
     have hpl:=Xh (lay_len (n+1) [] (S.map (spot (2^n)))) (Nat.add_le_add_left (by rw [XM];exact hmul) _)
     rw [hlp]at hpl
     simp only [List.length_nil]at hpl
     generalize EW (n+1) [] (-(2^n)) (-(2^n)) S=P at p1 p3 hpl
     obtain ⟨Q,r⟩:=P
     dsimp only at p1 p3 hpl ⊢
     obtain ⟨tk3,rfl⟩:=p3.sl
     have hqo:=fun G=>c06_of Q tk3 (r:Int) G (by omega)
     have hq1:Hq[H.length]? = some (.cel 0 [.sl [] .tight]):=p4.cel _ _ (by omega) (AE hHc)
     have hqo2:∀i,i<H.length→Hq[i]? = H[i]? := fun i hi=>by rw [p4.old i hi,WD (by omega)];exact hHo i hi
     have hldb:Ac false 1 (.ptr Hc.length 0 0) Hq=some (.sl (enL cNd Q) tk3):=by rw [C5 p2];rfl
     unfold Sh.f3c
     simp only [Aj,Ai,AS,AY,Bo,B6,Di,GMb,GMc,d1,hn,show decide (((n+1:Nat):Int)>1329)=false from by rw [←hn];exact hv',hwn,hpow,Cw,s1,AK,Av]
     rw [hloop]
     unfold Sh.f4d
     simp only [Aj,Ai,AS,AY,Bo,B6,Di,GMb,GMc,d1,hbe,hbx,p1,nil_ptr,Ag,WE,hldb,hqo]
     cases ofOk Q (r:Int)with
     | false=>
      simp only [GMb,GMc,Cn,Cz,Gg,Cq,WL,if_false]
      exact Nj hq1 hqo2
     | true=>
      simp only [GMb,GMc,Cn,Cz,Gg,Cq,Int.toNat_natCast,if_true]
      exact Nj hq1 hqo2
    ·obtain ⟨w,rfl,hR,hK⟩:=hI
     have hKl:=hK.len
     rw [WJ,List.length_singleton]at hKl
     obtain ⟨w',Hd,t1,t2,t3⟩:=spot_turn (H:=H) (x50:=.ptr H.length 0 0) (x51:=.int .i64 ((n+1:Nat):Int)) (tk:=.no) hi hsm (by omega) (by omega) hin (by omega) hR (hK.cel _ _ Ar)
     exact ⟨_,Hd,⟨w',rfl,t2,hK.trans t3⟩,t1⟩
def rdP (law:List UInt8) (v:Ab):List Ab:=[.str law,v]
structure RPx (b0 p:Nat) (b:List UInt8) (a:Nat) (st:PSt) (v:Ab) (H:Aa):Prop where
 hb:b0≤p
 lx:Lx H p b a (rdP st.law v)
 row:RS cCl A6 5 b0 st.cells v H
def RP (b0 p:Nat) (b:List UInt8) (a:Nat) (st:PSt) (H:Aa):Prop:=∃v,RPx b0 p b a st v H
section
variable {b0 p a:Nat} {b:List UInt8} {st:PSt} {H:Aa} {v:Ab}
theorem RPx.lt (h:RPx b0 p b a st v H):p<H.length:=lx_lt h.lx
theorem RPx.move (h:RPx b0 p b a st v H) (a':Nat):RPx b0 p b a' st v (Cd H p b (rdP st.law v) a'):=⟨h.hb,GA h.lx,h.row.put h.lx⟩
theorem RPx.push (h:RPx b0 p b a st v H) (G:Aa):RPx b0 p b a st v (H++G):=⟨h.hb,Lx.push h.lx,h.row.left G⟩
theorem RPx.ext (h:RPx b0 p b a st v H) (cs:List Ab):Ext b0 p H (H.set p (.cel 0 cs)):=
 ⟨by simp,fun i c hi hc=>by rw [WI (Ne.symm hi)];exact hc,fun i hi=>by rw [WI (by have:=h.hb;omega)]⟩
theorem RPx.ble (h:RPx b0 p b a st v H):b0≤H.length:=Xh h.hb (Y8 h.lt)
theorem RPx.go (h:RPx b0 p b a st v H) (a':Nat) (G:Aa):RPx b0 p b a' st v (Cd H p b (rdP st.law v) a'++G)∧Ext b0 p H (Cd H p b (rdP st.law v) a'++G):=
 ⟨(h.move a').push G,(h.ext _).trans (Ext.push b0 p (by show b0≤List.length _;rw [show (H.set p _).length=H.length from by simp];exact h.ble) G)⟩
theorem RPx.go0 (h:RPx b0 p b a st v H) (a':Nat):RPx b0 p b a' st v (Cd H p b (rdP st.law v) a')∧Ext b0 p H (Cd H p b (rdP st.law v) a'):=⟨h.move a',h.ext _⟩
theorem RPx.put (h:RPx b0 p b a st v H) (G:Aa):RPx b0 p b a st v (H++G)∧Ext b0 p H (H++G):=⟨h.push G,Ext.push b0 p h.ble G⟩
def EndsP (b0 p:Nat) (b:List UInt8) (H:Aa) (x:Out) (v:Ab) (s:(Er×Nat)×PSt):Prop:=∃H',x=some (resE s.1.1 v,H')∧Ext b0 p H H'∧RP b0 p b s.1.2 s.2 H'
theorem build_pl (x y:Int):AB (some [(.bool false),(.sl [] .tight),(.bool false),(.sl [] .tight),(.int .u8 0)]) [(0,2,big x),(2,2,big y),(4,1,(.int .u8 1))]=some (.agg (cCl ⟨x,y,1⟩)):=rfl
theorem box_bigS (z:Int):Ah 2 (.ptr 0 0 0) (big z) [Blk.cel 0 [.bool false,.sl [] .tight]]=some [.cel 0 (AD z)]:=Nb (OR z) rfl rfl
theorem ld_bigS (z:Int):Ac true 2 (.ptr 0 0 0) [Blk.cel 0 (AD z)]=some (big z):=(rfl)
theorem rp_line (h:RP b0 p b a st H) (ha:a<b.length) (hb:b.length<1152921504606846976) (hn:st.cells.length<1000000000):EndsP b0 p b H (Sh.f2f (.ptr p 0 0) H) (.tup []) (R2 b a st):=by
 obtain ⟨v,h⟩:=h
 have hle:a≤b.length:=Y8 ha
 unfold EndsP Sh.f2f R2
 simp only [GMb,GMc,HPa,HPc,HPd,HPe,HPz,Nat.reduceAdd,Nat.reduceLT,Np h.lx hle]
 cases hC:Cp b a [35]with
 | true=>
  unfold lawP Rq
  simp only [GMb,GMc,HPa,HPc,HPd,HPe,HPz,Nat.reduceAdd,Nat.reduceLT,TR h.lx hle hb [35,82,32] [97] (by decide) (by decide),if_true]
  have hM:=IK (s:=[35,82,32]) (rest:=[97]) hle
  generalize Ea b a [35,82,32] [97]=M at hM
  obtain ⟨er,c⟩:=M
  dsimp only at hM ⊢
  obtain ⟨h2,e2⟩:=h.go0 c
  cases er with
  | some e=>
   simp only [GMb,GMc,HPa,HPc,HPd,HPe,HPz,Nat.reduceAdd,Nat.reduceLT,Dv]
   exact ⟨_,rfl,e2,_,h2⟩
  | none=>
   simp only [GMb,GMc,HPa,HPc,HPd,HPe,HPz,Nat.reduceAdd,Nat.reduceLT,CG,lx_ruleS h2.lx hM hb [] (by decide)]
   generalize RR b c []=M
   obtain ⟨er,d⟩:=M
   dsimp only
   obtain ⟨h3,e3⟩:=h2.go0 d
   generalize Cd _ p b _ d=H3 at h3 e3
   cases er with
   | some e=>
    simp only [GMb,GMc,HPa,HPc,HPd,HPe,HPz,Nat.reduceAdd,Nat.reduceLT,Dv]
    exact ⟨_,rfl,e2.trans e3,_,h3⟩
   | none=>
    have hst:=Jw (o:=2) (v:=.str ((b.take d).drop c)) h3.lx rfl (by simp [rdP])
    simp only [GMb,GMc,HPa,HPc,HPd,HPe,HPz,Nat.reduceAdd,Nat.reduceLT,CG,hst]
    refine ⟨_,rfl,(e2.trans e3).trans (h3.ext _),v,h3.hb,?_,h3.row.put h3.lx⟩
    unfold Lx
    rw [WS h3.lt];rfl
 | false=>
  unfold J6 Jy
  obtain ⟨G1,hn1⟩:=VT h.lx hle hb true [32,49] (by decide)
  have hi1:=S8 hle true [32,49]
  simp only [GMb,GMc,HPa,HPc,HPd,HPe,HPz,Nat.reduceAdd,Nat.reduceLT,hn1,WL,if_false]
  generalize Gv b a true [32,49]=M at hi1
  obtain ⟨er,c⟩:=M
  dsimp only at hi1 ⊢
  obtain ⟨h1,e1⟩:=h.go c G1
  generalize Cd H p b (rdP st.law v) c++G1=H1 at h1 e1
  cases er with
  | some e=>
   simp only [GMb,GMc,HPa,HPc,HPd,HPe,HPz,Nat.reduceAdd,Nat.reduceLT,Dv]
   exact ⟨_,rfl,e1,_,h1⟩
  | none=>
   obtain ⟨h2,e2⟩:=h1.put [.cel 0 (AD (BJ ((b.take c).drop a)))]
   have hx0:(H1++[Blk.cel 0 (AD (BJ ((b.take c).drop a)))])[H1.length]? = some (.cel 0 (AD (BJ ((b.take c).drop a)))):=Ar
   have hH1:p≠H1.length:=by have:=h1.lt;omega
   simp only [GMb,GMc,HPa,HPc,HPd,HPe,HPz,Nat.reduceAdd,Nat.reduceLT,CG,Cw,box_bigS,AK]
   generalize H1++[Blk.cel 0 (AD (BJ ((b.take c).drop a)))]=H2 at h2 e2 hx0
   simp only [GMb,GMc,HPa,HPc,HPd,HPe,HPz,Nat.reduceAdd,Nat.reduceLT,TR h2.lx hi1.2 hb [32] [49] (by decide) (by decide)]
   have hM:=IK (s:=[32]) (rest:=[49]) hi1.2
   generalize Ea b c [32] [49]=M at hM
   obtain ⟨er,d⟩:=M
   dsimp only at hM ⊢
   obtain ⟨h3,e3⟩:=h2.go0 d
   have hx1:=e3.cel _ _ (Ne.symm hH1) hx0
   generalize Cd H2 p b (rdP st.law v) d=H3 at h3 e3 hx1
   cases er with
   | some e=>
    simp only [GMb,GMc,HPa,HPc,HPd,HPe,HPz,Nat.reduceAdd,Nat.reduceLT,Dv]
    exact ⟨_,rfl,(e1.trans e2).trans e3,_,h3⟩
   | none=>
    obtain ⟨G4,hn4⟩:=VT h3.lx hM hb true [] (by decide)
    have hi4:=S8 hM true []
    simp only [GMb,GMc,HPa,HPc,HPd,HPe,HPz,Nat.reduceAdd,Nat.reduceLT,CG,hn4]
    generalize Gv b d true []=M at hi4
    obtain ⟨er,f⟩:=M
    dsimp only at hi4 ⊢
    obtain ⟨h4,e4⟩:=h3.go f G4
    have hx4:=e4.cel _ _ (Ne.symm hH1) hx1
    generalize Cd H3 p b (rdP st.law v) f++G4=H4 at h4 e4 hx4
    cases er with
    | some e=>
     simp only [GMb,GMc,HPa,HPc,HPd,HPe,HPz,Nat.reduceAdd,Nat.reduceLT,Dv]
     exact ⟨_,rfl,((e1.trans e2).trans e3).trans e4,_,h4⟩
    | none=>
     obtain ⟨h5,e5⟩:=h4.put [.cel 0 (AD (BJ ((b.take f).drop d)))]
     have hy:Ac true 2 (.ptr H4.length 0 0) (H4++[Blk.cel 0 (AD (BJ ((b.take f).drop d)))])=some (big (BJ ((b.take f).drop d))):=Cx Ar
     have hx:Ac true 2 (.ptr H1.length 0 0) (H4++[Blk.cel 0 (AD (BJ ((b.take f).drop d)))])=some (big (BJ ((b.take c).drop a))):=Cx (AE hx4)
     simp only [GMb,GMc,HPa,HPc,HPd,HPe,HPz,Nat.reduceAdd,Nat.reduceLT,CG,Cw,box_bigS,AK]
     generalize H4++[Blk.cel 0 (AD (BJ ((b.take f).drop d)))]=H5 at h5 e5 hy hx
     have hrow:Ac false 1 (.ptr p 0 3) H5=some v:=by rw [C5 h5.lx];rfl
     obtain ⟨w,H6,r1,r2,r3⟩:=h5.row.snoc (bytes:=72) h5.ble ⟨BJ ((b.take c).drop a),BJ ((b.take f).drop d),1⟩ .tight (by omega) (by omega)
     have hlx6:Lx H6 p b f (rdP st.law v):=r3.cel _ _ h5.lx
     have hwv:w.isScal=true:=by obtain ⟨tk,rfl⟩:=r2.sl;rfl
     have hst:=Jw (o:=3) (v:=w) hlx6 hwv (by simp [rdP])
     simp only [GMb,GMc,HPa,HPc,HPd,HPe,HPz,Nat.reduceAdd,Nat.reduceLT,hrow,hx,hy,ld_bigS,build_pl,PY,r1,hst,AK,B9]
     have hp6:=lx_lt hlx6
     refine ⟨_,rfl,(((((e1.trans e2).trans e3).trans e4).trans e5).trans ⟨r3.len,fun i cs hi hc=>r3.cel i cs hc,r3.old⟩).trans ⟨by simp,fun i c hi hc=>by rw [WI (Ne.symm hi)];exact hc,fun i hi=>by rw [WI (by have:=h.hb;omega)]⟩,w,h.hb,?_,r2.put hlx6⟩
     unfold Lx
     rw [WS hp6];rfl
theorem one_endP (hb:b.length<1152921504606846976) {rec:LK} {H0:Aa} {x:Out} {s:(Er×Nat)×PSt} {F:LK} (he:EndsP b0 p b H x (.tup []) s) (hs:s.1.2≤b.length) :
  (∃H' e c st',endP b s=((some e,c),st')∧(bK H0 x fun _ H18=>bK H0 (Sh.fo (.ptr p 0 0) (.str []) H18) fun _ H22=>rec [.ptr p 0 0] H22)=some (.pan (hv e),H')∧Ext b0 p H H'∧RP b0 p b c st' H') ∨
  (∃H' c st',endP b s=((none,c),st')∧(bK H0 x fun _ H18=>bK H0 (Sh.fo (.ptr p 0 0) (.str []) H18) fun _ H22=>rec [.ptr p 0 0] H22)=rec [.ptr p 0 0] H'∧Ext b0 p H H'∧RP b0 p b c st' H'):=by
 obtain ⟨⟨er,c⟩,st'⟩:=s
 obtain ⟨H1,rfl,e1,h1⟩:=he
 dsimp only at hs e1 h1 ⊢
 cases er with
 | some e=>exact .inl ⟨H1,e,c,st',rfl,rfl,e1,h1⟩
 | none=>
  obtain ⟨v,h1⟩:=h1
  obtain ⟨h2,e2⟩:=h1.go0 (I0 b c []).2
  have hx:=lx_endS h1.lx hs hb [] (by decide)
  unfold endP
  simp only [CG,GMb,GMc,HPa,HPc,HPd,HPe,HPz,Nat.reduceAdd,Nat.reduceLT,hx]
  cases hE:(I0 b c []).1 with
  | some e=>
   refine .inl ⟨_,e,(I0 b c []).2,st',by rw [←hE],?_,e1.trans e2,_,h2⟩
   simp only [Dv,GMb,GMc,HPa,HPc,HPd,HPe,HPz,Nat.reduceAdd,Nat.reduceLT]
  | none=>
   refine .inr ⟨_,(I0 b c []).2,st',by rw [←hE],?_,e1.trans e2,_,h2⟩
   simp only [CG,GMb,GMc,HPa,HPc,HPd,HPe,HPz,Nat.reduceAdd,Nat.reduceLT]
theorem rp_loop (hb:b.length<1152921504606846976) (H0:Aa):∀(m a:Nat) (st:PSt) (H:Aa),a≤b.length→b.length-a<m→∀n,m≤n→st.cells.length+(b.length-a)+5<1000000000→RP b0 p b a st H →
  EndsP b0 p b H (An (fun rec1 vs H=>Sh.f4s H0 rec1 (ag vs 0) H) n [.ptr p 0 0] H) (.tup []) (Gu b m a st):=by
 intro m
 induction m with
 | zero=>intro a st H _ h;omega
 | succ m ih=>
  intro a st H ha hm n hn h1 h
  obtain ⟨n,rfl⟩:∃k,n=k+1:=⟨n-1,by omega⟩
  rw [CH]
  generalize hg:An (fun rec1 vs H=>Sh.f4s H0 rec1 (ag vs 0) H) n=rec
  have hh:=h
  obtain ⟨v,h⟩:=h
  unfold Sh.f4s Gu
  simp only [GMb,GMc,HPa,HPc,HPd,HPe,HPz,Nat.reduceAdd,Nat.reduceLT,Mq h.lx]
  by_cases he:a=b.length
  ·simp only [he,GMb,GMc,HPa,HPc,HPd,HPe,HPz,Nat.reduceAdd,Nat.reduceLT,if_true]
   rw [he]at hh
   exact ⟨H,rfl,Ext.refl _ _ _,hh⟩
  ·have hlt:a<b.length:=by omega
   have hl:=rp_line hh hlt hb (by omega)
   have hok:=oneP_ok hlt st
   have hone:=one_endP (rec:=rec) (H0:=H0) (F:=rec) hb hl (lineP_ok hlt st).le
   simp only [he,GMb,GMc,HPa,HPc,HPd,HPe,HPz,Nat.reduceAdd,Nat.reduceLT,if_false]
   unfold Vf at hok ⊢
   rcases hone with ⟨H1,e,c,st',q1,q2,q3,q4⟩ | ⟨H1,c,st',q1,q2,q3,q4⟩
   ·rw [q1]
    exact ⟨H1,q2,q3,q4⟩
   ·rw [q1]at hok ⊢
    obtain ⟨k1,k2,k3,k4⟩:=hok
    dsimp only at k1 k2 k3 k4 ⊢
    have:=k2 rfl
    obtain ⟨H2,s1,s2,s3⟩:=ih c st' H1 k1 (by omega) n (by omega) (by omega) q4
    rw [hg]at s1
    exact ⟨H2,q2.trans s1,q3.trans s2,s3⟩
theorem rp_all (h:RP b0 p b 0 st H) (hb:b.length<900000000) (hn:st.cells.length=0):EndsP b0 p b H (Sh.f1k (.ptr p 0 0) H) (.tup []) (MS b st):=by
 have hb':b.length<1152921504606846976:=by omega
 obtain ⟨v,h⟩:=h
 have hM:=IK (s:=Iz) (rest:=[]) (Xd b.length)
 have hx:=TR h.lx (Xd _) hb' Iz [] (by decide) (by decide)
 unfold Sh.f1k MS
 rw [show Ab.str [35,76,105,102,101,32,49,46,48,54]=.str Iz from rfl]
 simp only [GMb,GMc,HPa,HPc,HPd,HPe,HPz,Nat.reduceAdd,Nat.reduceLT,hx]
 generalize Ea b 0 Iz []=M at hM
 obtain ⟨er,c⟩:=M
 dsimp only at hM ⊢
 obtain ⟨h1,e1⟩:=h.go0 c
 cases er with
 | some e=>
  simp only [Dv,GMb,GMc,HPa,HPc,HPd,HPe,HPz,Nat.reduceAdd,Nat.reduceLT]
  exact ⟨_,rfl,e1,_,h1⟩
 | none=>
  have hx2:=lx_endS h1.lx hM hb' [] (by decide)
  simp only [CG,GMb,GMc,HPa,HPc,HPd,HPe,HPz,Nat.reduceAdd,Nat.reduceLT,hx2]
  have hle:=endS_le hM []
  generalize I0 b c []=M at hle
  obtain ⟨er,d⟩:=M
  dsimp only at hle ⊢
  obtain ⟨h3,e3⟩:=h1.go0 d
  cases er with
  | some e=>
   simp only [Dv,GMb,GMc,HPa,HPc,HPd,HPe,HPz,Nat.reduceAdd,Nat.reduceLT]
   exact ⟨_,rfl,e1.trans e3,_,h3⟩
  | none=>
   simp only [CG,GMb,GMc,HPa,HPc,HPd,HPe,HPz,Nat.reduceAdd,Nat.reduceLT]
   obtain ⟨H4,r1,r2,r3⟩:=rp_loop (b0:=b0) (p:=p) hb' H (b.length+1) d st _ hle.2 (by omega) AM (by rw [Ey];omega) (by omega) ⟨_,h3⟩
   rw [r1]
   exact ⟨H4,rfl,(e1.trans e3).trans r2,r3⟩
def Q9 (er:Er):Ab:=match er with
 | none=>.agg [.int .i64 0,.str []]
 | some e=>.agg [.int .i64 e.1,.str e.2]
theorem VG (h:RP b0 p b 0 st H) (hb:b.length<900000000) (hn:st.cells.length=0):∃H',Sh.f1l (.bfn 38 [.ptr p 0 0]) H=some (.ret (Q9 (MS b st).1.1),H')∧Ext b0 p H H'∧RP b0 p b (MS b st).1.2 (MS b st).2 H':=by
 obtain ⟨H1,r1,r2,r3⟩:=rp_all h hb hn
 refine ⟨H1,?_,r2,r3⟩
 have ho:ent 38 (ap1 Sh.f1k) noO 38 [.ptr p 0 0] H=Sh.f1k (.ptr p 0 0) H:=by
  unfold ent;rw [if_pos rfl];rfl
 unfold Sh.f1l PR
 simp only [ho,r1,GMb,GMc]
 cases (MS b st).1.1 with
 | none=>rfl
 | some e=>rfl

end
def rcC (c:Cl):RC:=⟨decide (c.x<0),A0 c.x.natAbs,decide (c.y<0),A0 c.y.natAbs,c.s⟩
theorem UE (z:Int):Fd (decide (z<0)) (A0 z.natAbs)=true:=by
 unfold Fd
 rw [To,X7]
 by_cases h:z<0
 ·have:A0 z.natAbs≠[]:=Nv (by omega)
  rw [decide_eq_true h]
  cases hl:A0 z.natAbs with
  | nil=>exact absurd hl this
  | cons _ _=>rfl
 ·rw [decide_eq_false h];rfl
theorem rcC_right (c:Cl):(rcC c).right=true:=by
 unfold RC.right rcC
 rw [UE,UE];rfl
theorem rcC_cl (c:Cl):(rcC c).cl=c:=by
 unfold RC.cl rcC
 rw [Kw,Kw]
theorem rcC_fits {c:Cl} (h:c.ok):(rcC c).fits:=⟨Bh _,Bh _,h.1.lb (by decide),h.2.lb (by decide)⟩
theorem enL_rcC (L:List Cl):enL cRC (L.map rcC)=enL cCl L:=by
 unfold enL
 rw [Z2]
 rfl
theorem map_rcC (L:List Cl):(L.map rcC).map RC.cl=L:=by
 rw [Z2]
 conv=>rhs;rw [←List.map_id L]
 exact Zv fun c _=>rcC_cl c
theorem all_rcC (L:List Cl):(L.map rcC).all RC.right=true:=by
 rw [Xb]
 intro r hr
 obtain ⟨c,_,rfl⟩:=XQ.1 hr
 exact rcC_right c
theorem p_cellsC (L:List Cl) (tk:Tok) (H:Aa) (hl:L.length<700000000) (hok:∀c∈L,c.ok):Sh.f1w (.sl (enL cCl L) tk) H=some (.ret (.tup [Gg (OH L).1,.int .i64 (OH L).2]),H):=by
 have h:=p_cellsOf (L.map rcC) tk H (by rw [XM];exact hl) (fun r hr=>by obtain ⟨c,hc,rfl⟩:=XQ.1 hr;exact rcC_fits (hok c hc)) (fun r hr _=>by obtain ⟨c,hc,rfl⟩:=XQ.1 hr;rw [rcC_cl];exact hok c hc)
 rw [all_rcC,enL_rcC,map_rcC,if_pos rfl]at h
 exact h
def LS (r:(List UInt8×List Nd)×Int×Int):Ab:=.tup [pat r.1.1 r.1.2,.int .i64 r.2.1,.int .i64 r.2.2]
theorem Nl (rule:List UInt8) (L:List Nd):pat rule L=.agg [.str rule,.sl (enL cNd L) .no]:=rfl
theorem quad_eq6 (L:List Nd):Gg L=.agg [.sl (enL cNd L) .no]:=rfl
theorem p_fine6 (bx N:Int) (H:Aa):Sh.f26 (.agg [.int .i64 bx,.int .i64 N]) H=some (.ret (.bool (My bx N)),H):=by
 unfold Sh.f26 Sh.f25 My
 by_cases h1:bx≥0
 ·by_cases h2:bx≤1000
  ·by_cases h3:N≥0
   ·simp only [GMb,GMc,HPa,HPc,HPd,HPe,HPz,Nat.reduceAdd,Nat.reduceLT,h1,h2,h3]
   ·simp only [GMb,GMc,HPa,HPc,HPd,HPe,HPz,Nat.reduceAdd,Nat.reduceLT,h1,h2,h3]
  ·simp only [GMb,GMc,HPa,HPc,HPd,HPe,HPz,Nat.reduceAdd,Nat.reduceLT,h1,h2]
 ·simp only [GMb,GMc,HPa,HPc,HPd,HPe,HPz,Nat.reduceAdd,Nat.reduceLT,h1]
theorem EJ (b:List UInt8) (bx N:Int) (H:Aa) (hb:b.length<600000000):Sh.fv (.str b) (.agg [.int .i64 bx,.int .i64 N]) H=some (.ret (LS (Dw b bx N)),H):=by
 have b1:AB (some [(.str []),(.sl [] .tight)]) []=some (.agg [.str [],.sl [] .tight]):=rfl
 have b2:∀s,AB (some [(.str []),(.int .i64 0)]) [(0,1,.str s)]=some (.agg [.str s,.int .i64 0]):=fun _=>rfl
 have b3:∀s,AB (some [(.str []),(.int .i64 0),(.str []),(.sl [] .tight)]) [(0,2,.agg [.str s,.int .i64 0]),(2,1,(.str [66,51,47,83,50,51]))]=some (.agg [.str s,.int .i64 0,.str usualL,.sl [] .tight]):=fun _=>rfl
 unfold Sh.fv Dw
 simp only [GMb,GMc,HPa,HPc,HPd,HPe,HPz,Nat.reduceAdd,Nat.reduceLT,p_fine6]
 cases hf:My bx N with
 | false=>
  simp only [GMb,GMc,HPa,HPc,HPd,HPe,HPz,Nat.reduceAdd,Nat.reduceLT,b1,WL,if_false,LS,Nl]
  rfl
 | true=>
  simp only [GMb,GMc,HPa,HPc,HPd,HPe,HPz,Nat.reduceAdd,Nat.reduceLT,b2,b3,if_true]
  obtain ⟨F,hF⟩:∃F:Aa,F=H++[.cel 0 [.int .i64 bx,.int .i64 N],.cel 0 [.str [],.sl [] .tight],.cel 0 [.str b,.int .i64 0,.str usualL,.sl [] .tight]]:=⟨_,rfl⟩
  have hR:RP H.length (H.length+2) b 0 pst0 F:=⟨.sl [] .tight,by omega,by unfold Lx;rw [hF];simp [rdP,pst0],.inl ⟨rfl,rfl⟩⟩
  obtain ⟨H1,c1,c2,c3⟩:=VG hR (by omega) rfl
  rw [hF]at c1
  have hlim:H1[H.length]? = some (.cel 0 [.int .i64 bx,.int .i64 N]):=c2.cel _ _ (by omega) (by rw [hF];simp)
  have hres:H1[H.length+1]? = some (.cel 0 [.str [],.sl [] .tight]):=c2.cel _ _ (by omega) (by rw [hF];simp)
  have hold:∀i,i<H.length→H1[i]? = H[i]? := fun i hi=>by rw [c2.old i hi,hF,WD hi]
  simp only [c1,GMb,GMc]
  have hpos:=allP_er b pst0
  have hcnt:=allP_ok b pst0
  generalize MS b pst0=A at c3 hpos hcnt
  obtain ⟨⟨er,c⟩,st⟩:=A
  dsimp only at c3 ⊢
  obtain ⟨v,c3⟩:=c3
  have hl1:=(WC.1 hres).1
  cases er with
  | some e=>
   have hpe:=hpos e rfl
   have hres':=AE (G:=[Blk.cel 0 [.int .i64 e.1,.str e.2]]) hres
   have hst:=Qj (sz:=2) (ws:=[.str [],.sl [] .tight]) hres' rfl rfl rfl
   have hset:(H1++[Blk.cel 0 [.int .i64 e.1,.str e.2]]).set (H.length+1) (.cel 0 [.str [],.sl [] .tight])=H1++[Blk.cel 0 [.int .i64 e.1,.str e.2]]:=by
    apply XZ
    intro i
    by_cases hi:H.length+1=i
    ·subst hi
     rw [WS (by simp;omega),hres']
    ·rw [WI hi]
   rw [hset]at hst
   have hld:=Q5 (sz:=2) hres' rfl
   have hat:=C5 (o:=1) (sz:=1) (AE (G:=[Blk.cel 0 [.int .i64 e.1,.str e.2]]) c3.lx)
   have htk:(H1++[Blk.cel 0 [.int .i64 e.1,.str e.2]]).take H.length=H:=CB fun i hi=>by rw [WD (by omega)];exact hold i hi
   by_cases he:e.1=0
   ·exact absurd he (by omega)
   ·have hne:(!decide (e.1=0))=true:=by simp [he]
    simp only [Q9,GMb,GMc,HPa,HPc,HPd,HPe,HPz,Nat.reduceAdd,Nat.reduceLT,hne,b1,hst,hat,EP,IU,hld,Hx htk,LS,Nl]
    rfl
  | none=>
   have hc1:st.cells.length≤b.length:=by have:=hcnt.1;dsimp only [pst0]at this;simp only [List.length_nil]at this;omega
   have hc2:∀c∈st.cells,c.ok:=hcnt.2 (fun c hc=>by cases hc)
   obtain ⟨tk,hv⟩:=c3.row.sl
   have hof:=fun K=>p_cellsC st.cells tk K (by omega) hc2
   have hld3:=C5 (o:=3) (sz:=1) (AE (G:=[Blk.cel 0 [.int .i64 0,.str []]]) c3.lx)
   have hld2:=fun G=>C5 (o:=2) (sz:=1) (AE (G:=G) (AE (G:=[Blk.cel 0 [.int .i64 0,.str []]]) c3.lx))
   obtain ⟨K,hK⟩:∃K,K=H1++[Blk.cel 0 [.int .i64 0,.str []]]:=⟨_,rfl⟩
   have hKr:K[H.length+1]? = some (.cel 0 [.str [],.sl [] .tight]):=by rw [hK];exact AE hres
   have hKm:K[H.length]? = some (.cel 0 [.int .i64 bx,.int .i64 N]):=by rw [hK];exact AE hlim
   have hKo:∀i,i<H.length→K[i]? = H[i]? := fun i hi=>by rw [hK,WD (by omega)];exact hold i hi
   have hKl:H.length+1<K.length:=(WC.1 hKr).1
   rw [←hK]at hld3 hld2
   have bad:∀L:List Nd,((AB (some [(.str []),(.sl [] .tight)]) []).bind fun x57=>
 (Cr (.str b)).bind fun x58=>
 bP H (AH (Ah 2 (.ptr (H.length+1) 0 0) x57 (K++[.cel 0 [.sl (enL cNd L) .no]]))) fun _ H60=>
 (IF [Ac true 2 (.ptr (H.length+1) 0 0) H60,some x58,some (.int .i64 4)]).bind fun x61=>rPN H x61 H60)=some (.ret (LS (([],[]),(b.length:Int),4)),H):=by
    intro L
    have hr':=AE (G:=[Blk.cel 0 [.sl (enL cNd L) .no]]) hKr
    have hst:=Qj (sz:=2) (ws:=[.str [],.sl [] .tight]) hr' rfl rfl rfl
    have hld:=Q5 (sz:=2) (H:=(K++[Blk.cel 0 [.sl (enL cNd L) .no]]).set (H.length+1) (.cel 0 [.str [],.sl [] .tight])) (p:=H.length+1) (cs:=[.str [],.sl [] .tight]) (by rw [WS (by simp;omega)]) rfl
    have htk:((K++[Blk.cel 0 [.sl (enL cNd L) .no]]).set (H.length+1) (.cel 0 [.str [],.sl [] .tight])).take H.length=H:=CB fun i hi=>by rw [WI (by omega),WD (by omega)];exact hKo i hi
    simp only [b1,GMb,GMc,HPa,HPc,HPd,HPe,HPz,Nat.reduceAdd,Nat.reduceLT,hst,hld,Hx htk,LS,Nl]
    rfl
   have hld3':Ac false 1 (.ptr (H.length+2) 0 3) K=some (.sl (enL cCl st.cells) tk):=by rw [hld3,hv];rfl
   have hld2':∀G,Ac false 1 (.ptr (H.length+2) 0 2) (K++G)=some (.str st.law):=fun G=>hld2 G
   simp only [Q9,GMb,GMc,HPa,HPc,HPd,HPe,HPz,Nat.reduceAdd,Nat.reduceLT]
   rw [←hK]
   simp only [GMb,GMc,HPa,HPc,HPd,HPe,HPz,Nat.reduceAdd,Nat.reduceLT,hld3',hof]
   generalize OH st.cells=O
   obtain ⟨Q,e⟩:=O
   dsimp only
   have hbad:=bad Q
   have hlim':=C5 (o:=1) (sz:=1) (AE (G:=[Blk.cel 0 [.sl (enL cNd Q) .no]]) hKm)
   simp only [GMb,GMc,HPa,HPc,HPd,HPe,HPz,Nat.reduceAdd,Nat.reduceLT,quad_eq6]at hbad ⊢
   by_cases he:e=0
   ·subst he
    by_cases hlen:(Q.length:Int)≤N
    ·have hgt:¬(Q.length:Int)>N:=by omega
     have hr':=AE (G:=[Blk.cel 0 [.sl (enL cNd Q) .no]]) hKr
     have hst:=Qj (sz:=2) (ws:=[.str st.law,.sl (enL cNd Q) .no]) hr' rfl rfl rfl
     have hld:=Q5 (sz:=2) (H:=(K++[Blk.cel 0 [.sl (enL cNd Q) .no]]).set (H.length+1) (.cel 0 [.str st.law,.sl (enL cNd Q) .no])) (p:=H.length+1) (cs:=[.str st.law,.sl (enL cNd Q) .no]) (by rw [WS (by simp;omega)]) rfl
     have htk:((K++[Blk.cel 0 [.sl (enL cNd Q) .no]]).set (H.length+1) (.cel 0 [.str st.law,.sl (enL cNd Q) .no])).take H.length=H:=CB fun i hi=>by rw [WI (by omega),WD (by omega)];exact hKo i hi
     have hbd:AB (some [(.str []),(.sl [] .tight)]) [(0,1,.str st.law),(1,1,.agg [.sl (enL cNd Q) .no])]=some (.agg [.str st.law,.sl (enL cNd Q) .no]):=rfl
     simp only [GMb,GMc,HPa,HPc,HPd,HPe,HPz,Nat.reduceAdd,Nat.reduceLT,Av,hlim',EP,IU,hgt,hlen,hld2',hbd,hst,hld,Hx htk,LS,Nl,if_true]
    ·have hgt:(Q.length:Int)>N:=by omega
     simp only [GMb,GMc,HPa,HPc,HPd,HPe,HPz,Nat.reduceAdd,Nat.reduceLT,Av,hlim',EP,IU,hgt,hlen,WL,if_false]at hbad ⊢
     exact hbad
   ·have hne:(!decide (e=0))=true:=by simp [he]
    simp only [GMb,GMc,HPa,HPc,HPd,HPe,HPz,Nat.reduceAdd,Nat.reduceLT,he,hne,WL,if_false,XE]at hbad ⊢
    exact hbad
theorem Pn (b:List UInt8) (H:Aa) (hb:b.length<600000000):Sh.f10 (.str b) H=some (.ret (.tup [.str (Wh b).1,.bool (Wh b).2]),H):=by
 have b2:∀s,AB (some [(.str []),(.int .i64 0)]) [(0,1,.str s)]=some (.agg [.str s,.int .i64 0]):=fun _=>rfl
 have b3:∀s,AB (some [(.str []),(.int .i64 0),(.str []),(.sl [] .tight)]) [(0,2,.agg [.str s,.int .i64 0])]=some (.agg [.str s,.int .i64 0,.str [],.sl [] .tight]):=fun _=>rfl
 unfold Sh.f10 Wh
 simp only [GMb,GMc,HPa,HPc,HPd,HPe,HPz,Nat.reduceAdd,Nat.reduceLT,b2,b3]
 obtain ⟨F,hF⟩:∃F:Aa,F=H++[.cel 0 [.str b,.int .i64 0,.str [],.sl [] .tight]]:=⟨_,rfl⟩
 have hR:RP H.length H.length b 0 ⟨[],[]⟩ F:=⟨.sl [] .tight,WF _,by unfold Lx;rw [hF];simp [rdP],.inl ⟨rfl,rfl⟩⟩
 obtain ⟨H1,c1,c2,c3⟩:=VG hR (by omega) rfl
 rw [hF]at c1
 have hlen:H.length≤H1.length:=by have:=c2.len;rw [hF]at this;simp at this;omega
 have hold:∀i,i<H.length→H1[i]? = H[i]? := fun i hi=>by rw [c2.old i hi,hF,WD hi]
 have htk:∀G,(H1++G).take H.length=H:=fun G=>CB fun i hi=>by rw [WD (by omega)];exact hold i hi
 simp only [c1,GMb,GMc]
 cases (MS b ⟨[],[]⟩).1.1 with
 | none=>
  simp only [Q9,GMb,GMc,HPa,HPc,HPd,HPe,HPz,Nat.reduceAdd,Nat.reduceLT]
  exact FF rfl (htk _)
 | some e=>
  by_cases h0:e.1=0
  ·simp only [Q9,GMb,GMc,HPa,HPc,HPd,HPe,HPz,Nat.reduceAdd,Nat.reduceLT,h0]
   exact FF rfl (htk _)
  ·simp only [Q9,GMb,GMc,HPa,HPc,HPd,HPe,HPz,Nat.reduceAdd,Nat.reduceLT,h0]
   exact FF rfl (htk _)
section
variable {b:List UInt8} {er:Er} {c:Nat}
end
section
variable {H:Aa} {b:List UInt8} {bx N:Int} {er:Er} {c:Nat} {st:PSt} {v:Ab} {K:Aa}
end
section
variable {H:Aa} {b:List UInt8} {bx N:Int} {er:Er} {c:Nat} {st:PSt} {v:Ab} {K:Aa}
end
def C2 (E:List (Option Int)) (x:Nd):Nat→Option Int
 | 0=>none
 | k+1=>if 1<x.lv then some (bo (C2 E x k)+bo (E.getD (x.kid k).toNat none))else if 0<x.kid k then some (bo (C2 E x k)+1)else C2 E x k
def BB (L:List Nd):List (Option Int):=L.foldl (fun E x=>E++[C2 E x 4]) [none]
theorem Wy (L:List Nd) (x:Nd):BB (L++[x])=BB L++[C2 (BB L) x 4]:=by simp [BB]
theorem HI (L:List Nd):(BB L).length=L.length+1:=by
 rcases F3 L with rfl | ⟨l,a,rfl⟩
 ·rfl
 ·rw [Wy];have:=HI l;simp [this]
termination_by L.length
decreasing_by (subst_vars;simp)
theorem IV (L:List Nd) {i:Nat} (hi:i<L.length):BB (L.take (i+1))=BB (L.take i)++[C2 (BB (L.take i)) L[i] 4]:=by
 rw [WM hi,Wy]
theorem SI {L:List Nd} (hl:AP L=true):∀i,i≤L.length→∀j,j≤i→0≤bo ((BB (L.take i)).getD j none)∧bo ((BB (L.take i)).getD j none)≤4^((match j with | 0=>0 | j+1=>match L[j]? with | some y=>y.lv.toNat | none=>0):Nat)
 | 0,_,j,hj=>by
  have:j=0:=by omega
  subst this
  simp [BB,bo]
 | i+1,hi,j,hj=>by
  have ih:=SI hl i (by omega)
  have hlen:(BB (L.take i)).length=i+1:=by rw [HI];simp;omega
  rw [IV L (show i<L.length by omega)]
  by_cases hji:j≤i
  ·have:=ih j hji
   rw [WH]at this ⊢
   rw [WD (by omega)]
   exact this
  ·have e:j=i+1:=by omega
   subst e
   have hi':i<L.length:=by omega
   have hg:(BB (L.take i)++[C2 (BB (L.take i)) L[i] 4]).getD (i+1) none=C2 (BB (L.take i)) L[i] 4:=by
    rw [WH,Xe (by omega),hlen];simp
   rw [hg]
   simp only [WB hi']
   obtain ⟨l1,l2,l3⟩:=AO hl hi'
   generalize hx:L[i]=x at *
   obtain ⟨v,hv⟩:∃v:Nat,x.lv=(v:Int)+1:=⟨(x.lv-1).toNat,by omega⟩
   have hvn:x.lv.toNat=v+1:=by omega
   have hone:(1:Int)≤4^v:=by have:=Nat.one_le_pow v 4 (by omega);exact_mod_cast this
   have step:∀k,k<4→1<x.lv→0≤bo ((BB (L.take i)).getD (x.kid k).toNat none)∧bo ((BB (L.take i)).getD (x.kid k).toNat none)≤4^v:=by
    intro k hk h1
    obtain ⟨q1,q2,q3⟩:=l3 k hk
    by_cases h0:0<x.kid k
    ·obtain ⟨q4,q5⟩:=q3 h1 h0
     have h6:=ih (x.kid k).toNat (by omega)
     obtain ⟨m,hm⟩:∃m,(x.kid k).toNat=m+1:=⟨(x.kid k).toNat-1,by omega⟩
     rw [hm]at h6 ⊢
     have hml:m<L.length:=by omega
     simp only [WB hml]at h6
     have h7:=q5 L[m] (by rw [show (x.kid k-1).toNat=m by omega];exact WB hml)
     rw [show L[m].lv.toNat=v by omega]at h6
     exact h6
    ·have h8:(x.kid k).toNat=0:=by omega
     have h6:=ih 0 (by omega)
     rw [h8]
     simp only [Int.pow_zero]at h6
     exact ⟨h6.1,by omega⟩
   have part:∀k,k≤4→0≤bo (C2 (BB (L.take i)) x k)∧bo (C2 (BB (L.take i)) x k)≤k*4^v:=by
    intro k
    induction k with
    | zero=>intro _;simp [C2,bo]
    | succ k ihk=>
     intro hk
     have ih2:=ihk (by omega)
     have e1:((k+1:Nat):Int)*4^v=(k:Int)*4^v+4^v:=by push_cast;rw [Int.add_mul,Int.one_mul]
     rw [e1]
     unfold C2
     generalize (k:Int)*4^v=kp at *
     by_cases h1:1<x.lv
     ·have h2:=step k (by omega) h1
      rw [if_pos h1]
      simp only [bo,Option.getD_some]at h2 ih2 ⊢
      omega
     ·rw [if_neg h1]
      by_cases h0:0<x.kid k
      ·rw [if_pos h0];simp only [bo,Option.getD_some]at ih2 ⊢;omega
      ·rw [if_neg h0];omega
   have:=part 4 (WF _)
   rw [hvn,Zi,Z5]
   exact this
theorem SB_fourk {z:Int} {v w k:Nat} (h0:0≤z) (h:z≤4^v) (hv:v≤w) (hk:2*w<32*k):SB k z:=by
 have h1:=pow4_le hv
 have h2:z.natAbs≤2^(2*w):=by omega
 exact X6 h2 (pow32_lt hk)
theorem SB_four {z:Int} {v:Nat} (h0:0≤z) (h:z≤4^v) (hv:v≤1400):SB 100 z:=by
 exact SB_fourk (w:=1400) (k:=100) h0 h hv (by decide)
theorem q07_counts (L:List Nd) (tk:Tok) (H:Aa) (hL:L.length<549755813888) (hl:AP L=true):Sh.f3r (.sl (enL cNd L) tk) H=some (.ret (.sl (enL cBO (BB L)) .no),H):=by
 have hmk:=FG (f:=cBO) (a:=none) (n:=L.length+1) (bytes:=32) (H:=H) (by omega) (by omega)
 rw [show cBO none=[Ab.bool false,.sl [] .tight] from rfl]at hmk
 unfold Sh.f3r
 simp only [Av,BC,BX,Aw (show L.length<9223372036854775807 by omega),hmk,Bm]
 have key:=Cf (G:=fun rec1 vs H1=>Sh.f5p H rec1 (ag vs 0) (ag vs 1) (ag vs 2) H1) L.length (fun i=>[.sl (enL cNd L) tk,.ms H.length 0 0 (L.length+1) (L.length+1) 2 true,.int .i64 (i:Int)]) (fun i=>H++[.cel 0 (flat cBO (BB (L.take i)++List.replicate (L.length-i) none))]) (some (.ret (.sl (enL cBO (BB L)) .no),H)) (by omega) (fun rec i hi=>?_) (fun rec=>?_)
 ·have e:List.replicate (L.length+1) none=BB (L.take 0)++List.replicate (L.length-0) none:=by simp [List.replicate_succ,BB]
  rw [e];exact key
 ·have hi':(i:Int)<(L.length:Int):=by omega
  obtain ⟨l1,l2,l3⟩:=AO hl hi
  have hle:=SI hl i (by omega)
  have hle2:=(SI hl (i+1) (by omega) (i+1) (WF _))
  rw [IV L hi]at hle2
  have hEl:(BB (L.take i)).length=i+1:=by rw [HI];simp;omega
  unfold Sh.f5p
  simp only [Aj,AS,AY,Av,BC,Bf,hi',decide_true,AN]
  have hb:∀k,k<4→1<L[i].lv→(L[i].kid k).toNat≤i:=by
   intro k hk h1
   obtain ⟨q1,q2,q3⟩:=l3 k hk
   by_cases h0:0<L[i].kid k
   ·have:=(q3 h1 h0).1;omega
   ·omega
  have hset:∀a,(BB (L.take i)++List.replicate (L.length-i) none).set (i+1) a=BB (L.take i)++a::List.replicate (L.length-(i+1)) none:=by
   intro a
   rw [Xg _ _ (by omega),hEl,Xn,show L.length-i=(L.length-(i+1))+1 from by omega,List.replicate_succ,List.set_cons_zero]
  have hpart:∀k,k≤4→SB 100 (bo (C2 (BB (L.take i)) L[i] k)):=by
   intro k hk
   have mono:∀d,k+d≤4→bo (C2 (BB (L.take i)) L[i] k)≤bo (C2 (BB (L.take i)) L[i] (k+d)):=by
    intro d
    induction d with
    | zero=>intro _;exact Zt _
    | succ d ihd=>
     intro hd
     refine Int.le_trans (ihd (by omega)) ?_
     show _≤bo (C2 (BB (L.take i)) L[i] (k+d+1))
     rw [show C2 (BB (L.take i)) L[i] (k+d+1)=(if 1<L[i].lv then some (bo (C2 (BB (L.take i)) L[i] (k+d))+bo ((BB (L.take i)).getD (L[i].kid (k+d)).toNat none))else if 0<L[i].kid (k+d)then some (bo (C2 (BB (L.take i)) L[i] (k+d))+1)else C2 (BB (L.take i)) L[i] (k+d)) from rfl]
     by_cases h1:1<L[i].lv
     ·have:=(hle (L[i].kid (k+d)).toNat (hb (k+d) (by omega) h1)).1
      rw [if_pos h1];simp only [bo,Option.getD_some]at this ⊢;omega
     ·rw [if_neg h1]
      split
      ·simp only [bo,Option.getD_some];omega
      ·exact Zt _
   have nn:∀k,k≤4→0≤bo (C2 (BB (L.take i)) L[i] k):=by
    intro k
    induction k with
    | zero=>intro _;simp [C2,bo]
    | succ k ihk=>
     intro hk
     have ih2:=ihk (by omega)
     unfold C2
     by_cases h1:1<L[i].lv
     ·have:=(hle (L[i].kid k).toNat (hb k (by omega) h1)).1
      rw [if_pos h1];simp only [bo,Option.getD_some]at this ih2 ⊢;omega
     ·rw [if_neg h1]
      split
      ·simp only [bo,Option.getD_some]at ih2 ⊢;omega
      ·exact ih2
   have hg:(BB (L.take i)++[C2 (BB (L.take i)) L[i] 4]).getD (i+1) none=C2 (BB (L.take i)) L[i] 4:=by
    rw [WH,Xe (by omega),hEl];simp
   rw [hg]at hle2
   simp only [WB hi]at hle2
   have h5:=mono (4-k) (by omega)
   rw [show k+(4-k)=4 by omega]at h5
   exact SB_four (nn k hk) (Int.le_trans h5 hle2.2) (by omega)
  have hkidSB:∀k,k<4→1<L[i].lv→LB (bo ((BB (L.take i)).getD (L[i].kid k).toNat none)):=by
   intro k hk h1
   have h2:=hle (L[i].kid k).toNat (hb k hk h1)
   refine (SB_four h2.1 h2.2 ?_).lb (by omega)
   cases hq:(L[i].kid k).toNat with
   | zero=>simp
   | succ m=>
    simp only
    have hml:m<L.length:=by have:=hb k hk h1;omega
    rw [WB hml]
    have:=(AO hl hml).2.1
    simp only;omega
  have hgetE:∀(a:Option Int) (c:Nat),c≤i→(BB (L.take i)++a::List.replicate (L.length-(i+1)) none).getD c none=(BB (L.take i)).getD c none:=by
   intro a c hc
   simp only [WH]
   rw [WD (by omega)]
  have hfin:BB (L.take (i+1))++List.replicate (L.length-(i+1)) none=BB (L.take i)++C2 (BB (L.take i)) L[i] 4::List.replicate (L.length-(i+1)) none:=by rw [IV L hi];simp
  have hini:BB (L.take i)++List.replicate (L.length-i) none=BB (L.take i)++C2 (BB (L.take i)) L[i] 0::List.replicate (L.length-(i+1)) none:=by
   rw [show L.length-i=(L.length-(i+1))+1 from by omega,List.replicate_succ];rfl
  rw [hfin,hini]
  generalize hC:BB (L.take i)=C at *
  generalize hx:L[i]=x at *
  have hset2:∀a b:Option Int,(C++a::List.replicate (L.length-(i+1)) none).set (i+1) b=C++b::List.replicate (L.length-(i+1)) none:=by
   intro a b;rw [Xg _ _ (by omega),hEl,Xn,List.set_cons_zero]
  have hlenE:∀a:Option Int,(C++a::List.replicate (L.length-(i+1)) none).length=L.length+1:=by intro a;simp [hEl];omega
  have hgetI:∀a:Option Int,(C++a::List.replicate (L.length-(i+1)) none)[i+1]? = some a:=by
   intro a;rw [Xe (by omega),hEl];simp
  refine Cf (G:=fun rec2 vs H1=>Sh.f5o H rec rec2 (ag vs 0) (ag vs 1) (ag vs 2) (ag vs 3) H1) 4 (fun k=>[.sl (enL cNd L) tk,.ms H.length 0 0 (L.length+1) (L.length+1) 2 true,.int .i64 (i:Int),.int .i64 (k:Int)]) (fun k=>H++[.cel 0 (flat cBO (C++C2 C x k::List.replicate (L.length-(i+1)) none))]) _ (by decide) (fun rec2 k hk=>?_) (fun rec2=>?_)
  ·have hk':(k:Int)<4:=by omega
   have hwk:=Aw (show k<9223372036854775807 by omega)
   have hwi:=Aw (show i<9223372036854775807 by omega)
   obtain ⟨q1,q2,q3⟩:=l3 k hk
   have hb':=hb k hk
   have hsb:=(hpart k (by omega)).lb (by omega)
   have hgc:A1 (H++[.cel 0 (flat cBO (C++C2 C x k::List.replicate (L.length-(i+1)) none))]) H.length 0=some (flat cBO (C++C2 C x k::List.replicate (L.length-(i+1)) none)):=by simp
   have hidi:=Cy (sz:=2) (id:=H.length) (n:=L.length+1) (K:=.i64) (g:=0) (off:=0) (cap:=L.length+1) (ex:=true) (i:=i+1) (by omega)
   simp only [WE]at hidi
   have hldi:Ac true 2 (.ptr H.length 0 ((i+1)*2)) (H++[.cel 0 (flat cBO (C++C2 C x k::List.replicate (L.length-(i+1)) none))])=some (.agg (cBO (C2 C x k))):=by
    have h1:=P0 (f:=cBO) (sz:=2) hgc (i:=i+1) (by rw [hlenE];omega)
    rw [h1]
    have h2:=hgetI (C2 C x k)
    rw [WB (by rw [hlenE];omega)]at h2
    simp only [WK]at h2
    rw [h2]
   have hsti:∀z:Int,Ah 2 (.ptr H.length 0 ((i+1)*2)) (big z) (H++[.cel 0 (flat cBO (C++C2 C x k::List.replicate (L.length-(i+1)) none))])=some (H++[.cel 0 (flat cBO (C++some z::List.replicate (L.length-(i+1)) none))]):=by
    intro z
    have h1:=DV (f:=cBO) (sz:=2) (a:=some z) (v:=big z) hgc (i:=i+1) (by rw [hlenE];omega) (acells_BO z)
    rw [h1,hset2,Qm,Ql]
   have hcs:C2 C x (k+1)=if 1<x.lv then some (bo (C2 C x k)+bo (C.getD (x.kid k).toNat none))else if 0<x.kid k then some (bo (C2 C x k)+1)else C2 C x k:=rfl
   rw [hcs]
   have hof1:∀H,Sh.fd (.int .i64 1) H=some (.ret (big 1),H):=fun H=>q02_of 1 H (by omega) (by omega)
   unfold Sh.f5o
   simp only [GMb,GMc,hk',Ax hi,hx,Ap,DJ hk,A7,WE,WQ,Dt hk,BI,hwi,hidi,hldi]
   by_cases h1:1<x.lv
   ·have hcn:=hb' h1
    obtain ⟨c,hc⟩:=X9 q1
    rw [hc]at hcn ⊢
    simp only [Int.toNat_natCast]at hcn ⊢
    have hidc:=Cy (sz:=2) (id:=H.length) (n:=L.length+1) (K:=.i64) (g:=0) (off:=0) (cap:=L.length+1) (ex:=true) (i:=c) (by omega)
    simp only [WE]at hidc
    have hldc:Ac true 2 (.ptr H.length 0 (c*2)) (H++[.cel 0 (flat cBO (C++C2 C x k::List.replicate (L.length-(i+1)) none))])=some (.agg (cBO (C.getD c none))):=by
     have h2:=P0 (f:=cBO) (sz:=2) hgc (i:=c) (by rw [hlenE];omega)
     rw [h2]
     have h3:=hgetE (C2 C x k) c hcn
     rw [WH,WB (by rw [hlenE];omega),Option.getD_some]at h3
     rw [h3]
    have hkSB:=hkidSB k hk h1
    rw [hc,Int.toNat_natCast]at hkSB
    have hadd:=fun H=>addO (C2 C x k) (C.getD c none) H hsb hkSB
    simp only [h1,if_true,GMb,GMc,gt_iff_lt,hwi,hidi,hldi,hidc,hldc,hadd,hsti,Sh.f5n,hwk,Ai]
   ·by_cases h0:0<x.kid k
    ·have hadd:=fun H=>addO (C2 C x k) (some 1) H hsb LB_one
     simp only [h1,h0,if_false,if_true,GMb,GMc,gt_iff_lt,hof1,hwi,hidi,hldi,eq_self,and_true,big_BO,hadd,Sh.f5n,hwk,Ai]
     simp only [←big_BO,hsti,GMb,GMc,Ai,hwk]
     rfl
    ·simp only [h1,h0,if_false,GMb,GMc,gt_iff_lt,Sh.f5n,hwk,Ai]
  ·have hf:¬(((4:Nat):Int)<4):=by decide
   unfold Sh.f5o
   simp only [Aj,AS,AY,Bo,B6,BC,Bf,hf,decide_false,AI,BX,Aw (show i<9223372036854775807 by omega)]
 ·unfold Sh.f5p
  have hgc:A1 (H++[.cel 0 (flat cBO (BB L))]) H.length 0=some (flat cBO (BB L)):=by simp
  have hfa:=SD (f:=cBO) (b:=H.length) (d:=5) (cap:=L.length+1) (ex:=true) hgc (WF _)
  rw [HI]at hfa
  have ht:L.take L.length=L:=WN (WF _)
  simp only [Aj,AS,AY,Av,BC,Bf,XA,decide_false,AI,ht,Xn,List.replicate_zero,Xl,Ct,hfa,Option.map_some]
def HH (L:List Nd):Int:=bo ((BB L).getD L.length none)
theorem q07_count (L:List Nd) (H:Aa) (hL:L.length<549755813888) (hl:AP L=true):Sh.f3s (Gg L) H=some (.ret (big (HH L)),H):=by
 unfold Sh.f3s
 have e3:(H++[Blk.cel 0 (Cq L)]++[Blk.cel 0 (cBO none)])[H.length]? = some (.cel 0 (Cq L)):=by simp
 have halloc:∀Hc,A3 (some [.bool false,.sl [] .tight]) Hc=some (.ptr Hc.length 0 0,Hc++[.cel 0 (cBO none)]):=fun Hc=>Cw Hc
 have hcs:=fun H=>q07_counts L .no H hL hl
 have hlt:L.length<(BB L).length:=by rw [HI];omega
 have hst:∀(B:Aa) (a:Option Int),Ah 2 (.ptr B.length 0 0) (.agg (cBO a)) (B++[Blk.cel 0 (cBO none)])=some (B++[Blk.cel 0 (cBO a)]):=fun B a=>by rw [Nc Ar rfl,Bv]
 have hldB:∀(B:Aa) (a:Option Int),Ac true 2 (.ptr B.length 0 0) (B++[Blk.cel 0 (cBO a)])=some (.agg (cBO a)):=fun B a=>Fi Ar
 have hcp:∀(a:Option Int) (H:Aa),Ac true 2 (.cptr (cBO a) 0) H=some (.agg (cBO a)):=fun a H=>by cases a <;> rfl
 simp only [GMb,GMc,boxQ,halloc,Ag,WE,Nat.add_zero,CZ e3,hcs,and_true,eq_self,Av,Ax hlt,hcp,hst,hldB]
 have hc:(BB L)[L.length]=(BB L).getD L.length none:=by rw [WH,WB hlt];rfl
 rw [hc,WG,Ct]
 unfold HH
 have hSB:bo ((BB L).getD L.length none)=bo ((BB L).getD L.length none):=rfl
 generalize (BB L).getD L.length none=o
 cases o with
 | none=>simp [cBO,bo,big,AD,CW,enL]
 | some z=>
  simp [cBO,bo,big,AD]
  rfl
def D4 (rec:Int→Int→Int→List Cl) (v:Nat) (x:Nd) (a b:Int) (k:Nat):List Cl:=
 if 1<x.lv then rec (x.kid k) (qa v a k) (qb v b k)else if 0<x.kid k then [⟨qa v a k,qb v b k,UInt8.ofNat (x.kid k).toNat⟩]else []
def Ca (L:List Nd):Nat→Int→Int→Int→List Cl
 | 0,_,_,_=>[]
 | v+1,n,x,y=>if n=0 then []else (List.range 4).flatMap fun k=>D4 (Ca L v) (v+1) (Bb L n) x y k
theorem M9 (L:List Nd) (v:Nat) (x y:Int):Ca L v 0 x y=[]:=by cases v <;> simp [Ca]
theorem RS.app {α:Type} {f:α→List Ab} {ty:TypeId} {sz:Nat} [hf:Sz f sz] {bytes b:Nat} {out:List α} {v:Ab} {H:Aa} (h:RS f ty sz b out v H) (hb:b≤H.length) (m:List α) (tk:Tok) (hl:(out.length+m.length)*bytes≤140737488355328) (hl2:out.length+m.length≤140737488355328) :
  ∃v' H',AW ty sz bytes v (.sl (enL f m) tk) H=some (v',H')∧RS f ty sz b (out++m) v' H'∧Kp b H H':=by
 by_cases hm:m=[]
 ·subst hm
  have hx:(BK sz v H).isSome=true:=by
   obtain ⟨tk',rfl⟩:=h.sl
   rw [M2];rfl
  refine ⟨v,H,D7 hx,by rw [Xl];exact h,Kp.refl _ _⟩
 ·rcases h with ⟨rfl,rfl⟩ | ⟨t,h1,rfl,h3⟩
  ·have:=CA (f:=f) (l:=[]) (m:=m) (ty:=ty) (bytes:=bytes) (tk:=tk) (H:=H) hm (by simpa using hl) (by simpa using hl2)
   exact ⟨_,_,this,.inr ⟨H.length,hb,rfl,by simp⟩,Kp.app hb _⟩
  ·have:=EC (f:=f) (l:=out) (m:=m) (ty:=ty) (bytes:=bytes) (tk:=tk) (H:=H) (t:=t) hm h3 hl hl2
   have htl:=(WC.1 h3).1
   refine ⟨_,_,this,.inr ⟨t,h1,rfl,by simp [htl]⟩,⟨by simp,fun i cs hc=>?_,fun i hi=>?_⟩⟩
   ·have:t≠i:=fun e=>by rw [←e,h3]at hc;cases hc
    rw [WI this];exact hc
   ·rw [WI (by omega)]
theorem sb_k {x:Int} {v k m:Nat} (h:x.natAbs+2^v≤2^k) (hk:k≤32*m):SB m x:=by
 have h1:0<2^v:=Yx (by omega)
 have h2:x.natAbs<2^k:=by omega
 exact X5 h2 (pow32_le hk)
theorem Ni {x:Int} {v:Nat} (h:x.natAbs+2^v≤2^1340):SB 42 x:=sb_k (k:=1340) h (by decide)
theorem qa_abs {x:Int} {u k:Nat} (h:x.natAbs+2^(u+1)≤2^1340):(qa (u+1) x k).natAbs+2^u≤2^1340:=by
 have h2:x.natAbs+2^u*2≤2^1340:=by rw [←Nat.pow_succ];exact h
 obtain ⟨q,hq⟩:∃q:Nat,q=2^1340:=⟨_,rfl⟩
 rw [←hq]at h2 ⊢
 clear hq h
 unfold qa
 rw [Xi]
 have e:((2:Int)^u)=((2^u:Nat):Int):=by push_cast;rfl
 rw [e]
 generalize 2^u=p at *
 split <;> omega
theorem qb_abs {x:Int} {u k:Nat} (h:x.natAbs+2^(u+1)≤2^1340):(qb (u+1) x k).natAbs+2^u≤2^1340:=by
 have h2:x.natAbs+2^u*2≤2^1340:=by rw [←Nat.pow_succ];exact h
 obtain ⟨q,hq⟩:∃q:Nat,q=2^1340:=⟨_,rfl⟩
 rw [←hq]at h2 ⊢
 clear hq h
 unfold qb
 rw [Xi]
 have e:((2:Int)^u)=((2^u:Nat):Int):=by push_cast;rfl
 rw [e]
 generalize 2^u=p at *
 split <;> omega
abbrev zBig:List Ab:=[.bool false,.sl [] .tight]
theorem two_a {Hd:Aa} {A B:List Ab} {z:Int} (hA:A.length=2):Ah 2 (.ptr Hd.length 0 0) (big z) (Hd++[.cel 0 A]++[.cel 0 B])=some (Hd++[.cel 0 (AD z)]++[.cel 0 B]):=by
 rw [Dk (cs:=A) (by simp) hA];simp
theorem two_b {Hd:Aa} {A B:List Ab} {z:Int} (hB:B.length=2):Ah 2 (.ptr (Hd.length+1) 0 0) (big z) (Hd++[.cel 0 A]++[.cel 0 B])=some (Hd++[.cel 0 A]++[.cel 0 (AD z)]):=by
 rw [Dk (cs:=B) (by simp) hB]
 have:Hd.length+1=(Hd++[Blk.cel 0 A]).length:=by simp
 rw [this,Bv]
theorem build_cell (a b:Int) (c:Int) (h0:0<c) (h1:c≤255):AB (some [(.bool false),(.sl [] .tight),(.bool false),(.sl [] .tight),(.int .u8 0)]) [(0,2,big a),(2,2,big b),(4,1,.int .u8 c)]=some (.agg (cCl ⟨a,b,UInt8.ofNat c.toNat⟩)):=by
 have e:((UInt8.ofNat c.toNat).toNat:Int)=c:=by rw [u8_nat (by omega)];omega
 unfold cCl
 simp only [e]
 simp [AB,Gj,D9,big,AD,Ab.acells]
theorem list_turn {L:List Nd} {tk:Tok} {H Hd:Aa} {self:Ab→Ab→Ab→Ab→Aa→Out} {n u k p5 p7 p17:Nat} {x y:Int} {out:List Cl} {vo:Ab} (hL:L.length<549755813888) (hl:AP L=true) (hn0:0<n) (hn:n≤L.length) (hv:(Bb L n).lv=((u+1:Nat):Int))
  (hk:k<4) (hu:u+1≤1329) (hx:x.natAbs+2^(u+1)≤2^1340) (hy:y.natAbs+2^(u+1)≤2^1340) (b5:H.length≤p5) (b7:H.length≤p7) (b17:H.length≤p17)
  (f5:Hd[p5]? = some (.cel 0 (AD x))) (f7:Hd[p7]? = some (.cel 0 (AD y))) (f17:Hd[p17]? = some (.cel 0 (AD (2^u)))) (hR:RS cCl A6 5 H.length out vo Hd) (hold:∀i,i<H.length→Hd[i]? = H[i]?) (hlen:H.length≤Hd.length)
  (hs:∀(c:Int) (a b:Int) (H1:Aa),c=(Bb L n).kid k→0<u→a=qa (u+1) x k→b=qb (u+1) y k→self (.sl (enL cNd L) tk) (.int .i64 c) (big a) (big b) H1=some (.ret (.sl (enL cCl (Ca L u c a b)) .no),H1))
  (hcnt:out.length+(D4 (Ca L u) (u+1) (Bb L n) x y k).length≤1000000000000) :
  ∃v' H',RS cCl A6 5 H.length (out++D4 (Ca L u) (u+1) (Bb L n) x y k) v' H'∧H'[p5]? = some (.cel 0 (AD x))∧H'[p7]? = some (.cel 0 (AD y))∧H'[p17]? = some (.cel 0 (AD (2^u)))∧(∀i,i<H.length→H'[i]? = H[i]?)∧H.length≤H'.length ∧
   ∀rec:LK,Sh.f4k H self rec (.sl (enL cNd L) tk) (.int .i64 (n:Int)) (.ptr p5 0 0) (.ptr p7 0 0) (.ptr p17 0 0) vo (.int .i64 (k:Int)) Hd=rec [.sl (enL cNd L) tk,.int .i64 (n:Int),.ptr p5 0 0,.ptr p7 0 0,.ptr p17 0 0,v',.int .i64 ((k+1:Nat):Int)] H':=by
 have hk':(k:Int)<4:=by omega
 have hwk:=Aw (show k<9223372036854775807 by omega)
 have hwn:=I6 hn0 (show n<9223372036854775807 by omega)
 have hni:n-1<L.length:=by omega
 have hnd:Bb L (n:Int)=L[n-1]:=El (by omega) hni
 have sx:=Ni hx
 have sy:=Ni hy
 have sa:=Ni (qa_abs (k:=k) hx)
 have sb:=Ni (qb_abs (k:=k) hy)
 have sp:LB (2^u):=LB_pow u (by omega)
 obtain ⟨l1,l2,l3⟩:=AO hl hni
 obtain ⟨q1,q2,q3⟩:=l3 k hk
 rw [hnd]at hv hs hcnt ⊢
 have rest:∀a b:Int,a=qa (u+1) x k→b=qb (u+1) y k→∃v' H',RS cCl A6 5 H.length (out++D4 (Ca L u) (u+1) L[n-1] x y k) v' H'∧H'[p5]? = some (.cel 0 (AD x))∧H'[p7]? = some (.cel 0 (AD y))∧H'[p17]? = some (.cel 0 (AD (2^u)))∧(∀i,i<H.length→H'[i]? = H[i]?)∧H.length≤H'.length ∧
   ∀rec:LK,Sh.f4j H self (fun vs H1=>Sh.f3t H rec (ag vs 0) (ag vs 1) (ag vs 2) (ag vs 3) (ag vs 4) (ag vs 5) (ag vs 6) H1) (.sl (enL cNd L) tk) (.int .i64 (n:Int)) (.ptr p5 0 0) (.ptr p7 0 0) (.ptr p17 0 0) vo (.int .i64 (k:Int)) (.ptr Hd.length 0 0) (.ptr (Hd.length+1) 0 0) (Hd++[.cel 0 (AD a)]++[.cel 0 (AD b)])=rec [.sl (enL cNd L) tk,.int .i64 (n:Int),.ptr p5 0 0,.ptr p7 0 0,.ptr p17 0 0,v',.int .i64 ((k+1:Nat):Int)] H':=by
  intro a b ha hb
  have la:Ac true 2 (.ptr Hd.length 0 0) (Hd++[.cel 0 (AD a)]++[.cel 0 (AD b)])=some (big a):=Cx (by simp)
  have lb:Ac true 2 (.ptr (Hd.length+1) 0 0) (Hd++[.cel 0 (AD a)]++[.cel 0 (AD b)])=some (big b):=Cx (by simp)
  have hR':RS cCl A6 5 H.length out vo (Hd++[.cel 0 (AD a)]++[.cel 0 (AD b)]):=(hR.left _).left _
  have hkp:Kp H.length Hd (Hd++[.cel 0 (AD a)]++[.cel 0 (AD b)]):=(Kp.app hlen _).trans (Kp.app (by simp;omega) _)
  generalize Hd++[Blk.cel 0 (AD a)]++[Blk.cel 0 (AD b)]=He at la lb hR' hkp
  have hHe:H.length≤He.length:=Xh hlen hkp.len
  by_cases h1:1<L[n-1].lv
  ·have hu0:0<u:=by omega
   have hself:=hs (L[n-1].kid k) a b He rfl hu0 ha hb
   have hck:D4 (Ca L u) (u+1) L[n-1] x y k=Ca L u (L[n-1].kid k) a b:=by unfold D4;rw [if_pos h1,ha,hb]
   rw [hck]at hcnt ⊢
   obtain ⟨v',H',a1,a2,a3⟩:=hR'.app (bytes:=72) hHe (Ca L u (L[n-1].kid k) a b) .no (by omega) (by omega)
   refine ⟨v',H',a2,(hkp.trans a3).get f5,(hkp.trans a3).get f7,(hkp.trans a3).get f17,fun i hi=>by rw [(hkp.trans a3).old i hi];exact hold i hi,Xh hHe a3.len,fun rec=>?_⟩
   unfold Sh.f4j
   simp only [GMb,GMc,hwn,Ax hni,Ap,DJ hk,A7,WE,WQ,Dt hk,BI,h1,gt_iff_lt,la,lb,hself,a1,Ai,Sh.f3t,hwk]
  ·have hu0:u=0:=by omega
   by_cases h0:0<L[n-1].kid k
   ·have h255:=q2 (by omega)
    have hck:D4 (Ca L u) (u+1) L[n-1] x y k=[⟨a,b,UInt8.ofNat (L[n-1].kid k).toNat⟩]:=by unfold D4;rw [if_neg h1,if_pos h0,ha,hb]
    rw [hck]at hcnt ⊢
    simp only [List.length_singleton]at hcnt
    obtain ⟨v',H',a1,a2,a3⟩:=hR'.app (bytes:=72) hHe [⟨a,b,UInt8.ofNat (L[n-1].kid k).toNat⟩] .tight (by simp only [List.length_singleton];omega) (by simp only [List.length_singleton];omega)
    have hcv:A9 .u8 (.int .i64 (L[n-1].kid k))=some (.int .u8 (L[n-1].kid k)):=by rw [By,Sr q1 (by omega)]
    have hbc:=build_cell a b (L[n-1].kid k) h0 h255
    refine ⟨v',H',a2,(hkp.trans a3).get f5,(hkp.trans a3).get f7,(hkp.trans a3).get f17,fun i hi=>by rw [(hkp.trans a3).old i hi];exact hold i hi,Xh hHe a3.len,fun rec=>?_⟩
    unfold Sh.f4j
    simp only [GMb,GMc,hwn,Ax hni,Ap,DJ hk,A7,WE,WQ,Dt hk,BI,h1,h0,gt_iff_lt,la,lb,hcv,hbc,PY,a1,Ai,Sh.f3t,hwk]
   ·have hck:D4 (Ca L u) (u+1) L[n-1] x y k=[]:=by unfold D4;rw [if_neg h1,if_neg h0]
    rw [hck,Xl]
    refine ⟨vo,He,hR',hkp.get f5,hkp.get f7,hkp.get f17,fun i hi=>by rw [hkp.old i hi];exact hold i hi,hHe,fun rec=>?_⟩
    unfold Sh.f4j
    simp only [GMb,GMc,hwn,Ax hni,Ap,DJ hk,A7,WE,WQ,Dt hk,BI,h1,h0,gt_iff_lt,la,lb,Ai,Sh.f3t,hwk]
 have al1:=Cw Hd
 have al2:∀A,A3 (some [.bool false,.sl [] .tight]) (Hd++[.cel 0 A])=some (.ptr (Hd.length+1) 0 0,Hd++[.cel 0 A]++[.cel 0 zBig]):=fun A=>by rw [Cw];simp
 have lx:∀G,Ac true 2 (.ptr p5 0 0) (Hd++G)=some (big x):=fun G=>Cx (AE f5)
 have ly:∀G,Ac true 2 (.ptr p7 0 0) (Hd++G)=some (big y):=fun G=>Cx (AE f7)
 have lh:∀G,Ac true 2 (.ptr p17 0 0) (Hd++G)=some (big (2^u)):=fun G=>Cx (AE f17)
 have lx2:∀G G',Ac true 2 (.ptr p5 0 0) (Hd++G++G')=some (big x):=fun G G'=>by rw [WG];exact lx _
 have ly2:∀G G',Ac true 2 (.ptr p7 0 0) (Hd++G++G')=some (big y):=fun G G'=>by rw [WG];exact ly _
 have lh2:∀G G',Ac true 2 (.ptr p17 0 0) (Hd++G++G')=some (big (2^u)):=fun G G'=>by rw [WG];exact lh _
 have lx0:Ac true 2 (.ptr p5 0 0) Hd=some (big x):=Cx f5
 have ly0:Ac true 2 (.ptr p7 0 0) Hd=some (big y):=Cx f7
 have addx:=fun H=>Tt x (2^u) H (sx.lb (by omega)) sp
 have addy:=fun H=>Tt y (2^u) H (sy.lb (by omega)) sp
 have hrem:(k:Int).tmod 2=((k%2:Nat):Int):=rfl
 have hmod:decide (((k%2:Nat):Int)=1)=decide (k%2=1):=by rw [WW];simp only [decide_eq_true_eq];omega
 have hgt:decide ((k:Int)>1)=decide (1<k):=by rw [WW];simp only [decide_eq_true_eq];omega
 have zl:zBig.length=2:=rfl
 have bl:∀z:Int,(AD z).length=2:=fun z=>rfl
 obtain ⟨v',H',r1,r2,r3,r4,r5,r6,r7⟩:=rest (qa (u+1) x k) (qb (u+1) y k) rfl rfl
 refine ⟨v',H',r1,r2,r3,r4,r5,r6,fun rec=>?_⟩
 have s1:∀z,Ah 2 (.ptr Hd.length 0 0) (big z) (Hd++[.cel 0 zBig]++[.cel 0 zBig])=some (Hd++[.cel 0 (AD z)]++[.cel 0 zBig]):=fun z=>two_a zl
 have s2:∀z A,Ah 2 (.ptr (Hd.length+1) 0 0) (big z) (Hd++[.cel 0 A]++[.cel 0 zBig])=some (Hd++[.cel 0 A]++[.cel 0 (AD z)]):=fun z A=>two_b zl
 have s3:∀z z' B,Ah 2 (.ptr Hd.length 0 0) (big z) (Hd++[.cel 0 (AD z')]++[.cel 0 B])=some (Hd++[.cel 0 (AD z)]++[.cel 0 B]):=fun z z' B=>two_a (bl z')
 have s4:∀z z' A,Ah 2 (.ptr (Hd.length+1) 0 0) (big z) (Hd++[.cel 0 A]++[.cel 0 (AD z')])=some (Hd++[.cel 0 A]++[.cel 0 (AD z)]):=fun z z' A=>two_b (bl z')
 have j3:∀a:Int,a=qa (u+1) x k→Sh.f6m H self (fun vs H1=>Sh.f3t H rec (ag vs 0) (ag vs 1) (ag vs 2) (ag vs 3) (ag vs 4) (ag vs 5) (ag vs 6) H1) (.sl (enL cNd L) tk) (.int .i64 (n:Int)) (.ptr p5 0 0) (.ptr p7 0 0) (.ptr p17 0 0) vo (.int .i64 (k:Int)) (.ptr Hd.length 0 0) (.ptr (Hd.length+1) 0 0) (Hd++[.cel 0 (AD a)]++[.cel 0 (AD y)])=rec [.sl (enL cNd L) tk,.int .i64 (n:Int),.ptr p5 0 0,.ptr p7 0 0,.ptr p17 0 0,v',.int .i64 ((k+1:Nat):Int)] H':=by
  intro a ha
  subst ha
  unfold Sh.f6m
  have hqb:qb (u+1) y k=if 1<k then y+2^u else y:=by unfold qb;rw [Xi]
  have r7':=r7 rec
  rw [hqb]at r7'
  by_cases hk1:1<k
  ·rw [if_pos hk1]at r7'
   simp only [GMb,GMc,hgt,hk1,ly2,lh2,addy,s4,Ai]
   exact r7'
  ·rw [if_neg hk1]at r7'
   simp only [GMb,GMc,hgt,hk1,Ai]
   exact r7'
 have hqa:qa (u+1) x k=if k%2=1 then x+2^u else x:=by unfold qa;rw [Xi]
 rw [hqa]at j3
 unfold Sh.f4k
 simp only [GMb,GMc,hk',al1,al2,lx0,ly0,lx2,ly2,s1,s2,and_true,eq_self,In (show (2:Int)≠0 by decide),hrem,hmod,Ai]
 by_cases hk2:k%2=1
 ·rw [if_pos hk2]at j3
  simp only [GMb,GMc,hk2,lx2,lh2,addx,s3,Ai]
  exact j3 _ rfl
 ·rw [if_neg hk2]at j3
  simp only [GMb,GMc,hk2,Ai]
  exact j3 _ rfl
theorem q07_listN {L:List Nd} {tk:Tok} (hL:L.length<549755813888) (hl:AP L=true):∀(v n:Nat) (x y:Int) (d:Nat) (H:Aa),Lv L v n→v≤d→v≤1329→x.natAbs+2^v≤2^1340→y.natAbs+2^v≤2^1340→(Ca L v n x y).length≤1000000000000 →
  Sh.fj (d+1) (.sl (enL cNd L) tk) (.int .i64 (n:Int)) (big x) (big y) H=some (.ret (.sl (enL cCl (Ca L v n x y)) .no),H):=by
 intro v
 induction v with
 | zero=>
  intro n x y d H hLv _ _ _ _ _
  have hn:n=0:=by
   rcases Yc n with h | h
   ·exact h
   ·have:=(hLv.num h hl).2;omega
  subst hn
  show Sh.f4l (Sh.fj d) _ _ _ _ H=_
  unfold Sh.f4l
  simp only [GMb,GMc,D6,Int.natCast_zero,M9,Fw]
  rw [WG,Ct]
  simp only [Fu,Option.map_some]
 | succ u ih=>
  intro n x y d H hLv hd hv hx hy hlen
  show Sh.f4l (Sh.fj d) _ _ _ _ H=_
  unfold Sh.f4l
  by_cases hn:n=0
  ·subst hn
   simp only [GMb,GMc,D6,Int.natCast_zero,M9,Fw]
   rw [WG,Ct]
   simp only [Fu,Option.map_some]
  ·have hn0:0<n:=by omega
   have hn':¬(n:Int)=0:=by omega
   have hnL:=hLv.1
   have hni:n-1<L.length:=by omega
   have hnd:Bb L (n:Int)=L[n-1]:=El (by omega) hni
   obtain ⟨hlv,_⟩:=hLv.num hn0 hl
   have hwn:=I6 hn0 (show n<9223372036854775807 by omega)
   have hlv2:L[n-1].lv=((u+1:Nat):Int):=by rw [←hnd];exact hlv
   have hwl:IntKind.i64.wrap (((u+1:Nat):Int)-1)=((u:Nat):Int):=by rw [Al] <;> omega
   have hpow:=fun H=>Pp u H (by omega)
   have hcells:Ca L (u+1) n x y=(List.range 4).flatMap fun k=>D4 (Ca L u) (u+1) (Bb L n) x y k:=by
    show (if (n:Int)=0 then _ else _)=_
    rw [if_neg hn']
   have h5:(H++[Blk.cel 0 (AD x)]++[Blk.cel 0 (AD y)]++[Blk.cel 0 (AD (2^u))])[H.length]? = some (.cel 0 (AD x)):=by simp
   have h7:(H++[Blk.cel 0 (AD x)]++[Blk.cel 0 (AD y)]++[Blk.cel 0 (AD (2^u))])[(H++[Blk.cel 0 (AD x)]).length]? = some (.cel 0 (AD y)):=AE Ar
   have h17:(H++[Blk.cel 0 (AD x)]++[Blk.cel 0 (AD y)]++[Blk.cel 0 (AD (2^u))])[(H++[Blk.cel 0 (AD x)]++[Blk.cel 0 (AD y)]).length]? = some (.cel 0 (AD (2^u))):=Ar
   have hst:Ah 2 (.ptr (H++[Blk.cel 0 (AD x)]++[Blk.cel 0 (AD y)]).length 0 0) (big (2^u)) (H++[Blk.cel 0 (AD x)]++[Blk.cel 0 (AD y)]++[Blk.cel 0 zBig])=some (H++[Blk.cel 0 (AD x)]++[Blk.cel 0 (AD y)]++[Blk.cel 0 (AD (2^u))]):=by
    rw [Dk Ar rfl,Bv]
   have hold:∀i,i<H.length→(H++[Blk.cel 0 (AD x)]++[Blk.cel 0 (AD y)]++[Blk.cel 0 (AD (2^u))])[i]? = H[i]? := fun i hi=>by rw [WG,WG,WD hi]
   have hlen0:H.length≤(H++[Blk.cel 0 (AD x)]++[Blk.cel 0 (AD y)]++[Blk.cel 0 (AD (2^u))]).length:=by simp
   simp only [GMb,GMc,D6,hn',hwn,Ax hni,Ap,A7,WE,BI,hlv2,hwl,hpow,Cw,hst]
   have b7:H.length≤(H++[Blk.cel 0 (AD x)]).length:=by simp
   have b17:H.length≤(H++[Blk.cel 0 (AD x)]++[Blk.cel 0 (AD y)]).length:=by simp
   generalize (H++[Blk.cel 0 (AD x)]++[Blk.cel 0 (AD y)]).length=p17 at *
   generalize (H++[Blk.cel 0 (AD x)]).length=p7 at *
   generalize H++[Blk.cel 0 (AD x)]++[Blk.cel 0 (AD y)]++[Blk.cel 0 (AD (2^u))]=Hc at *
   obtain ⟨d',rfl⟩:∃d',d=d'+1:=⟨d-1,by omega⟩
   have hpre:∀k,k≤4→((List.range k).flatMap fun k=>D4 (Ca L u) (u+1) (Bb L n) x y k).length≤(Ca L (u+1) n x y).length:=by
    intro k hk
    rw [hcells,show (4:Nat)=k+(4-k)by omega,List.range_add,Ya,WJ]
    omega
   have loop:=HC (G:=fun rec1 vs H1=>Sh.f4k H (Sh.fj (d'+1)) rec1 (ag vs 0) (ag vs 1) (ag vs 2) (ag vs 3) (ag vs 4) (ag vs 5) (ag vs 6) H1) 4
    (fun k vs Hd=>∃vo,vs=[.sl (enL cNd L) tk,.int .i64 (n:Int),.ptr H.length 0 0,.ptr p7 0 0,.ptr p17 0 0,vo,.int .i64 (k:Int)]∧RS cCl A6 5 H.length ((List.range k).flatMap fun k=>D4 (Ca L u) (u+1) (Bb L n) x y k) vo Hd∧Hd[H.length]? = some (.cel 0 (AD x))∧Hd[p7]? = some (.cel 0 (AD y))∧Hd[p17]? = some (.cel 0 (AD (2^u)))∧(∀i,i<H.length→Hd[i]? = H[i]?)∧H.length≤Hd.length)
    (by decide) (fun k vs Hd hk hI=>?_) (vs:=[.sl (enL cNd L) tk,.int .i64 (n:Int),.ptr H.length 0 0,.ptr p7 0 0,.ptr p17 0 0,.sl [] .tight,.int .i64 0]) (H:=Hc) ⟨_,rfl,.inl ⟨rfl,rfl⟩,h5,h7,h17,hold,hlen0⟩
   ·obtain ⟨vs',Hd,⟨vo,rfl,gR,_,_,_,go,gl⟩,rec,hloop⟩:=loop
    rw [hloop]
    obtain ⟨tk2,rfl⟩:=gR.sl
    have hf:¬(((4:Nat):Int)<4):=by decide
    unfold Sh.f4k
    simp only [Aj,Ai,Bf,BC,hf,decide_false,AI,Hx (CB go),Fu,Option.map_some]
    rw [hcells]
   ·obtain ⟨vo,rfl,gR,g5,g7,g17,go,gl⟩:=hI
    have hck:=hpre (k+1) (by omega)
    rw [Yu,Ya,WJ,Zh]at hck
    obtain ⟨v',H',a1,a2,a3,a4,a5,a6,a7⟩:=list_turn (self:=Sh.fj (d'+1)) hL hl hn0 hnL hlv hk hv hx hy (WF _) b7 b17 g5 g7 g17 gR go gl (fun c a b H1 hc hu0 ha hb=>by
     subst hc
     have h1:1<(Bb L n).lv:=by rw [hlv];omega
     obtain ⟨e1,e2,e3⟩:=hLv.kid hl hn0 h1 hk
     obtain ⟨m,hm⟩:=X9 e3
     rw [hm]at e1 ⊢
     rw [Int.toNat_natCast]at e1
     refine ih m a b d' H1 e1 (by omega) (by omega) (by rw [ha];exact qa_abs hx) (by rw [hb];exact qb_abs hy) ?_
     have h2:D4 (Ca L u) (u+1) (Bb L n) x y k=Ca L u m a b:=by unfold D4;rw [if_pos h1,ha,hb,hm]
     rw [←h2];omega) (by omega)
    refine ⟨_,H',⟨v',rfl,?_,a2,a3,a4,a5,a6⟩,fun rec=>?_⟩
    ·rw [Yu,Ya,Zh];exact a1
    ·exact a7 rec
theorem PM (L:List Nd):∀(d i:Nat),i+d=L.length→∀j,j≤i→(BB (L.take i)).getD j none=(BB L).getD j none
 | 0,i,h,j,hj=>by rw [WN (by omega)]
 | d+1,i,h,j,hj=>by
  rw [←PM L d (i+1) (by omega) j (by omega),IV L (show i<L.length by omega)]
  have hlen:(BB (L.take i)).length=i+1:=by rw [HI];simp;omega
  simp only [WH]
  rw [WD (by omega)]
theorem U3 {E E':List (Option Int)} {x:Nd} (h:∀k,k<4→1<x.lv→E.getD (x.kid k).toNat none=E'.getD (x.kid k).toNat none):∀j,j≤4→C2 E x j=C2 E' x j
 | 0,_=>rfl
 | j+1,hj=>by
  have ih:=U3 h j (by omega)
  unfold C2
  by_cases h1:1<x.lv
  ·rw [if_pos h1,if_pos h1,ih,h j (by omega) h1]
  ·rw [if_neg h1,if_neg h1,ih]
theorem cntL_get {L:List Nd} (hl:AP L=true) {m:Nat} (hm:m<L.length):(BB L).getD (m+1) none=C2 (BB L) L[m] 4:=by
 have hlen:(BB (L.take m)).length=m+1:=by rw [HI];simp;omega
 obtain ⟨l1,l2,l3⟩:=AO hl hm
 rw [←PM L (L.length-(m+1)) (m+1) (by omega) (m+1) (WF _),IV L hm]
 have hg:(BB (L.take m)++[C2 (BB (L.take m)) L[m] 4]).getD (m+1) none=C2 (BB (L.take m)) L[m] 4:=by
  rw [WH,Xe (by omega),hlen];simp
 rw [hg]
 refine U3 (fun k hk h1=>?_) 4 (WF _)
 obtain ⟨q1,q2,q3⟩:=l3 k hk
 have:(L[m].kid k).toNat≤m:=by
  by_cases h0:0<L[m].kid k
  ·have:=(q3 h1 h0).1;omega
  ·omega
 exact PM L (L.length-m) m (by omega) _ this
theorem Wx (L:List Nd):(BB L).getD 0 none=none:=by
 rw [←PM L L.length 0 (by omega) 0 (WF _)];rfl
theorem cellsN_len {L:List Nd} (hl:AP L=true):∀(v n:Nat) (x y:Int),Lv L v n→((Ca L v n x y).length:Int)=bo ((BB L).getD n none):=by
 intro v
 induction v with
 | zero=>
  intro n x y hLv
  have hn:n=0:=by
   rcases Yc n with h | h
   ·exact h
   ·have:=(hLv.num h hl).2;omega
  subst hn
  rw [Wx];rfl
 | succ u ih=>
  intro n x y hLv
  by_cases hn:n=0
  ·subst hn
   rw [Wx]
   rw [show ((0:Nat):Int)=0 from rfl,M9];rfl
  ·have hn0:0<n:=by omega
   have hn':¬(n:Int)=0:=by omega
   have hnL:=hLv.1
   have hni:n-1<L.length:=by omega
   have hnd:Bb L (n:Int)=L[n-1]:=El (by omega) hni
   obtain ⟨hlv,_⟩:=hLv.num hn0 hl
   obtain ⟨l1,l2,l3⟩:=AO hl hni
   have hcells:Ca L (u+1) n x y=(List.range 4).flatMap fun k=>D4 (Ca L u) (u+1) (Bb L n) x y k:=by
    show (if (n:Int)=0 then _ else _)=_
    rw [if_neg hn']
   have hget:=cntL_get hl hni
   rw [show n-1+1=n by omega]at hget
   rw [hcells,hget,←hnd]
   have part:∀k,k≤4→(((List.range k).flatMap fun k=>D4 (Ca L u) (u+1) (Bb L n) x y k).length:Int)=bo (C2 (BB L) (Bb L n) k):=by
    intro k
    induction k with
    | zero=>intro _;simp [C2,bo]
    | succ k ihk=>
     intro hk
     have ih2:=ihk (by omega)
     rw [Yu,Ya,WJ,Zh]
     push_cast
     rw [ih2]
     unfold D4
     rw [show C2 (BB L) (Bb L n) (k+1)=if 1<(Bb L n).lv then some (bo (C2 (BB L) (Bb L n) k)+bo ((BB L).getD ((Bb L n).kid k).toNat none))else if 0<(Bb L n).kid k then some (bo (C2 (BB L) (Bb L n) k)+1)else C2 (BB L) (Bb L n) k from rfl]
     by_cases h1:1<(Bb L n).lv
     ·rw [if_pos h1,if_pos h1]
      obtain ⟨e1,e2,e3⟩:=hLv.kid hl hn0 h1 (show k<4 by omega)
      obtain ⟨m,hm⟩:=X9 e3
      rw [hm]at e1 ⊢
      rw [Int.toNat_natCast]at e1 ⊢
      rw [ih m _ _ e1];rfl
     ·rw [if_neg h1,if_neg h1]
      by_cases h0:0<(Bb L n).kid k
      ·rw [if_pos h0,if_pos h0];rfl
      ·rw [if_neg h0,if_neg h0];simp
   exact part 4 (WF _)
theorem W5 {L:List Nd}:∀(v:Nat) (n x y:Int),x.natAbs+2^v≤2^1340→y.natAbs+2^v≤2^1340→∀c∈Ca L v n x y,SB 42 c.x∧SB 42 c.y:=by
 intro v
 induction v with
 | zero=>intro n x y _ _ c hc;cases hc
 | succ u ih=>
  intro n x y hx hy c hc
  have hc':c∈(if n=0 then []else (List.range 4).flatMap fun k=>D4 (Ca L u) (u+1) (Bb L n) x y k):=hc
  split at hc'
  ·cases hc'
  ·rw [List.mem_flatMap]at hc'
   obtain ⟨k,_,hk⟩:=hc'
   unfold D4 at hk
   have ha:=qa_abs (k:=k) hx
   have hb:=qb_abs (k:=k) hy
   split at hk
   ·exact ih _ _ _ ha hb c hk
   ·split at hk
    ·rw [WY]at hk
     subst hk
     exact ⟨Ni ha,Ni hb⟩
    ·cases hk
theorem cellsN_ok {L:List Nd} (v:Nat) (n x y:Int) (hx:x.natAbs+2^v≤2^1340) (hy:y.natAbs+2^v≤2^1340):∀c∈Ca L v n x y,c.ok:=fun c hc=>by
 obtain ⟨h1,h2⟩:=W5 v n x y hx hy c hc
 exact ⟨h1.mono (by omega),h2.mono (by omega)⟩
def Dq (L:List Nd):Int:=-(2^((BL L).toNat-1))
def GU (L:List Nd):List Cl:=Ca L (BL L).toNat L.length (Dq L) (Dq L)
def R1 (L:List Nd) (most:Int):List Cl×Bool:=if HH L>most then ([],false)else if L=[]then ([],true)else (CC (GU L),true)
theorem countZ_b {L:List Nd} (hl:AP L=true):LB (HH L):=by
 have h:=SI hl L.length (WF _) L.length (WF _)
 rw [WN (WF _)]at h
 unfold HH
 refine (SB_four h.1 h.2 ?_).lb (by omega)
 cases hq:L.length with
 | zero=>simp
 | succ m=>
  simp only
  have hml:m<L.length:=by omega
  rw [WB hml]
  have:=(AO hl hml).2.1
  simp only;omega
theorem corner_k {v k:Nat} (h:v+1≤k):(-((2:Int)^(v-1))).natAbs+2^v≤2^k:=by
 have e:((2:Int)^(v-1)).natAbs=2^(v-1):=by rw [Zs];rfl
 rw [Int.natAbs_neg,e]
 have h1:2^(v-1)≤2^v:=Xm (by omega) (by omega)
 have h2:2^v*2≤2^k:=by rw [←Nat.pow_succ];exact pow2_le h
 omega
theorem Uy {L:List Nd} (hl:AP L=true) (h0:L≠[]):(Dq L).natAbs+2^(BL L).toNat≤2^1340:=by
 have hlen:0<L.length:=Xx.2 h0
 have hle:(BL L).toNat≤1329:=TS hl hlen (WF _)
 unfold Dq
 generalize (BL L).toNat=v at *
 exact corner_k (k:=1340) (by omega)
theorem U4 {L:List Nd} (hl:AP L=true) (h0:L≠[]):((GU L).length:Int)=HH L:=by
 have hlen:0<L.length:=Xx.2 h0
 exact cellsN_len hl _ L.length _ _ ⟨WF _,.inr rfl⟩
theorem q07_List (L:List Nd) (most:Int) (H:Aa) (hL:L.length<549755813888) (hl:AP L=true) (h0:-9223372036854775808≤most) (h1:most≤500000000000) :
  Sh.f3v (Gg L) (.int .i64 most) H=some (.ret (.tup [.sl (enL cCl (R1 L most).1) .no,.bool (R1 L most).2]),H):=by
 unfold Sh.f3v R1
 have e3:(H++[Blk.cel 0 (Cq L)])[H.length]? = some (.cel 0 (Cq L)):=Ar
 have hct:=fun H=>q07_count L H hL hl
 have hof:=fun H=>q02_of most H h0 (by omega)
 have hcmp:=fun H=>LT (HH L) most H (countZ_b hl) (LB_i64 (by omega) (by omega))
 have hgt:decide (Fa (HH L) most>0)=decide (HH L>most):=by
  unfold Fa
  rw [WW];simp only [decide_eq_true_eq]
  split
  ·omega
  ·split <;> omega
 simp only [GMb,GMc,boxQ,S6 e3,hct,hof,hcmp,hgt]
 by_cases hc:HH L>most
 ·rw [if_pos hc]
  simp only [hc,GMb,GMc]
  simp [enL]
 ·rw [if_neg hc]
  simp only [hc,GMb,GMc,Ag,WE,CZ e3,Av]
  by_cases hn:L=[]
  ·rw [if_pos hn]
   have:((L.length:Int)=0):=by rw [hn];rfl
   simp only [this,GMb,GMc]
   simp [enL]
  ·rw [if_neg hn]
   have hlen:0<L.length:=Xx.2 hn
   have hne:¬((L.length:Int)=0):=by omega
   have hLv:Lv L (BL L).toNat L.length:=⟨WF _,.inr rfl⟩
   obtain ⟨hv1,hv2⟩:=hLv.num hlen hl
   have hv3:BL L=((BL L).toNat:Int):=hv1
   have hle:(BL L).toNat≤1329:=TS hl hlen (WF _)
   have hlv:=fun H=>VL L .no H (show L.length<17592186044415 by omega)
   rw [if_neg hn]at hlv
   obtain ⟨v,hv⟩:∃v,v=(BL L).toNat:=⟨_,rfl⟩
   rw [←hv]at hv2 hle hv3
   have hwl:IntKind.i64.wrap (BL L-1)=((v-1:Nat):Int):=by rw [hv3,Al] <;> omega
   have hpow:=fun H=>Pp (v-1) H (by omega)
   have hmin:=fun H=>OB (2^(v-1)) H (LB_pow _ (by omega))
   have hcz:-(2^(v-1))=Dq L:=by unfold Dq;rw [hv]
   rw [hcz]at hmin
   have hst:Ah 2 (.ptr (H++[Blk.cel 0 (Cq L)]).length 0 0) (big (Dq L)) (H++[Blk.cel 0 (Cq L)]++[Blk.cel 0 zBig])=some (H++[Blk.cel 0 (Cq L)]++[Blk.cel 0 (AD (Dq L))]):=by
    rw [Dk Ar rfl,Bv]
   have hlc:Ac true 2 (.ptr (H++[Blk.cel 0 (Cq L)]).length 0 0) (H++[Blk.cel 0 (Cq L)]++[Blk.cel 0 (AD (Dq L))])=some (big (Dq L)):=Cx Ar
   have hln:∀G,Ac false 1 (.ptr H.length 0 0) (H++[Blk.cel 0 (Cq L)]++G)=some (.sl (enL cNd L) .no):=fun G=>CZ (AE e3)
   have hab:=Uy hl hn
   have hcl:=U4 hl hn
   obtain ⟨F,hF⟩:=Wm 2000 (by omega)
   have hcv:GU L=Ca L v (L.length) (Dq L) (Dq L):=by unfold GU;rw [←hv]
   have hlist:∀H,Sh.fj AM (.sl (enL cNd L) .no) (.int .i64 (L.length:Int)) (big (Dq L)) (big (Dq L)) H=some (.ret (.sl (enL cCl (GU L)) .no),H):=by
    intro H
    rw [hF,show F+2000=(F+1999)+1 from rfl]
    rw [hcv]
    exact q07_listN hL hl v L.length (Dq L) (Dq L) (F+1999) H (by rw [hv];exact hLv) (by omega) hle (by rw [hv];exact hab) (by rw [hv];exact hab) (by rw [←hcv];omega)
   have hlast:=fun H=>q07_last (GU L) .no H (by omega) (cellsN_ok _ _ _ _ hab hab)
   have hlv':∀H,Sh.fy (Gg L) H=some (.ret (.int .i64 (BL L)),H):=hlv
   simp only [hne,GMb,GMc,S6 e3,hlv',hwl,hpow,hmin,Cw]
   simp only [GMb,GMc,hst,hln,hlc,Ag,WE,Nat.add_zero,Av,hlist,hlast]
   rw [WG,Ct]
   simp
def Mu (s0:List UInt8) (l:List Cl):List UInt8:=l.foldl (fun s c=>s++Do c.x++[32]++Do c.y++[10]) s0
def Hs (rule:List UInt8):List UInt8:=[35,76,105,102,101,32,49,46,48,54,10,35,82,32]++rule++[10]
def life6T (rule:List UInt8) (L:List Nd):List UInt8:=Mu (Hs rule) (R1 L 1000000).1
theorem R4 (s0:List UInt8) (l:List Cl) {i:Nat} (hi:i<l.length):Mu s0 (l.take (i+1))=Mu s0 (l.take i)++Do l[i].x++[32]++Do l[i].y++[10]:=by
 unfold Mu
 rw [WM hi,YA];rfl
theorem TX (s0:List UInt8) (l:List Cl) (h:∀c∈l,(Do c.x).length≤5000∧(Do c.y).length≤5000):∀i,i≤l.length→(Mu s0 (l.take i)).length≤s0.length+i*10002
 | 0,_=>by simp [Mu]
 | i+1,hi=>by
  have ih:=TX s0 l h i (by omega)
  have h2:=h l[i] (WP hi)
  rw [R4 s0 l hi]
  simp only [WJ,List.length_singleton]
  omega
theorem listO_mem {L:List Nd} (hl:AP L=true) (most:Int) (h0:0≤most) (h1:most≤500000000000):((R1 L most).1.length:Int)≤most∧∀c∈(R1 L most).1,SB 42 c.x∧SB 42 c.y:=by
 unfold R1
 by_cases hc:HH L>most
 ·rw [if_pos hc];exact ⟨h0,fun c hc=>by cases hc⟩
 ·rw [if_neg hc]
  by_cases hn:L=[]
  ·rw [if_pos hn];exact ⟨h0,fun c hc=>by cases hc⟩
  ·rw [if_neg hn]
   have hab:=Uy hl hn
   have hcl:=U4 hl hn
   have hm:=FH (l:=GU L) (GU L).length (WF _)
   rw [WN (WF _)]at hm
   have hsb:=W5 (L:=L) _ L.length _ _ hab hab
   refine ⟨?_,fun c hc=>?_⟩
   ·have h2:(CC (GU L)).length≤(C0 (GU L)).length:=Yf _ _
    show ((CC (GU L)).length:Int)≤most
    omega
   ·have h3:c∈C0 (GU L):=(XT.1 hc).1
    exact hsb c (hm.2 c h3)
theorem q12_life6 (rule:List UInt8) (L:List Nd) (b n:Int) (H:Aa) (hr:rule.length<35184372088832) (hL:L.length<549755813888) (h0:-9223372036854775808≤b) (h1:b≤9223372036854775807) :
  Sh.fz (pat rule L) (.agg (HT b n)) H=some (.ret (if JX 3 rule L b n=0 then .tup [.str (life6T rule L),.int .i64 0]else .tup [.str [],.int .i64 (JX 3 rule L b n)]),H):=by
 unfold Sh.fz
 have hbx:∀H,B2 true 2 (.agg (HT b n)) H=some (.ptr H.length 0 0,H++[.cel 0 (HT b n)]):=fun H=>BQ rfl rfl
 have e3:(H++[Blk.cel 0 (GK rule L)]++[Blk.cel 0 (HT b n)])[H.length]? = some (.cel 0 (GK rule L)):=by simp
 have g5:Ac true 2 (.ptr (H++[Blk.cel 0 (GK rule L)]).length 0 0) (H++[Blk.cel 0 (GK rule L)]++[Blk.cel 0 (HT b n)])=some (.agg (HT b n)):=by
  simp only [Ac,A5 (Ar (B:=H++[Blk.cel 0 (GK rule L)])),Option.bind_some];rfl
 have hck:=fun H=>q11_check 3 rule L b n H (by omega) hL h0 h1
 simp only [GMb,GMc,boxPat,hbx,Q3 e3,g5,hck]
 by_cases he:JX 3 rule L b n=0
 ·obtain ⟨hl,b0,b1,hw,_,_⟩:=check_ok he (by decide)
  rw [if_pos he]
  have hli:=fun H=>q07_List L 1000000 H hL hl (by omega) (by omega)
  have hrl:=TV e3
  simp only [he,GMb,GMc,Ag,WE,Nat.add_zero,JI e3,hli,Cn,Cz,hrl]
  rw [CQ (by simp;omega)]
  simp only [GMb,GMc]
  rw [CQ (by simp;omega)]
  simp only [GMb,GMc]
  obtain ⟨m1,m2⟩:=listO_mem hl 1000000 (by omega) (by omega)
  unfold life6T
  generalize (R1 L 1000000).1=l at *
  have hd:∀c∈l,(Do c.x).length≤5000∧(Do c.y).length≤5000:=fun c hc=>⟨(sb_dec ((m2 c hc).1.mono (by omega))).2,(sb_dec ((m2 c hc).2.mono (by omega))).2⟩
  have hhl:(Hs rule).length≤35184372088932:=by unfold Hs;simp;omega
  rw [WG H]
  generalize hG:[Blk.cel 0 (GK rule L)]++[Blk.cel 0 (HT b n)]=G
  refine Cf (G:=fun rec1 vs H1=>Sh.f5u H rec1 (ag vs 0) (ag vs 1) (ag vs 2) H1) l.length (fun i=>[.sl (enL cCl l) .no,.str (Mu (Hs rule) (l.take i)),.int .i64 (i:Int)]) (fun _=>H++G) _ (by omega) (fun rec i hi=>?_) (fun rec=>?_)
  ·have hi':(i:Int)<(l.length:Int):=by omega
   have hws:=Aw (show i<9223372036854775807 by omega)
   have hb:=TX (Hs rule) l hd i (by omega)
   have h2:=hd l[i] (WP hi)
   have h3:=m2 l[i] (WP hi)
   have tx:=fun H=>q03_text l[i].x H (sb_dec (h3.1.mono (show 42≤44 by omega))).1
   have ty':=fun H=>q03_text l[i].y H (sb_dec (h3.2.mono (show 42≤44 by omega))).1
   rw [R4 _ l hi]
   unfold Sh.f5u
   simp only [GMb,GMc,Av,hi',Ax hi,Ap,WE,Nat.add_zero,load_xC,load_yC,tx,ty',and_true,eq_self]
   iterate 4
    rw [CQ (by first | omega | (simp;omega))]
    simp only [GMb,GMc,hws]
  ·unfold Sh.f5u
   rw [WN (WF _)]
   simp only [GMb,GMc,Av,XA]
   exact rP_plain (v:=.tup [.str (Mu (Hs rule) l),.int .i64 0]) rfl
 ·rw [if_neg he]
  simp only [he,GMb,GMc]
  rw [WG]
  exact rP_plain (v:=.tup [.str [],.int .i64 (JX 3 rule L b n)]) rfl
set_option maxRecDepth 100000
def s6A:List UInt8:=[35,76,105,102,101,32,49,46,48,54,13,10,49,32,45,50,10,35,82,32,97,98,99,10,49,32,45,50]
def s6B:List UInt8:=[35,76,105,102,101,32,49,46,48,54,10,49,32,32,50]
def s6C:List UInt8:=[35,76,105,102,101,32,49,46,48,54,10,49,50]
def s6D:List UInt8:=[35,76,105,102,101,32,49,46,48,54,10,10]
def s6T:List UInt8:=[35,76,105,102,101,32,49,46,48,54,10,35,82,32,97,98,99,10,49,32,45,50,10]
def l6A:List Nd:=OH [⟨1,-2,1⟩,⟨1,-2,1⟩] |>.1
theorem y6A:Dw s6A 1000 100000=(([97,98,99],l6A),0,0):=by decide +kernel
theorem y6T:JX 3 [97,98,99] l6A 1000 100000=0:=by decide +kernel
theorem y6W:life6T [97,98,99] l6A=s6T:=by decide +kernel
theorem y6B:Dw s6B 1000 100000=(([],[]),13,2):=by decide +kernel
theorem y6C:Wh s6C=([32,49],true):=by decide +kernel
theorem y6C2:(Dw (s6C++[32,49]) 1000 100000).2.2=0:=by decide +kernel
theorem y6D:(Wh s6D).2=false:=by decide +kernel
theorem l6A_len:l6A.length<1000:=by decide +kernel
theorem VK (H:Aa):Sh.fs H=some (.ret (.agg [.int .i64 1000,.int .i64 100000]),H):=by
 have hb:AB (some [(.int .i64 0),(.int .i64 0)]) [(0,1,(.int .i64 1000)),(1,1,(.int .i64 100000))]=some (.agg [.int .i64 1000,.int .i64 100000]):=rfl
 unfold Sh.fs
 simp only [GMb,GMc,HPa,HPc,HPd,HPe,HPz,Nat.reduceAdd,Nat.reduceLT,hb]
theorem VJ (H:Aa):Sh.f11 H=some (.ret (.bool true),H):=by
 have hA:=fun K=>EJ s6A 1000 100000 K (by decide)
 have hB:=fun K=>EJ s6B 1000 100000 K (by decide)
 have hC:=fun K=>Pn s6C K (by decide)
 have hC2:=fun K=>EJ (s6C++[32,49]) 1000 100000 K (by decide)
 have hD:=fun K=>Pn s6D K (by decide)
 have hl:=l6A_len
 have hT:=fun K=>q12_life6 [97,98,99] l6A 1000 100000 K (by decide) (by omega) (by decide) (by decide)
 have hx2:=y6C2
 generalize Dw (s6C++[32,49]) 1000 100000=R at hC2 hx2
 obtain ⟨⟨r1,r2⟩,r3,r4⟩:=R
 dsimp only at hx2
 subst hx2
 have hd2:=y6D
 generalize Wh s6D=D at hD hd2
 obtain ⟨d1,d2⟩:=D
 dsimp only at hd2
 subst hd2
 have hadd:Ae .none .add (.str s6C) (.str [32,49])=some (.str (s6C++[32,49])):=CQ (by decide)
 rw [y6A]at hA
 rw [y6B]at hB
 rw [y6C]at hC
 rw [if_pos y6T,y6W]at hT
 generalize l6A=LA at hA hT
 have hlim:HT 1000 100000=[.int .i64 1000,.int .i64 100000]:=rfl
 rw [hlim]at hT
 simp only [LS,Nl]at hA hB hC2 hT
 dsimp only at hC hD
 unfold Sh.f11
 rw [show ([35,76,105,102,101,32,49,46,48,54,13,10,49,32,45,50,10,35,82,32,97,98,99,10,49,32,45,50]:List UInt8)=s6A from rfl,show ([35,76,105,102,101,32,49,46,48,54,10,49,32,32,50]:List UInt8)=s6B from rfl,
  show ([35,76,105,102,101,32,49,46,48,54,10,49,50]:List UInt8)=s6C from rfl,show ([35,76,105,102,101,32,49,46,48,54,10,10]:List UInt8)=s6D from rfl,show ([35,76,105,102,101,32,49,46,48,54,10,35,82,32,97,98,99,10,49,32,45,50,10]:List UInt8)=s6T from rfl]
 simp only [Sl.gliderref11_Wide_eq,Sl.life6_Read_eq,Sl.gliderref12_Life6_eq,Sl.life6_Hint_eq,GMb,GMc,HPa,HPc,HPd,HPe,HPz,Nat.reduceAdd,Nat.reduceLT,VK,hA,hB,hC,hadd,hC2,hD,hT,MO,beq_self_eq_true]
theorem readP_len (b:List UInt8) (bx N:Int):(Dw b bx N).1.2.length≤100000:=by
 unfold Dw
 split
 ·rename_i hf
  unfold My at hf
  simp only [WO,decide_eq_true_eq]at hf
  split
  ·exact Xd _
  ·split
   ·rename_i hq
    simp only [WO,decide_eq_true_eq]at hq
    dsimp only
    omega
   ·exact Xd _
 ·exact Xd _
def rc0:RC:=⟨false,[],false,[],0⟩
def kO (l:List RC) (t j:Nat):RC:=l.getD ((j+t)%l.length) rc0
theorem kO_eq {l:List RC} {t j:Nat} (h:(j+t)%l.length<l.length):kO l t j=l[(j+t)%l.length]:=by
 unfold kO;rw [WH,WB h];rfl
theorem TY {l:List RC} {t j:Nat} (h:0<l.length):kO l t j∈l:=by rw [kO_eq (XG _ h)];exact WP _
theorem kO_all {l:List RC} (t:Nat) {r:RC} (h:r∈l):∃j,j<l.length∧kO l t j=r:=by
 obtain ⟨k,hk,e⟩:=List.mem_iff_getElem.1 h
 have hn:0<l.length:=by omega
 have hj:((k+(l.length-t%l.length))%l.length+t)%l.length=k:=by
  rw [Nat.mod_add_mod]
  have h1:=Yj t l.length
  have h2:=XG t hn
  have h3:=Nat.mul_succ l.length (t / l.length)
  rw [show k+(l.length-t%l.length)+t=k+l.length*(t / l.length).succ by omega,YW]
  exact X3 hk
 refine ⟨(k+(l.length-t%l.length))%l.length,XG _ hn,?_⟩
 rw [kO_eq (XG _ hn)]
 simp only [hj,e]
def aT (l:List RC) (i:Nat):List UInt8:=CM++(l.take i).flatMap fun r=>Pi r++[10]
def RT (l:List RC) (t:Nat):Nat→List UInt8
 | 0=>[]
 | i+1=>Pi (kO l t i)++([13,10]++RT l t i)
def bT (l:List RC) (t i:Nat):List UInt8:=RT l t i++CM
def bxT (l:List RC) (t i:Nat):Aa:=(List.range i).map fun j=>Blk.cel 0 (cRC (kO l t j))
theorem bxT_succ (l:List RC) (t i:Nat):bxT l t (i+1)=bxT l t i++[.cel 0 (cRC (kO l t i))]:=by simp [bxT,Yu]
theorem aT_succ {l:List RC} {i:Nat} (hi:i<l.length):aT l (i+1)=aT l i++Pi l[i]++[10]:=by
 unfold aT
 rw [WM hi,Ya]
 simp
theorem aT_len {l:List RC} (hs:∀r∈l,r.smal):∀i,i≤l.length→(aT l i).length≤11+i*1204
 | 0,_=>by simp [aT,CM]
 | i+1,h=>by
  have:=aT_len hs i (by omega)
  have h2:=Ph (hs _ (WP (show i<l.length by omega)))
  rw [aT_succ (show i<l.length by omega)]
  simp;omega
theorem revT_len {l:List RC} {t:Nat} (hs:∀r∈l,r.smal):∀i,i≤l.length→(RT l t i).length≤i*1205
 | 0,_=>by simp [RT]
 | i+1,h=>by
  have:=revT_len (t:=t) hs i (by omega)
  have h2:=Ph (hs _ (TY (t:=t) (j:=i) (show 0<l.length by omega)))
  unfold RT
  simp;omega
def Qq (l:List RC) (t:Nat):Nat→List (Cl×Bool)
 | 0=>[]
 | i+1=>((kO l t i).cl,true)::Qq l t i
theorem aT_pls {l:List RC} (hs:∀r∈l,r.smal) (hr:∀r∈l,r.right=true):aT l l.length=CM++Ha (l.map fun r=>(r.cl,false)):=by
 unfold aT Ha
 rw [WN (WF _),List.flatMap_map]
 congr 1
 have:∀(m:List RC),(∀r∈m,r∈l)→(m.flatMap fun r=>Pi r++[10])=m.flatMap fun a=>plT (a.cl,false).fst++Vj (a.cl,false).snd:=by
  intro m
  induction m with
  | nil=>intro _;rfl
  | cons x m ih=>
   intro h
   rw [Zb,Zb,ih (fun r hr=>h r (by simp [hr])),Ts (hr x (h x (by simp))) (hs x (h x (by simp)))]
   rfl
 exact this l fun _ h=>h
theorem revT_pls {l:List RC} {t:Nat} (hs:∀r∈l,r.smal) (hr:∀r∈l,r.right=true) (h0:0<l.length):∀i,RT l t i=Ha (Qq l t i)
 | 0=>rfl
 | i+1=>by
  rw [RT,Qq,Qt,←revT_pls hs hr h0 i,Ts (hr _ (TY h0)) (hs _ (TY h0))]
  rfl
theorem Pf {l:List RC} {t:Nat}:∀(i:Nat) (p:Cl×Bool),p∈Qq l t i↔∃j,j<i∧p=((kO l t j).cl,true)
 | 0,p=>by simp [Qq]
 | i+1,p=>by
  rw [Qq,Xk,Pf i p]
  constructor
  ·rintro (h | ⟨j,h1,h2⟩)
   ·exact ⟨i,by omega,h⟩
   ·exact ⟨j,by omega,h2⟩
  ·rintro ⟨j,h1,h2⟩
   by_cases e:j=i
   ·subst e;exact .inl h2
   ·exact .inr ⟨j,by omega,h2⟩
theorem great_smal {l:List RC} (h:Ue 20 l=false) (hl:∀r∈l,r.lim):l.length≤20∧∀r∈l,r.smal:=by
 unfold Ue at h
 simp only [Zu,decide_eq_false_iff_not,YV,Xb,Y9]at h
 refine ⟨by omega,fun r hr=>?_⟩
 obtain ⟨i,hi,e⟩:=List.mem_iff_getElem.1 hr
 have:=h.2 i hi
 rw [WB hi,e]at this
 simp only [WO,decide_eq_true_eq]at this
 exact ⟨(hl r hr).1,(hl r hr).2,this.1,this.2⟩
theorem plsC_raw {l:List RC} {c:Cl}:c∈LV (l.map fun r=>(r.cl,false))↔∃r∈l,c=⟨r.cl.x,r.cl.y,1⟩:=by
 unfold LV
 simp only [Z2,XQ,Function.comp_apply]
 constructor
 ·rintro ⟨r,h1,h2⟩;exact ⟨r,h1,h2.symm⟩
 ·rintro ⟨r,h1,h2⟩;exact ⟨r,h1,h2.symm⟩
theorem plsC_rev {l:List RC} {t:Nat} {c:Cl} (h0:0<l.length):c∈LV (Qq l t l.length)↔∃r∈l,c=⟨r.cl.x,r.cl.y,1⟩:=by
 unfold LV
 rw [XQ]
 constructor
 ·rintro ⟨p,h1,h2⟩
  obtain ⟨j,h3,h4⟩:=(Pf l.length p).1 h1
  subst h4
  exact ⟨kO l t j,TY h0,h2.symm⟩
 ·rintro ⟨r,h1,h2⟩
  obtain ⟨j,h3,h4⟩:=kO_all t h1
  exact ⟨(r.cl,true),(Pf l.length _).2 ⟨j,h3,by rw [h4]⟩,h2.symm⟩
theorem turn_same {l:List RC} (t:Nat) (hs:∀r∈l,r.smal) (hk:∀r∈l,okK r=true) (bx N:Int) :
  let R:=Dw (aT l l.length) bx N
  let Q:=Dw (CM++RT l t l.length) bx N
  let S:=Dw (aT l l.length++RT l t l.length) bx N
  Q.1=R.1∧Q.2.2=R.2.2∧S.1=R.1∧S.2.2=R.2.2:=by
 have hr:=fun r h=>(okK_shrt (hk r h) (hs r h)).1
 have hsh:=fun r h=>(okK_shrt (hk r h) (hs r h)).2
 have h1:∀p∈l.map fun r=>(r.cl,false),p.1.shrt:=fun p hp=>by
  obtain ⟨r,h,rfl⟩:=XQ.1 hp;exact hsh r h
 rw [aT_pls hs hr]
 rcases Yc l.length with h0 | h0
 ·have:l=[]:=WU h0
  subst this
  simp [RT,Ha]
 ·have h2:∀p∈Qq l t l.length,p.1.shrt:=fun p hp=>by
   obtain ⟨j,_,e⟩:=(Pf l.length p).1 hp
   subst e;exact hsh _ (TY h0)
  rw [revT_pls hs hr h0]
  have e3:CM++Ha (l.map fun r=>(r.cl,false))++Ha (Qq l t l.length)=CM++Ha ((l.map fun r=>(r.cl,false))++Qq l t l.length):=by simp [Ha]
  rw [e3]
  have q1:=Rt h2 h1 (fun c=>by rw [plsC_rev h0,plsC_raw]) bx N
  have q2:=Rt (l:=(l.map fun r=>(r.cl,false))++Qq l t l.length) (m:=l.map fun r=>(r.cl,false)) (fun p hp=>(WX.1 hp).elim (h1 p) (h2 p)) h1 (fun c=>by
   rw [show LV ((l.map fun r=>(r.cl,false))++Qq l t l.length)=LV (l.map fun r=>(r.cl,false))++LV (Qq l t l.length) from by simp [LV],WX,plsC_rev h0,plsC_raw,or_self]) bx N
  exact ⟨q1.1,q1.2,q2.1,q2.2⟩
theorem turn_last {l:List RC} {H K G:Aa} {t n:Nat} {a b:List UInt8} (hn:n=l.length) (hK:K=H++G) (ha:a.length≤100000) (hb:b.length≤100000)
  (hq:(Dw (CM++b) 1000 100000).1=(Dw a 1000 100000).1∧(Dw (CM++b) 1000 100000).2.2=(Dw a 1000 100000).2.2∧(Dw (a++b) 1000 100000).1=(Dw a 1000 100000).1∧(Dw (a++b) 1000 100000).2.2=(Dw a 1000 100000).2.2) (rec:LK) :
  Sh.f22 H rec (.sl (enL cRC l) .no) (.int .u8 (t:Int)) (.str a) (.str (b++CM)) (.int .i64 (n:Int)) K=some (.ret (.bool true),H):=by
 have d1:decide ((n:Int)<(l.length:Int))=false:=decide_eq_false (by omega)
 have hlen:((b++CM).length:Int)=(b.length:Int)+11:=by simp [CM]
 have hw:IntKind.i64.wrap (((b++CM).length:Int)-11)=(b.length:Int):=by rw [hlen,Al (by omega) (by omega)];omega
 have hsl:BF (.str (b++CM)) none (some (.int .i64 (b.length:Int)))=some (.str b):=by rw [OZ (by simp),Yy]
 have a1:∀ek,Ae ek .add (.str CM) (.str b)=some (.str (CM++b)):=fun ek=>CQ (by simp [CM];omega)
 have a2:∀ek,Ae ek .add (.str a) (.str b)=some (.str (a++b)):=fun ek=>CQ (by omega)
 have h1:=fun K=>EJ a 1000 100000 K (by omega)
 have h2:=fun K=>EJ (CM++b) 1000 100000 K (by simp [CM];omega)
 have h3:=fun K=>EJ (a++b) 1000 100000 K (by simp;omega)
 have hl:=readP_len a 1000 100000
 generalize Dw a 1000 100000=R at h1 hq hl
 generalize Dw (CM++b) 1000 100000=Q at h2 hq
 generalize Dw (a++b) 1000 100000=S at h3 hq
 obtain ⟨⟨r,L⟩,i,e⟩:=R
 obtain ⟨Q1,j,f⟩:=Q
 obtain ⟨S1,k,g⟩:=S
 obtain ⟨q1,q2,q3,q4⟩:=hq
 dsimp only at q1 q2 q3 q4 hl
 subst q1 q2 q3 q4
 have hs:=fun K=>q11_same r r L L K (by omega)
 simp only [LS,Nl]at h1 h2 h3 hs
 have hend:∀(b:Bool) X,rP H (.bool b) (K++X)=some (.ret (.bool b),H):=fun b X=>by rw [hK,WG];exact EI
 unfold Sh.f22
 rw [show ([35,76,105,102,101,32,49,46,48,54,10]:List UInt8)=CM from rfl]
 clear hK
 simp only [Sl.gliderref11_Wide_eq,Sl.life6_Read_eq,Sl.gliderref11_Same_eq,GMb,GMc,HPa,HPc,HPd,HPe,HPz,Nat.reduceAdd,Nat.reduceLT,Av,d1,Ic,hw,hsl,a1,a2,VK,h1,h2,h3,hs,beq_self_eq_true,hend]
theorem spot_turn_ok {l:List RC} {t:Nat} (ht:t<256) (H:Aa) (hll:l.length<1152921504606846976) (hl:∀r∈l,r.lim) :
  Sh.f5w (.sl (enL cRC l) .no) (.int .u8 (t:Int)) H=some (.ret (.bool true),H):=by
 unfold Sh.f5w
 have hg:=fun K=>q07_great l .no 20 K hll
 cases hgb:Ue 20 l with
 | true=>
  rw [hgb]at hg
  simp only [Sl.gliderlaw17_alive_eq,Sl.gliderref07_Great_eq,GMb,GMc,HPa,HPc,HPd,HPe,HPz,Nat.reduceAdd,Nat.reduceLT,VJ,hg,rP_bool0]
 | false=>
  rw [hgb]at hg
  obtain ⟨hn,hs⟩:=great_smal hgb hl
  simp only [Sl.gliderlaw17_alive_eq,Sl.gliderref07_Great_eq,GMb,GMc,HPa,HPc,HPd,HPe,HPz,Nat.reduceAdd,Nat.reduceLT,VJ,hg]
  have key:=Bl (G:=fun rec1 vs H1=>Sh.f22 H rec1 (ag vs 0) (ag vs 1) (ag vs 2) (ag vs 3) (ag vs 4) H1) (σ:=Nat) (fun i=>i≤l.length∧∀j,j<i→okK (kO l t j)=true)
   (fun i=>[.sl (enL cRC l) .no,.int .u8 (t:Int),.str (aT l i),.str (bT l t i),.int .i64 (i:Int)]) (fun i=>H++bxT l t i) (fun i=>l.length-i) (fun _=>some (.ret (.bool true),H)) (fun i rec hi hrec=>?_) 0 ⟨Xd _,fun j hj=>by omega⟩ (by omega)
  ·have e0:aT l 0=CM:=by simp [aT]
   have e1:bT l t 0=CM:=rfl
   have e2:H++bxT l t 0=H:=by simp [bxT]
   simp only [e0,e1,e2]at key
   exact key
  ·obtain ⟨hi1,hi2⟩:=hi
   have la:=aT_len hs i hi1
   have lb:=revT_len (t:=t) hs i hi1
   have hb:(bT l t i).length≤100000:=by simp [bT,CM];omega
   show Sh.f22 H rec (.sl (enL cRC l) .no) (.int .u8 (t:Int)) (.str (aT l i)) (.str (bT l t i)) (.int .i64 (i:Int)) (H++bxT l t i)=_
   by_cases hlt:i<l.length
   ·have hml:=XG (i+t) (show 0<l.length by omega)
    rw [turn_round hlt hn ht hs rfl hml (by omega) hb rec]
    have hk:=kO_eq hml
    cases ho:okK l[(i+t)%l.length]with
    | false=>rfl
    | true=>
     have:=hrec (i+1) ⟨hlt,fun j hj=>by
      by_cases e:j=i
      ·subst e;rw [hk];exact ho
      ·exact hi2 j (by omega)⟩ (by omega)
     rw [if_pos rfl,←this,aT_succ hlt,bxT_succ,hk]
     simp only [bT,RT,hk,WG]
   ·have he:i=l.length:=by omega
    subst he
    have hk:∀r∈l,okK r=true:=fun r hr=>by
     obtain ⟨j,h1,h2⟩:=kO_all t hr
     rw [←h2];exact hi2 j h1
    exact turn_last (b:=RT l t l.length) rfl rfl (by omega) (by omega) (turn_same t hs hk 1000 100000) rec
end Go.Gm
