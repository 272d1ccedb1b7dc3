/- A part. -/
import Derived.Test.YtmaojnmnbpomeaaGreatDoorVN17
set_option maxRecDepth 100000
set_option maxHeartbeats 64000000
namespace Go.Proofs.YtmaojnmnbpomeaaGreatDoor
variable{l out:List Wd}{a i k:Nat}{t:TypeId}{v:Value}{w:World}
structure dX(l:List Wd)(stay i:Nat)(out:List Wd):Prop where
 perm:out.Perm (l.take i)
 head:out.take stay=l.take (min stay i)
 le:(out.drop stay).Pairwise (·<=·)
theorem dX.zero(l:List Wd)(stay:Nat):dX l stay 0 []:=⟨by simp,by simp,by simp⟩
theorem dX.len{stay:Nat}(h:dX l stay i out)(hi:i<=l.length):out.length=i:=by
 rw[h.perm.length_eq,Qq];omega
def qeQ(out:List Wd)(stay:Nat)(x:Wd)(at_:Nat):Prop:=at_<=out.length/\(out.length<=stay->at_=out.length)/\(stay<=out.length->stay<=at_)/\(∀(j:Nat)(h:j<out.length),at_<=j->x<out[j])
theorem dX.succ{stay:Nat}(h:dX l stay i out)(hi:i<l.length)(hk:qeQ out stay l[i] k)(hd:k<=stay\/∃h:k-1<out.length,¬ l[i]<out[k-1]):dX l stay (i+1) (out.take k++l[i]::out.drop k):=by
 have hl:=h.len (Yh hi);obtain⟨k1,k2,k3,k4⟩:=hk;refine⟨?_,?_,?_⟩
 .rw[Qc hi];exact (sd out l[i] k).trans (h.perm.append_right [l[i]])
 .by_cases hs:stay<=i
  .have:=k3 (by omega);rw[List.take_append_of_le_length (by rw[Qq];omega),List.take_take,Nat.min_eq_left this,h.head,Nat.min_eq_left hs,Nat.min_eq_left (by omega)]
  have x_:k=i:=by rw[k2 (by omega),hl]
  subst x_;rw[Qd (l:=out) (by omega),Xm (by omega),Qd (by simp;omega),Nat.min_eq_right (by omega),Qc hi];have:=h.head;rw[Qd (by omega),Nat.min_eq_right (by omega)]at this;rw[this]
 by_cases hs:stay<=i
 .have hsk:=k3 (by omega);have e:(out.take k++l[i]::out.drop k).drop stay=(out.drop stay).take (k-stay)++l[i]::(out.drop stay).drop (k-stay):=by
   rw[List.drop_append_of_le_length (by rw[Qq];omega),List.drop_take,List.drop_drop,show stay+(k-stay)=k by omega]
  rw[e];refine lC h.le (fun y hy=>?_) (fun y hy=>?_)
  .by_cases h0:k=stay
   .subst h0;simp at hy
   rcases hd with hd|⟨mW,hd⟩
   .omega
   have hq:k-1-stay<(out.drop stay).length:=by rw[Xl];omega
   have hle:(out.drop stay)[k-1-stay]<=l[i]:=by
    rw[List.getElem_drop];have e2:out[stay+(k-1-stay)]'(by omega)=out[k-1]:=by congr 1;omega
    rw[e2];exact List.not_lt.1 hd
   refine wB (le:=fun a b:Wd=>a<=b) (fun a b c=>List.le_trans) hq h.le hle y ?_
   rwa [show k-1-stay+1=k-stay by omega]
  rw[List.drop_drop,show stay+(k-stay)=k by omega]at hy;obtain⟨j,hj,rfl⟩:=Qz hy;rw[Xl]at hj;rw[List.getElem_drop];exact List.le_of_lt (k4 (k+j) (by omega) (by omega))
 rw[Xm]
 .exact .nil
 simp only[Qe,Qq,Qu,Xl];omega
theorem dX.done{stay:Nat}(h:dX l stay l.length out):out=l.take stay++Jv (l.drop stay):=by
 have h1:=h.head;have hp:=h.perm;rw[List.take_length]at hp;rw[<-Xp stay out];have e:out.take stay=l.take stay:=by
  rw[h1];by_cases hs:stay<=l.length
  .rw[Nat.min_eq_left hs]
  rw[Nat.min_eq_right (by omega),List.take_length,Qd (by omega)]
 rw[e];congr 1;refine Aq ?_ h.le;rw[<-Xp stay out,<-Xp stay l,e]at hp;have:=(List.perm_append_left_iff _).1 hp;simpa using this
structure rU(l:List Jj)(i:Nat)(out:List Jj):Prop where
 perm:out.Perm (l.take i)
 le:out.Pairwise fun a b=>¬ Kt b a
theorem rU.zero(l:List Jj):rU l 0 []:=⟨by simp,by simp⟩
theorem rU.len{l out:List Jj}(h:rU l i out)(hi:i<=l.length):out.length=i:=by
 rw[h.perm.length_eq,Qq];omega
theorem jd{a b:Jj}(h:Kt a b):¬ Kt b a:=fun k=>Lm a (Aw h k)
theorem rU.succ{l out:List Jj}(h:rU l i out)(hi:i<l.length)(hk:k<=out.length)(h4:∀(j:Nat)(h:j<out.length),k<=j->Kt l[i] out[j])(hd:k=0\/∃h:k-1<out.length,¬ Kt l[i] out[k-1]):rU l (i+1) (out.take k++l[i]::out.drop k):=by
 refine⟨?_,lC h.le (fun y hy=>?_) (fun y hy=>?_)⟩
 .rw[Qc hi];exact (sd out l[i] k).trans (h.perm.append_right [l[i]])
 .rcases hd with rfl|⟨mW,hd⟩
  .simp at hy
  by_cases h0:k=0
  .subst h0;simp at hy
  refine wB Pw mW h.le hd y ?_
  rwa [show k-1+1=k by omega]
 obtain⟨j,hj,rfl⟩:=Qz hy;rw[Xl]at hj;rw[List.getElem_drop];exact jd (h4 (k+j) (by omega) (by omega))
theorem rU.done{l out:List Jj}(ho:∀r∈l,jN r)(h:rU l l.length out):out=kL l:=by
 have hp:=h.perm;rw[List.take_length]at hp;exact At ho hp h.le
open Go.RowKit
theorem qhC(x y:List UInt8)(i:Nat)(h1:i<x.length)(h2:i<y.length) :
  Op.bytesLess (x.drop i) (y.drop i)=(decide (x[i].toNat<y[i].toNat)||(x[i]==y[i]&&Op.bytesLess (x.drop (i+1)) (y.drop (i+1)))):=by
 rw[Ql h1,Ql h2,Op.bytesLess];rfl
theorem Hx{B:Nat}{w':World}(h:Below B w w')(n:Nat):Below B w (w'.drewN n):=⟨h.os,h.tape,h.output,h.size,h.block⟩
theorem H_(x y:List UInt8)(w:World)(hx:x.length<=maxLen)(hy:y.length<=maxLen) :
  Calls Tryz.prog 87 #[.string ⟨x.toArray⟩,.string ⟨y.toArray⟩] w fun e w'=>e=.returned (.bool (Op.bytesLess x y))/\Below w.heap.size w w':=by
 unfold maxLen at hx hy;obtain⟨X,hX⟩:∃X:ByteArray,X=⟨x.toArray⟩:=⟨_,rfl⟩;obtain⟨Y,hY⟩:∃Y:ByteArray,Y=⟨y.toArray⟩:=⟨_,rfl⟩;have hXs:X.size=x.length:=by rw[hX];rfl
 have hYs:Y.size=y.length:=by rw[hY];rfl
 rw[<-hX,<-hY];have HXX:=Lh hX;have HYY:=Lh hY;clear hX hY;go_enter Tryz.func87,Tryz.ntmps87;go_wp2_with fail;go_loopw [5] (fun v5 wr=>∃(i:Nat),i<=x.length/\i<=y.length/\v5=.int .i64 i/\Hid (Op.bytesLess (x.drop i) (y.drop i)=Op.bytesLess x y)/\Hid (Below w.heap.size w wr)) (fun v5 _=>x.length-(intOf v5).toNat);exact⟨0,by omega,by omega,rfl,rfl,(Xr _ _)⟩;obtain⟨i,hi,hj,rfl,HB,HW⟩:=hrel;by_cases h1:i<x.length
 .by_cases h2:i<y.length
  .have hXi:∀(h:i<X.size),X[i]=x[i]:=fun h=>by
    have:=HXX.o;subst this;rfl
   have hYi:∀(h:i<Y.size),Y[i]=y[i]:=fun h=>by
    have:=HYY.o;subst this;rfl
   have HXI:=Lh hXi;have HYI:=Lh hYi;clear hXi hYi;have HS:=Lh (qhC x y i h1 h2);go_wp2_with fail;go_quiet (fail);go_wp2_with (go_quiet (fail))
   .rename_i _ hne;go_ret;refine⟨Kw (Zw ?_),Hx (Hx HW.o _) _⟩;rw[<-HB.o,HS.o];rw[HXI.o,HYI.o]at hne |-;have:(x[i]==y[i])=false:=by
     rw[Yp];intro h;rw[h]at hne;simp at hne
    rw[this];simp
   rename_i hne;rw[HXI.o,HYI.o]at hne;have he:x[i]=y[i]:=UInt8.toNat_inj.1 (Int.ofNat_inj.1 (bne_eq_false_iff_eq.1 hne));refine⟨⟨i+1,by omega,by omega,by simp,?_,Hx HW.o _⟩,?_⟩
   .show Op.bytesLess _ _=_;rw[<-HB.o,HS.o,he];simp
   simp[intOf];omega
  have HS:=Lh (show Op.bytesLess (x.drop i) (y.drop i)=decide (x.length<y.length) by
   have:=HXX
   rw[List.drop_eq_nil_of_le (show y.length<=i by omega),Ql h1]
   simp[Op.bytesLess];omega)
  go_wp2;go_ret;exact⟨Kw (Zw (by rw[<-HB.o,HS.o])),HW.o⟩
 have HS:=Lh (show Op.bytesLess (x.drop i) (y.drop i)=decide (x.length<y.length) by
  rw[List.drop_eq_nil_of_le (show x.length<=i by omega)]
  by_cases h2:i<y.length
  .rw[Ql h2]
   simp[Op.bytesLess];omega
  rw[List.drop_eq_nil_of_le (show y.length<=i by omega)]
  simp[Op.bytesLess];omega)
 go_wp2;go_ret;exact⟨Kw (Zw (by rw[<-HB.o,HS.o])),HW.o⟩
theorem Hv:∀a b:Wd,Op.bytesLess a b=true↔a<b
 |[],[]=>by simp[Op.bytesLess]
 |[],b::lb=>by simp[Op.bytesLess]
 |a::la,[]=>by simp[Op.bytesLess]
 |a::la,b::lb=>by
  rw[List.cons_lt_cons_iff,Op.bytesLess];simp only[Yu,Ym,Yk,beq_iff_eq,Hv la lb,UInt8.lt_iff_toNat_lt]
theorem eK:Dg Tryz.prog 22 9 1 16 (.string ⟨#[]⟩):=Gh (by kernel_rfl) (by kernel_rfl) rfl (by omega)
theorem tD(a b:List Wd):Zx (a++b)=Zx a++Zx b:=Qt ..
theorem pK(l:List Wd)(k:Nat):Zx (l.take k)=(Zx l).take k:=List.map_take ..
theorem pL(l:List Wd)(k:Nat):Zx (l.drop k)=(Zx l).drop k:=List.map_drop ..
def jM(l:List Wd)(stay:Nat)(w:World)(e:Ending)(w':World):Prop:=∃v,e=.returned v/\w'.ownsRow w.heap.size 9 1 v l.length (Zx (l.take stay++Jv (l.drop stay)))/\Below w.heap.size w w'
structure aI(l out:List Wd)(stay i a:Nat):Prop where
 le:a<=i
 st:stay<=i->stay<=a
 no:i<=stay->a=i
 gt:∀(j:Nat)(h:j<out.length)(h2:i<l.length),a<=j->l[i]<out[j]
theorem aI.place{stay:Nat}(h:aI l out stay i a)(hl:out.length=i)(hi:i<l.length):qeQ out stay l[i] a :=
 ⟨by rw[hl];exact h.le,fun hs=>by rw[hl]at hs |-;exact h.no hs,fun hs=>h.st (by rw[hl]at hs;exact hs),fun j hj ha=>h.gt j hj hi ha⟩
theorem aI.next{stay:Nat}(h:aI l out stay i a)(hl:out.length=i)(hi:i<l.length)(hs:stay<a)(ho:a-1<out.length)(Jl:l[i]<out[a-1]):aI l out stay i (a-1) :=
 ⟨by have:=h.le;omega,fun _=>by omega,fun h2=>by have:=h.no h2;omega,fun j hj h2 ha=>by
  by_cases e:j=a-1
  .subst e;exact Jl
  exact h.gt j hj h2 (by omega)⟩
theorem kK(v:Value)(l:List Wd)(stay:Nat)(w:World)(h:Je eW w w.heap.size v l)(hn:l.length<=1048576)(hst:stay<=1) :
  Calls Tryz.prog 36 #[v,.int .i64 stay] w (jM l stay w):=by
 obtain⟨A1,c1,rfl,jZ,mY⟩:=h.form;unfold maxLen at mY;have H:=Lh h;have HF:=Lh h.fits;clear h;obtain⟨n,sJ⟩:=Xe l.length;rw[<-sJ]at H jZ hn;have HN:=Lh sJ;unfold jM;rw[<-sJ];clear sJ;obtain⟨S,hS⟩:=Xe w.heap.size;rw[<-hS]at H |-;have HS:=Lh hS;clear hS;go_enter Tryz.func36,Tryz.ntmps36;go_wp2_with fail;have HI0:=Lh (dX.zero l stay);have HB0:=Lt (Below S w w) (Xr _ _);have HO0:=Lt (w.ownsRow S 9 1 (.slice none 0 0) ([]:List Wd).length (Zx [])) (Za _ _ _ _);have HZ0:=Lh (show S<=w.heap.size by rw[HS.o];exact Yb _);go_loopw [5,6] (fun v5 v6 wr=>∃(i:Nat)(out:List Wd),i<=n/\v6=.int .i64 i/\Hid (dX l stay i out)/\Hid (wr.ownsRow S 9 1 v5 out.length (Zx out))/\Hid (Below S w wr)/\Hid (S<=wr.heap.size)) (fun _ v6 _=>n-(intOf v6).toNat);exact⟨0,[],by omega,rfl,HI0.o,HO0.o,HB0.o,HZ0.o⟩;clear HI0 HB0 HO0 HZ0;obtain⟨i,out,hi,rfl,HI,HO,HB,HZ⟩:=hrel;by_cases Jl:i<n
 .have Wp:i<l.length:=by rw[<-HN.o];exact Jl
  have hol:out.length=i:=HI.o.len (Yh Wp);have HOL:=Lh hol;obtain⟨A5,c5,hv5,zvR,zvQ⟩:=Zp HO.o;rw[hol]at hv5 zvR HO;subst hv5;unfold maxLen at zvQ;clear hol;obtain⟨b,off,rfl,_,hb,hcw⟩:=(H.o.below HB.o).wd Wp;have HFX:=Lh (HF.o l[i] (Qg Wp));have HDN:=Lt (aI l out stay i i) (⟨Yb _,fun h=>h,fun _=>rfl,fun j hj _ ha=>by have:=HOL.o;omega⟩);have HSU:=Lh (fun(a:Nat)(hd:aI l out stay i a)(hx:a<=stay\/∃h:a-1<out.length,¬ l[i]<out[a-1])=>HI.o.succ Wp (hd.place HOL.o Wp) hx);have HNX:=Lh (fun(a:Nat)(hd:aI l out stay i a)(hs:stay<a)(ho:a-1<out.length)(Jl:l[i]<out[a-1])=>hd.next HOL.o Wp hs ho Jl);obtain⟨x,hx⟩:=Xe (l[i]);rw[<-hx]at hcw HFX HSU HNX;clear hx;go_wp2_with fail;have ak:=Lt (Rd wr wr.heap.size A5 (Zx out)) (Rd.of_own HO.o);generalize wr=wo at*;have HBI:=Lh (Xr wo.heap.size wo);go_loopw [7] (fun v7 wr=>∃a:Nat,v7=.int .i64 a/\Hid (aI l out stay i a)/\a<=i/\Hid (Below wo.heap.size wo wr)) (fun v7 _=>(intOf v7).toNat);exact⟨i,rfl,HDN.o,Yb _,HBI.o⟩;clear HDN HBI;obtain⟨a,rfl,HDN,hai,HBI⟩:=hrel;have zlM:wr.cell? ⟨b,off+i,none⟩=some (wv x):=by rw[HBI.o.cell (p:=⟨b,off+i,none⟩) (by show b<_;have:=HZ.o;omega)];exact hcw
  by_cases hsa:stay<a
  focus
   have Aj:a-1<out.length:=by have:=HOL.o;omega
   obtain⟨b2,o2,rfl,_,Uw⟩:=(ak.o.below HBI.o).at_ (k:=a-1) (by rw[Gm];exact Aj);have qqI:wr.cell? ⟨b2,o2+(a-1),none⟩=some (wv out[a-1]):=by rw[Uw];simp[Zx]
   clear Uw;have zgL:=Lh (fun h:x<out[a-1]=>HNX.o a HDN.o hsa Aj h);have zfY:=Lh (fun h:¬ x<out[a-1]=>HSU.o a HDN.o (.inr ⟨Aj,h⟩));have HFY:=Lt (out[a-1].length<=maxLen) (HF.o _ (List.mem_of_mem_take ((HI.o.perm.mem_iff).1 (Qg Aj))));generalize out[a-1]=y at*;have d0:decide ((stay:Int)<(a:Int))=true:=by simp;omega
   have e1:(a:Int)-1=((a-1:Nat):Int):=by omega
   have hak:a-1<i:=by omega
   have md:=Lh (H_ x y wr.drew HFX.o HFY.o);have HBD:=Lt (Below wo.heap.size wo wr.drew) (HBI.o.drew);by_cases hxy:x<y
   focus
    have HNX3:=Lh (zgL.o hxy);rw[(Hv x y).2 hxy]at md;clear zgL zfY hxy;go_wp2;refine Text.wt (by kernel_rfl) fun Q' hQ'=>?_;go_wp2_with fail;refine md.o.mono ?_;rintro e w3 ⟨rfl,hb3⟩;have HB3:=Lh (HBD.o.trans (hb3.mono HBD.o.size));clear hb3;go_wp2;refine⟨by rfl,?_⟩;go_wp2;go_roundw;exact⟨a-1,by go_num,HNX3.o,by omega,HB3.o⟩;simp[intOf];omega
   have HSU3:=Lh (zfY.o hxy);have iY:Op.bytesLess x y=false:=by
    cases iY:Op.bytesLess x y with
    |false=>rfl
    |true=>exact absurd ((Hv x y).1 iY) hxy
   rw[iY]at md;clear zgL zfY hxy iY;go_wp2;refine Text.wt (by kernel_rfl) fun Q' hQ'=>?_;go_wp2_with fail;refine md.o.mono ?_;rintro e w3 ⟨rfl,hb3⟩;have HB3:=Lh (HBD.o.trans (hb3.mono HBD.o.size));clear hb3;go_wp2;refine⟨by rfl,?_⟩;obtain⟨A5,hA5⟩:=Xe ((some ⟨b2,o2,none⟩:Option Addr));rw[<-hA5]at HO ak |-;clear hA5 qqI HBD md d0 e1 hak Aj HDN zlM HBI HFY
  rotate_left
  focus
   have HSU3:=Lh (HSU.o a HDN.o (.inl (by omega)));have d0:decide ((stay:Int)<(a:Int))=false:=by simp;omega
   have HB3:=Lt (Below wo.heap.size wo wr.drew) (HBI.o.drew);go_wp2;refine Text.wt (by kernel_rfl) fun Q' hQ'=>?_;go_wp2;refine⟨by rfl,?_⟩;clear d0 HDN zlM HBI;generalize wr.drew=w3 at*
  rotate_left
  all_goals
   have HR3:=Lh (ak.o.below HB3.o);have Ob:=Lh HB3.o.size;have hcx:w3.cell? ⟨b,off+i,none⟩=some (wv x):=by rw[HB3.o.cell (p:=⟨b,off+i,none⟩) (by show b<_;have:=HZ.o;omega)];exact hcw
   have hac:a<=c5:=by omega
   have HB4:=Lh ((Xr w3.heap.size w3).alloc (Yb _) (.cells #[] 9));have nk:=Lt ((w3.alloc (.cells #[] 9)).ownsRow w3.heap.size 9 1 (.slice (some ⟨w3.heap.size,0,none⟩) 0 0) 0 []) (⟨rfl,.inr ⟨w3.heap.size,0,#[],rfl,Yb _,Xn w3 _,Yb _,by simp[maxLen],rfl,rfl⟩⟩);have HR4:=Lh (HR3.o.below (HB4.o.mono Ob.o));have HT4:=Lt (((Zx out).take a).length=a*1) (by rw[Qq,Gm];have:=HOL.o;omega);go_wp2_with (at_builtin;refine Zy (m:=a) eK rfl rfl rfl rfl nk.o (HR4.o.take_ a) HT4.o (fun u hu=>iB _ u (List.mem_of_mem_take hu)) ?h63 ?hby ?hbase ?_)
   case h63=>simp only[maxLen];omega
   case hby=>omega
   case hbase=>exact HB4.o.size
   intro v8 w5 Dl Lu _ _;have HB5:=Lh (Zr HB4.o Lu nk.o (Yb _) HB4.o.size);obtain⟨A8,c8,dC,_,_⟩:=Zp Dl;subst dC;have HO5:=Lh Dl;clear Dl Lu nk HR4;generalize w3.alloc (.cells #[] 9)=w4 at*;have zvK:w5.cell? ⟨b,off+i,none⟩=some (wv x):=by rw[HB5.o.cell (p:=⟨b,off+i,none⟩) (by show b<_;have:=HZ.o;have:=Ob.o;omega)];exact hcx
   have HB6:=Lh ((Xr w5.heap.size w5).alloc (Yb _) (.cells #[wv x] 9));have Ea:=Lh (Xn w5 (.cells #[wv x] 9));have HZ5:=Lh HB5.o.size;have HO6:=Lh (Jc HO5.o HB6.o);clear hcx;go_wp2_with (at_builtin;refine Zy (m:=1) eK rfl rfl rfl rfl HO6.o (Rd.row (B:=w5.heap.size+1) Ea.o (Yf _)) rfl (by intro u hu;simp at hu;subst hu;rfl) ?h63 ?hby ?hbase ?_)
   case h63=>simp only[maxLen];omega
   case hby=>omega
   case hbase=>have:=HZ5.o;have:=HB6.o.size;omega
   intro v9 w7 Un Rk _ _;have HB7:=Lh (Zr (HB5.o.trans (HB6.o.mono HZ5.o)) Rk HO6.o (Yb _) (by have:=HZ5.o;have:=HB6.o.size;omega));obtain⟨A9,c9,hv9,_,_⟩:=Zp Un;subst hv9;have HO7:=Lh Un;clear Un Rk HO6 zvK;generalize w5.alloc (.cells #[wv x] 9)=w6 at*;have HR7:=Lh ((HR3.o.below (HB7.o.mono Ob.o)).drop_ a (cap:=c5) (by rw[Gm];have:=HOL.o;omega));have HT7:=Lt (((Zx out).drop a).length=(i-a)*1) (by rw[Xl,Gm];have:=HOL.o;omega);have HZ7:=Lh HB7.o.size;by_cases qxS:c5=a
   .skip
    have zvX:i-a=0:=by omega
    have hce:c5-a=0:=by omega
    have HD0:=Lt ((Zx out).drop a=[]) (List.drop_eq_nil_of_le (by rw[Gm];have:=HOL.o;omega));rw[HD0.o]at HT7;subst qxS;go_wp2_with (at_builtin;go_loud (refine Zy (m:=0) (B:=0) (news:=[]) eK rfl rfl rfl rfl HO7.o Rd.nil_ rfl (by simp) (by simp only[maxLen];omega) (by omega) HZ7.o ?_));intro v10 w8 Wk bD _ _;have HB8:=Lh (Zr HB7.o bD HO7.o (Yb _) HZ7.o);have HNO:=Lt (w8.ownsRow S 9 1 v10 (out.take c5++x::out.drop c5).length (Zx (out.take c5++x::out.drop c5))) (by
     have e:Zx (out.take c5++x::out.drop c5)=(Zx out).take c5++wv x::(Zx out).drop c5:=by
      rw[tD,pK]
      congr 1
      show wv x::Zx (out.drop c5)=_
      rw[pL]
     have el:(out.take c5++x::out.drop c5).length=i+1:=by
      rw[Qe,Qu,Qq,Xl]
      have:=HOL.o
      omega
     rw[e,el]
     rw[HD0.o,show i+1=c5+1 by omega]
     exact Nn Wk (Yd HZ.o Ob.o))
    have HNB:=Lt (Below S w w8) (HB.o.trans ((HB3.o.trans (HB8.o.mono Ob.o)).mono HZ.o));have HNZ:=Lt (S<=w8.heap.size) (Yd HZ.o (Yd Ob.o HB8.o.size));clear Wk bD;go_wp2;go_roundw;exact⟨i+1,_,by omega,by go_num,HSU3.o,HNO.o,HNB.o,HNZ.o⟩;simp[intOf];omega
   skip
   have HRb:=Lt (Rd w7 wo.heap.size (A5.map (·.add a)) ((Zx out).drop a)) (by have:=HR7.o;rwa [if_neg qxS]at this);go_wp2_with (at_builtin;go_loud (refine Zy (m:=i-a) eK rfl rfl rfl rfl HO7.o HRb.o HT7.o (fun u hu=>iB _ u (List.mem_of_mem_drop hu)) (by simp only[maxLen];omega) (by omega) HZ7.o ?_));intro v10 w8 Wk bD _ _;have HB8:=Lh (Zr HB7.o bD HO7.o (Yb _) HZ7.o);have HNO:=Lt (w8.ownsRow S 9 1 v10 (out.take a++x::out.drop a).length (Zx (out.take a++x::out.drop a))) (by
    have e:Zx (out.take a++x::out.drop a)=(Zx out).take a++wv x::(Zx out).drop a:=by
     rw[tD,pK]
     congr 1
     show wv x::Zx (out.drop a)=_
     rw[pL]
    have el:(out.take a++x::out.drop a).length=i+1:=by
     rw[Qe,Qu,Qq,Xl]
     have:=HOL.o
     omega
    rw[e,el]
    rw[show a+1+(i-a)=i+1 by omega]at Wk
    exact Nn Wk (Yd HZ.o Ob.o))
   have HNB:=Lt (Below S w w8) (HB.o.trans ((HB3.o.trans (HB8.o.mono Ob.o)).mono HZ.o));have HNZ:=Lt (S<=w8.heap.size) (Yd HZ.o (Yd Ob.o HB8.o.size));clear Wk bD;go_wp2;go_roundw;exact⟨i+1,_,by omega,by go_num,HSU3.o,HNO.o,HNB.o,HNZ.o⟩;simp[intOf];omega
 obtain rfl:i=n:=by omega
 have Jw:=Lt (wr.ownsRow S 9 1 u5 i (Zx (l.take stay++Jv (l.drop stay)))) (by
  have h1:=HI.o
  rw[HN.o]at h1
  have h2:=HO.o
  rw[h1.len (Yb _),h1.done]at h2
  rw[HN.o]
  exact h2)
 go_wp2;go_ret;exact⟨_,rfl,Jw.o,HB.o⟩
theorem oA{P:Program}{ty:TypeId}{p:Addr}(hu:P.underlying ty=some .string)(hc:w.cell? p=some v):(Instr.loadAt ty (.pointer (some p))).run P w=.ok v w:=by
 have iZ:(isAgg ty).run P w=.ok false w:=by
  unfold isAgg;rw[Zg,run_underlying hu w];rfl
 simp[Instr.loadAt,Instr.sureAddr,loadVar,iZ,hc]
theorem oO(v:Value)(ms:List Wd)(x:Wd)(M:Nat)(w:World)(h:Je Mi w M v (ms.map Jp))(hM:M<=w.heap.size)(hx:x∈ms) :
  Calls Tryz.prog 37 #[v,wv x] w fun e w'=>e=.returned (.int .i64 ((ms.idxOf x:Nat):Int))/\w=w':=by
 have hl:=List.idxOf_lt_length_of_mem hx;have e:idxOf (fun y=>decide (y=Jp x)) (ms.map Jp)=((ms.idxOf x:Nat):Int):=by
  refine By (by rw[Qk];exact hl) (fun j hj Aa=>?_) ?_
  .rw[Xf,Yl];intro e;have Mw:j<ms.length:=by rw[Qk]at hj;exact hj
   have e2:ms[j]=x:=by rw[<-Fu ms[j],e,Fu]
   have:=List.not_of_lt_findIdx (p:=(·==x)) (xs:=ms) Aa;simp[e2]at this
  rw[Xf,Yk,List.getElem_idxOf]
 have:=Hr v (ms.map Jp) (Jp x) w (h.more hM);rw[e]at this;exact this
theorem qcP{base:Nat}{n:Nat}{xs:List Wd}(h:w.ownsRow base t 1 v n (Zx xs))(hf:bI xs)(hn:n=xs.length):Je Mi w w.heap.size v (xs.map Jp):=by
 subst hn;have:=Av hf h;obtain⟨A,c,css,e,h1,h2,h3,h4,h5⟩:=this;refine⟨A,c,css,by rw[Qk];exact e,by rw[Qk];exact h1,h2,by rw[Qk];exact h3,h4,fun i cs x hc hx=>?_⟩;rw[Qv]at hx;cases hxi:xs[i]? with
 |none=>rw[hxi]at hx;cases hx
 |some y =>
  rw[hxi]at hx;injection hx with hx;subst hx;exact h5 i cs y hc hxi
theorem ue:∀(css:List (List Value))(a:Nat),(∀cs∈css,cs.length=2)->(css.take a).flatten=css.flatten.take (a*2)/\(css.drop a).flatten=css.flatten.drop (a*2)
 |[],a,_=>by simp
 |cs::r,0,_=>by simp
 |cs::r,a+1,h=>by
  have h1:=h cs (Xi ..);obtain⟨e1,e2⟩:=ue r a fun x hx=>h x (Xj _ hx);rw[List.take_succ_cons,Xy,List.flatten_cons,List.flatten_cons,e1,e2];refine⟨?_,?_⟩
  .rw[List.take_append,h1,Qd (l:=cs) (by omega),show (a+1)*2-2=a*2 by omega]
  rw[List.drop_append,h1,Xm (l:=cs) (by omega),List.nil_append,show (a+1)*2-2=a*2 by omega]
theorem Mp.ins{α:Type}{O:pD α}{w1:World}{N:Nat}{v1:Value}{xs:List α}{x:α}{css:List (List Value)}{cs:List Value}(h2:css.length=xs.length)(ha:a<=xs.length)(h3:∀(i:Nat)(cs:List Value)(x:α),css[i]?=some cs->xs[i]?=some x->O.rep w N cs x)
  (hx:O.rep w N cs x) (hk:Jk O.ts w w1) (ho:w1.ownsRow N t O.E.size v1 (xs.length+1) ((css.take a).flatten++cs++(css.drop a).flatten)):Mp O t w1 N v1 (xs.take a++x::xs.drop a):=by
 have l1:(css.take a).length=a:=by rw[Qq];omega
 have l2:(xs.take a).length=a:=by rw[Qq];omega
 have el:(xs.take a++x::xs.drop a).length=xs.length+1:=by
  rw[Qe,Qu,Qq,Xl];omega
 refine⟨css.take a++cs::css.drop a,?_,?_,fun i cs' x' hc aS=>?_⟩
 .rw[el,Qs,List.flatten_cons,<-Xd];exact ho
 .rw[el,Qe,Qu,Qq,Xl];omega
 by_cases h:i<a
 .rw[Qo (by omega),List.getElem?_take_of_lt h]at hc aS;exact O.keep (h3 i cs' x' hc aS) hk
 by_cases h4:i=a
 .subst h4;rw[Qn (by omega),l1,Nat.sub_self,List.getElem?_cons_zero]at hc;rw[Qn (by omega),l2,Nat.sub_self,List.getElem?_cons_zero]at aS;injection hc with hc;injection aS with aS;subst hc aS;exact O.keep hx hk
 rw[Qn (by omega),l1,show i-a=(i-a-1)+1 by omega,List.getElem?_cons_succ,List.getElem?_drop]at hc;rw[Qn (by omega),l2,show i-a=(i-a-1)+1 by omega,List.getElem?_cons_succ,List.getElem?_drop]at aS;exact O.keep (h3 _ cs' x' hc aS) hk
theorem Pj.put{w7 wr w8:World}{P:Nat}{u1 u2 v3 v':Value}{l l':List Jj}(h:Pj w7 P u1 u2 l v3 wr)(hb:Below wr.heap.size wr w8)(ho:Mp Rs 63 w8 w7.heap.size v' l'):Pj w7 P u1 u2 l' v' (w8.setCell ⟨P,2,none⟩ v'):=by
 have hz:=(gl h.row);have hr:=(hb.block P hz).trans h.row;have hk:=Lp (ts:=[63,3]) (k:=2) hr (by decide) v';refine⟨oH hr v',ho.keep hk,h.keep.trans ((Sf.of_below hb (Yb _)).trans ⟨by simp[World.setCell],rfl,rfl,rfl,fun k hk hn=>Zc _ _ _ _ hn⟩)⟩
def sT(l m:List Wd)(w:World)(e:Ending)(w':World):Prop:=∃v,e=.returned v/\w'.ownsRow w.heap.size 9 1 v l.length (Zx m)/\Below w.heap.size w w'
theorem pa(v:Value)(l:List Wd)(w:World)(h:Je eW w w.heap.size v l)(hn:l.length<=1048576):Calls Tryz.prog 36 #[v,.int .i64 1] w (sT l (Uj l) w):=kK v l 1 w h hn (by omega)
theorem oz(v:Value)(l:List Wd)(w:World)(h:Je eW w w.heap.size v l)(hn:l.length<=1048576):Calls Tryz.prog 36 #[v,.int .i64 0] w (sT l (Jv l) w):=by
 have:=kK v l 0 w h hn (by omega);unfold jM at this;rw[List.take_zero,List.drop_zero,List.nil_append]at this;exact this
theorem vu(v1 v2 v3:Value)(ns ts:List Wd)(rs:List Jj)(w:World)(hg:Su (ns.map Jp,ts.map Jp,rs))(h1:Je Mi w w.heap.size v1 (ns.map Jp))(h2:Je Mi w w.heap.size v2 (ts.map Jp))(h3:Je Vw w w.heap.size v3 rs) :
  Calls Tryz.prog 12 #[.agg #[v1,v2,v3]] w (zpD ns ts rs w):=by
 obtain⟨A1,c1,rfl,jZ,mY⟩:=h1.form;obtain⟨A2,c2,rfl,hb1,Jd⟩:=h2.form;obtain⟨A3,c3,rfl,mW,mV⟩:=h3.form;unfold maxLen at mY Jd mV;simp only[Qk]at h1 h2 jZ hb1 |-;have gV:=Lh hg;have H1:=Lh h1;have H2:=Lh h2;have H3:=Lh h3;clear h1 h2 h3 hg;obtain⟨n,sJ⟩:=Xe ns.length;obtain⟨m,su⟩:=Xe ts.length;obtain⟨q,hqq⟩:=Xe rs.length;rw[<-sJ]at H1 jZ |-;rw[<-su]at H2 hb1 |-;rw[<-hqq]at H3 mW |-;have dZ:=Lh sJ;have aF:=Lh su;have HQQ:=Lh hqq;have hnm:n+m<=256:=by have:=gV.o.nm;simp only[Qk]at this;omega
 have hn1:1<=n:=by have:=gV.o.n1;simp only[Qk]at this;omega
 have hq4:q<=4096:=by have:=gV.o.q;simp only at this;omega
 clear sJ su hqq;obtain⟨S,hS⟩:=Xe w.heap.size;have HS:=Lh hS;have HB1:=Lh (show Below S w ((w.alloc (.cells #[.slice A1 n c1,.slice A2 m c2,.slice A3 q c3] 25)).alloc (.cells #[.slice none 0 0,.slice none 0 0,.slice none 0 0] 25))from
  ((Xr S w).alloc (Yj hS) _).alloc (by rw[Xs];omega) _)
 have HG1:=Lh (show ((w.alloc (.cells #[.slice A1 n c1,.slice A2 m c2,.slice A3 q c3] 25)).alloc (.cells #[.slice none 0 0,.slice none 0 0,.slice none 0 0] 25)).heap[S]?=some (.cells #[.slice A1 n c1,.slice A2 m c2,.slice A3 q c3] 25 (0,0)) by
  rw[Zf _ _ _ (by rw[Xs];omega),hS]
  exact Xn w _)
 have HR1:=Lh (show ((w.alloc (.cells #[.slice A1 n c1,.slice A2 m c2,.slice A3 q c3] 25)).alloc (.cells #[.slice none 0 0,.slice none 0 0,.slice none 0 0] 25)).heap[S+1]?=some (.cells #[.slice none 0 0,.slice none 0 0,.slice none 0 0] 25 (0,0)) by
  have:=Xn (w.alloc (.cells #[.slice A1 n c1,.slice A2 m c2,.slice A3 q c3] 25)) (.cells #[.slice none 0 0,.slice none 0 0,.slice none 0 0] 25)
  rwa [Xs,<-hS]at this)
 rw[<-hS]at H1 H2 H3;go_enter Tryz.func12,Tryz.ntmps12;go_wp2_with fail;rw[<-hS];clear hS;generalize (w.alloc (.cells #[.slice A1 n c1,.slice A2 m c2,.slice A3 q c3] 25)).alloc (.cells #[.slice none 0 0,.slice none 0 0,.slice none 0 0] 25)=w2 at*;have qY:=Lt (w2.drew.heap[S]?=_) (HG1.o);have HR3:=Lt (w2.drew.heap[S+1]?=_) (HR1.o);have HB3:=Lt (Below S w w2.drew) (HB1.o.drew);have Ob:=Lt (S+1<w2.drew.heap.size) ((gl HR1.o));clear HG1 HR1 HB1;refine TextU.wp_anyInv (fun L a' w'=>∃x3 x16 x17 nq x19 x20 x21 x22:Value,a'=⟨List.toArray (.agg #[.slice A1 n c1,.slice A2 m c2,.slice A3 q c3]::.pointer (some ⟨S,0,none⟩)::.pointer (some ⟨S+1,0,none⟩)::x3::undef::undef::undef::undef::undef::undef::x16::x17::nq::x19::x20::x21::x22::undef::undef::undef::undef::undef::undef::undef::undef::undef::undef::undef::undef::undef::undef::undef::undef::undef::undef::undef::undef::undef::undef::undef::undef::undef::undef::undef::undef::undef::undef::undef::undef::undef::undef::undef::undef::undef::undef::undef::undef::undef::undef::undef::undef::undef::undef::undef::undef::undef::undef::undef::undef::undef::undef::undef::undef::undef::undef::undef::undef::undef::undef::undef::undef::undef::undef::undef::undef::undef::undef::undef::undef::undef::undef::undef::undef::undef::undef::undef::undef::undef::undef::undef::undef::undef::undef::undef::undef::undef::undef::undef::undef::undef::undef::undef::undef::undef::undef::undef::undef::undef::undef::undef::undef::undef::undef::[]),[]⟩/\Hid (Below w2.drew.heap.size w2.drew w')/\(L 0=true->x16=.pointer (some ⟨S,0,none⟩))/\(L 1=true->x17=.slice A1 n c1)/\(L 2=true->w'.ownsRow w2.drew.heap.size 9 1 nq n (Zx (Uj ns)))/\(L 3=true->x19=.pointer (some ⟨S,1,none⟩))/\(L 4=true->x20=.slice A2 m c2)/\(L 5=true->Lj w' w2.drew.heap.size nq x21 m (Zx (Jv ts)))/\(L 6=true->x22=.agg #[nq,x21,.slice none 0 0]) /\
  (L 7=true->L 8=false->Tv w' w2.drew.heap.size x3 #[.slice none 0 0,.slice none 0 0,.slice none 0 0] 25) /\
  (L 8=true->Tv w' w2.drew.heap.size x3 #[nq,x21,.slice none 0 0] 25)/\Hid (L 6=true->L 2=true/\L 5=true)/\Hid (L 8=true->L 7=true/\L 6=true)/\Hid (L 5=true->L 2=true)) (by kernel_rfl) (by kernel_rfl) ?_ ?_ ?_
 .exact⟨undef,undef,undef,undef,undef,undef,undef,undef,rfl,Xr _ _,by simp,by simp,by simp,by simp,by simp,by simp,by simp,by simp,by simp,by simp[Hid],by simp[Hid],by simp[Hid]⟩
 .have aq:=Lh (show ∀W,Below w2.drew.heap.size w2.drew W->Calls Tryz.prog 36 #[.slice A1 n c1,.int .i64 1] W (sT ns (Uj ns) W)from fun W hb=>by
   have h:=pa (.slice A1 n c1) ns W (zD (H1.o.fut (HB3.o.trans (hb.mono (show S<=w2.drew.heap.size by have:=Ob.o;omega))) (Yb _) (B':=W.heap.size) (Yd (show S<=w2.drew.heap.size by have:=Ob.o;omega) hb.size))) (by rw[<-dZ.o];omega)
   exact h)
  have pG:=Lh (show ∀W,Below w2.drew.heap.size w2.drew W->Calls Tryz.prog 36 #[.slice A2 m c2,.int .i64 0] W (sT ts (Jv ts) W)from fun W hb=>by
   have h:=oz (.slice A2 m c2) ts W (zD (H2.o.fut (HB3.o.trans (hb.mono (show S<=w2.drew.heap.size by have:=Ob.o;omega))) (Yb _) (B':=W.heap.size) (Yd (show S<=w2.drew.heap.size by have:=Ob.o;omega) hb.size))) (by rw[<-aF.o];omega)
   exact h)
  generalize w2.drew=w3 at*;intro j o L a' w' hj hL hd hJ J' Q' hJ' hQ';have HJ:=Lh hJ';clear hJ';have hj9:j<9:=(Qj.1 hj).1;obtain⟨x3,x16,x17,nq,x19,x20,x21,x22,rfl,HB,f0,f1,f2,f3,f4,f5,f6,f7,f8,f9,f10,f11⟩:=hJ;obtain rfl|rfl|rfl|rfl|rfl|rfl|rfl|rfl|rfl:j=0\/j=1\/j=2\/j=3\/j=4\/j=5\/j=6\/j=7\/j=8:=by omega
  all_goals
   injection hj with hj;subst hj
  focus
   go_wp2_with fail;refine HJ.o _ _ _ ⟨_,_,_,_,_,_,_,_,rfl,HB,?_,?_,?_,?_,?_,?_,?_,?_,?_,?_,?_,?_⟩
  rotate_left 12
  focus
   obtain rfl:=f0 (hd ⟨0,.data⟩ (by simp) rfl);have hc:w'.cell? ⟨S,0,none⟩=some (.slice A1 n c1):=by rw[Zd _ _ _ _ _ _ ((HB.o.block S (by have:=Ob.o;omega)).trans qY.o)];rfl
   go_wp2_with fail;refine HJ.o _ _ _ ⟨_,_,_,_,_,_,_,_,rfl,HB,?_,?_,?_,?_,?_,?_,?_,?_,?_,?_,?_,?_⟩
  rotate_left 12
  focus
   obtain rfl:=f1 (hd ⟨1,.data⟩ (by simp) rfl);have HC:=Lh (aq.o w' HB.o);go_wp2_with fail;refine HC.o.mono ?_;rintro e w'' ⟨v,rfl,ho,hb⟩;have HBX:=Lh (HB.o.trans (hb.mono HB.o.size));have g:=Nn ho HB.o.size;rw[<-dZ.o]at g;have G:=Lh g;have f7:=fun h h'=>Ws (f7 h h') hb;have f8:=fun h=>Ws (f8 h) hb;clear ho hb g;go_wp2_with fail;refine HJ.o _ _ _ ⟨_,_,_,_,_,_,_,_,rfl,HBX.o,?_,?_,?_,?_,?_,?_,?_,?_,?_,?_,?_,?_⟩
  rotate_left 12
  focus
   go_wp2_with fail;refine HJ.o _ _ _ ⟨_,_,_,_,_,_,_,_,rfl,HB,?_,?_,?_,?_,?_,?_,?_,?_,?_,?_,?_,?_⟩
  rotate_left 12
  focus
   obtain rfl:=f3 (hd ⟨3,.data⟩ (by simp) rfl);have hc:w'.cell? ⟨S,1,none⟩=some (.slice A2 m c2):=by rw[Zd _ _ _ _ _ _ ((HB.o.block S (by have:=Ob.o;omega)).trans qY.o)];rfl
   go_wp2_with fail;refine HJ.o _ _ _ ⟨_,_,_,_,_,_,_,_,rfl,HB,?_,?_,?_,?_,?_,?_,?_,?_,?_,?_,?_,?_⟩
  rotate_left 12
  focus
   obtain rfl:=f4 (hd ⟨4,.data⟩ (by simp) rfl);have HC:=Lh (pG.o w' HB.o);go_wp2_with fail;refine HC.o.mono ?_;rintro e w'' ⟨v,rfl,ho,hb⟩;have HBX:=Lh (HB.o.trans (hb.mono HB.o.size));have l2:=hd ⟨2,.chain⟩ (by simp) rfl;have g:Lj w'' w3.heap.size nq v m (Zx (Jv ts)):=⟨w'.heap.size,HB.o.size,fun k hk=>((f2 l2).lt k hk).2,by rw[<-aF.o]at ho;exact ho⟩;have G:=Lh g;have f2:=fun h=>Jc (f2 h) hb;have f7:=fun h h'=>Ws (f7 h h') hb;have f8:=fun h=>Ws (f8 h) hb;clear ho hb g;go_wp2_with fail;refine HJ.o _ _ _ ⟨_,_,_,_,_,_,_,_,rfl,HBX.o,?_,?_,?_,?_,?_,?_,?_,?_,?_,?_,?_,?_⟩
  rotate_left 12
  focus
   obtain⟨B1,e1,rfl,_⟩:=Zp (f2 (hd ⟨2,.data⟩ (by simp) rfl));obtain⟨_,_,_,o5⟩:=f5 (hd ⟨5,.data⟩ (by simp) rfl);obtain⟨B2,e2,rfl,_⟩:=Zp o5;go_wp2_with fail;have HBX:=Lh HB.o;refine HJ.o _ _ _ ⟨_,_,_,_,_,_,_,_,rfl,HBX.o,?_,?_,?_,?_,?_,?_,?_,?_,?_,?_,?_,?_⟩
  rotate_left 12
  focus
   have hb:Below w'.heap.size w' (w'.alloc (.cells #[.slice none 0 0,.slice none 0 0,.slice none 0 0] 25)):=(Xr _ _).alloc (Yb _) _;have HBX:=Lh (HB.o.trans (hb.mono HB.o.size));have f2:=fun h=>Jc (f2 h) hb;have f5:=fun h=>Hz (f5 h) (Jk.of_below hb);have Ea:=Lh (sP w' #[.slice none 0 0,.slice none 0 0,.slice none 0 0] 25 HB.o.size);clear hb;go_wp2_with fail;generalize w'.alloc (.cells #[.slice none 0 0,.slice none 0 0,.slice none 0 0] 25)=w5 at*;refine HJ.o _ _ _ ⟨_,_,_,_,_,_,_,_,rfl,HBX.o,?_,?_,?_,?_,?_,?_,?_,?_,?_,?_,?_,?_⟩
  rotate_left 12
  have l6:=hd ⟨6,.data⟩ (by simp) rfl;have l7:=hd ⟨7,.data⟩ (by simp) rfl;obtain⟨b,rfl,hbs,hbh⟩:=f7 l7 hL;obtain rfl:=f6 l6;have o2:=f2 (f9.o l6).1;obtain⟨M5,m51,m52,o5⟩:=f5 (f9.o l6).2;obtain⟨B1,e1,rfl,_⟩:=Zp o2;obtain⟨B2,e2,rfl,_⟩:=Zp o5;have yT:=Lh (Ds (ts:=[9]) (cs':=[Value.slice B1 n e1,.slice B2 m e2,.slice none 0 0].toArray) hbh (by decide));have O2:=Lh (Kg o2 yT.o (by simp));have O5:=Lh (Hz (show Lj w' w3.heap.size (.slice B1 n e1) (.slice B2 m e2) m (Zx (Jv ts))from ⟨M5,m51,m52,o5⟩) yT.o);have HST:=Lh (Fh (P:=Tryz.prog) (ty:=25) (vs:=[Value.slice B1 n e1,.slice B2 m e2,.slice none 0 0]) (v:=.agg #[.slice B1 n e1,.slice B2 m e2,.slice none 0 0]) rfl (by kernel_rfl) hbh rfl (by simp[Value.oneCell']));have HBX:=Lh (Zk HB.o hbs [Value.slice B1 n e1,.slice B2 m e2,.slice none 0 0].toArray);have HB8:=Lt (Tv (w'.setRow b [Value.slice B1 n e1,.slice B2 m e2,.slice none 0 0].toArray) w3.heap.size (.pointer (some ⟨b,0,none⟩)) #[.slice B1 n e1,.slice B2 m e2,.slice none 0 0] 25) (⟨b,rfl,hbs,Zj _ _ _ _ _ _ hbh⟩);clear o2 o5;go_wp2_with (refine Zv none rfl ?_);refine Stop.go (Zo rfl 25 rfl rfl rfl HST.o ?_);generalize w'.setRow b [Value.slice B1 n e1,.slice B2 m e2,.slice none 0 0].toArray=w5 at*;(conv in Act.put _ _ _=>simp[Act.put]);go_wp2_with fail;refine HJ.o _ _ _ ⟨_,_,_,_,_,_,_,_,rfl,HBX.o,?_,?_,?_,?_,?_,?_,?_,?_,?_,?_,?_,?_⟩
  all_goals first|exact fun _=>rfl|exact xqQ (by assumption)|exact fun h=>Xo (f11.o (Xb h))|exact fun h h'=>f7 (Xb h) (TextU.andL_off h')|exact fun h=>⟨Xo (f9.o (Xb h)).1,Xo (f9.o (Xb h)).2⟩|exact fun h=>⟨Xo (f10.o (Xb h)).1,Xo (f10.o (Xb h)).2⟩|exact fun _=>G.o|exact fun h=>absurd (f11.o (Xb h)) (by rw[hL];decide)|exact fun h=>absurd (f9.o (Xb h)).1 (by rw[hL];decide)|exact fun h=>absurd (f9.o (f10.o (Xb h)).2).1 (by rw[hL];decide)|exact fun _=>Xo l2|exact fun h=>absurd (f9.o (Xb h)).2 (by rw[hL];decide)|exact fun h=>absurd (f9.o (f10.o (Xb h)).2).2 (by rw[hL];decide)|exact fun _=>⟨Xo (hd ⟨2,.data⟩ (by simp) rfl),Xo (hd ⟨5,.data⟩ (by simp) rfl)⟩|exact fun _ _=>Ea.o|exact fun h=>absurd (f10.o (Xb h)).1 (by rw[hL];decide)|exact fun _=>O2.o|exact fun _=>O5.o|exact fun _ h'=>absurd h' (by rw[TextU.andL_self];decide)|exact fun _=>HB8.o|exact fun _=>⟨Xo l7,Xo l6⟩
 have yq:=Lt (S+1<w2.drew.heap.size) (Ob.o);generalize w2.drew=w3 at*;intro L a' w4 Wc hJ;obtain⟨x3,x16,x17,nq,x19,x20,x21,x22,rfl,HB,f0,f1,f2,f3,f4,f5,f6,f7,f8,f9,f10,f11⟩:=hJ;obtain rfl:=f0 (Wc 0 (by decide));obtain rfl:=f1 (Wc 1 (by decide));have HU:=Lh (f2 (Wc 2 (by decide)));obtain rfl:=f3 (Wc 3 (by decide));obtain rfl:=f4 (Wc 4 (by decide));obtain⟨MV,qxF,u_,hv⟩:=f5 (Wc 5 (by decide));have HV:=Lh hv;clear qxF u_ hv;obtain rfl:=f6 (Wc 6 (by decide));obtain⟨P,rfl,hPS,hP⟩:=f8 (Wc 8 (by decide));have HP:=Lh hP;clear f0 f1 f2 f3 f4 f5 f6 f7 f8 f9 f10 f11 hP Wc;obtain⟨B1,e1,rfl,wJ,Hn⟩:=Zp HU.o;obtain⟨B2,e2,rfl,hl3,hl4⟩:=Zp HV.o;unfold maxLen at Hn hl4;have HG4:=Lh ((HB.o.block S (by have:=yq.o;omega)).trans qY.o);have HR4:=Lh ((HB.o.block (S+1) yq.o).trans HR3.o);have HB4:=Lh (HB3.o.trans (HB.o.mono (show S<=w3.heap.size by have:=yq.o;omega)));have HBW:=Lt (∀W,Sf P w4 W->Below S w W) (fun W hk=>HB4.o.trans ⟨hk.os,hk.tape,hk.output,hk.size,fun j hj=>hk.block j (Ye hj (by have:=(gl HG4.o);omega)) (by have:=hPS;have:=yq.o;omega)⟩);have HLC:=Lt (Pj w4 P (.slice B1 n e1) (.slice B2 m e2) [] (.slice none 0 0) w4) (⟨HP.o,Mp.nil _ _,⟨Yb _,rfl,rfl,rfl,fun _ _ _=>rfl⟩⟩);have HIR:=Lh (rU.zero (rs.map (Ec ns ts (Uj ns) (Jv ts))));have qsX:=Lt (S<w4.heap.size) ((gl HG4.o));have HPS:=Lh (show S≠P by have:=hPS;have:=yq.o;omega);clear HB;go_wp2_with fail;go_loopw [4] (fun v4 wr=>∃(k:Nat)(out:List Jj)(v3:Value),k<=q/\v4=.int .i64 k/\Hid (rU (rs.map (Ec ns ts (Uj ns) (Jv ts))) k out)/\Hid (Pj w4 P (.slice B1 n e1) (.slice B2 m e2) out v3 wr)) (fun v4 _=>q-(intOf v4).toNat);exact⟨0,[],_,by omega,rfl,HIR.o,HLC.o⟩;clear HIR HLC;obtain⟨k,out,v3,hk,rfl,HIR,HLC⟩:=hrel;have Ej:=Lh ((HLC.o.keep.block S qsX.o HPS.o).trans HG4.o);have HBR:=Lh (HBW.o wr HLC.o.keep);have ig:=Lh (Ye qsX.o HLC.o.keep.size);obtain⟨g0,g1,g2⟩:=Zq Ej.o;by_cases Jl:k<q
 .have Du:k<rs.length:=by rw[<-HQQ.o];exact Jl
  obtain⟨bb,off,cs,rfl,_,iY,Ja,Zn⟩:=(H3.o.below HBR.o).get Du (by decide);obtain⟨v,rfl,Mo,Ik,Si⟩:=Kn Ja;obtain⟨A6,c6,rfl,Ct,jW⟩:=Mo.form;unfold maxLen at jW;have rG:=Zn 0 _ rfl;have Sr:=Zn 1 _ rfl;simp only[show Vw.size=2 from rfl,Yq,<-Yy]at rG Sr;have jQ:=Lh (gV.o.fit rs[k] (Qg Du));have HSL:=Lh Mo;have HRC:=Lt (∀W,Below wr.heap.size wr W->W.cell? ⟨bb,off+k*2,none⟩=some (.int .i64 rs[k].1)/\W.cell? ⟨bb,off+k*2+1,none⟩=some (.slice A6 rs[k].2.length c6)) (fun W hb=>⟨(hb.cell (p:=⟨bb,off+k*2,none⟩) (by show bb<_;have:=ig.o;omega)).trans rG,(hb.cell (p:=⟨bb,off+k*2+1,none⟩) (by show bb<_;have:=ig.o;omega)).trans Sr⟩);have zgT:=Lh (fun(kk:Nat)(a)(b)(c)=>HIR.o.succ (k:=kk) (by rw[Qk];exact Du) a b c);have yU:=Lt ((rs.map (Ec ns ts (Uj ns) (Jv ts)))[k]'(by rw[Qk];exact Du)=Ec ns ts (Uj ns) (Jv ts) rs[k]) (Xf ..);rw[yU.o]at zgT;clear Zn Ja Mo yU;obtain⟨r,hr⟩:=Xe (rs[k]);rw[<-hr]at rG Sr jQ HSL HRC Ct Ik Si zgT;clear hr;obtain⟨p,hpe⟩:=Xe r.2.length;rw[<-hpe]at Sr HSL HRC Ct;have HPP:=Lh hpe;clear hpe;have HFI:=Lt ((0<=r.1/\r.1<ns.length)/\r.2.length<=64/\∀s∈r.2,Vc ns.length ts.length s) (by
   have h:=jQ.o
   simp only[Qk]at h
   exact h)
  obtain⟨F,hF⟩:=Xe (Gr ns ts (Uj ns) (Jv ts));have HRM:=Lh (show Ec ns ts (Uj ns) (Jv ts) r=(F r.1,r.2.map F) by rw[hF];rfl);have HFB:=Lt (∀s,Vc ns.length ts.length s->Vc ns.length ts.length (F s)) (fun s hs=>by rw[hF];exact Pu (Us ns) (Vq ts) hs);have HFP:=Lh (show ∀(s:Int)(x:Nat)(h:x<ns.length),s=(x:Int)->F s=(((Uj ns).idxOf ns[x]:Nat):Int)from fun s x h e=>by
   rw[hF,e]
   unfold Gr
   rw[if_neg (by omega),Yz]
   simp[h])
  have HFN:=Lh (show ∀(s:Int)(x:Nat)(h:x<ts.length),s=-1-(x:Int)->F s=-1-(((Jv ts).idxOf ts[x]:Nat):Int)from fun s x h e=>by
   rw[hF]
   unfold Gr
   rw[if_pos (by omega),show (-1-s).toNat=x by omega]
   simp[h])
  clear hF jQ;have znC:=Lt (∀W,Sf P w4 W->Je Mi W W.heap.size (.slice B1 n e1) ((Uj ns).map Jp)) (fun W hk=>qcP (Kg HU.o (hk.T (ts:=[9]) HP.o (by decide)) (by simp)) (show bI (Uj ns)from fun x hx=>(zD H1.o).fits x ((Us ns).mem_iff.1 hx)) (by rw[Pc];exact dZ.o));have zxU:=Lt (∀W,Sf P w4 W->Je Mi W W.heap.size (.slice B2 m e2) ((Jv ts).map Jp)) (fun W hk=>qcP (Kg HV.o (hk.T (ts:=[9]) HP.o (by decide)) (by simp)) (show bI (Jv ts)from fun x hx=>(zD H2.o).fits x ((Vq ts).mem_iff.1 hx)) (by rw[Fq];exact aF.o));have HKW:=Lt (∀W,Below wr.heap.size wr W->Sf P w4 W) (fun W hb=>HLC.o.keep.trans (Sf.of_below hb (Yb _)));obtain⟨lk,hlk⟩:∃lk:Nat,r.1=(lk:Int):=⟨r.1.toNat,by have:=HFI.o.1.1;omega⟩;have qxH:lk<ns.length:=by have:=HFI.o.1.2;omega
  have jcM:lk<n:=by rw[dZ.o];exact qxH
  obtain⟨bq,oq,cs,hAq,_,Ri,Ja,Zn⟩:=(H1.o.below HBR.o).get (k:=lk) (by rw[Qk];exact qxH) (by decide);subst hAq;obtain⟨rfl,hxq⟩:=Ja;have hcq:=Zn 0 _ rfl;simp only[show Mi.size=1 from rfl,Ys,Yq,Xf]at hcq;clear Zn hxq;have HFX:=Lh (HFP.o r.1 lk qxH hlk);have HFW:=Lh (show ∀W,Below wr.heap.size wr W->Calls Tryz.prog 37 #[.slice B1 n e1,wv ns[lk]] W fun e w'=>e=.returned (.int .i64 (F r.1))/\W=w' from fun W hb=>by
   rw[HFX.o]
   exact oO (.slice B1 n e1) (Uj ns) ns[lk] W.heap.size W (znC.o W (HKW.o W hb)) (Yb _) ((Us ns).mem_iff.2 (Qg qxH)))
  change wr.cell? ⟨bq,oq+lk,none⟩=some (wv ns[lk])at hcq;have HCQ:=Lt (∀W,Below wr.heap.size wr W->W.cell? ⟨bq,oq+lk,none⟩=some (wv ns[lk])) (fun W hb=>(hb.cell (p:=⟨bq,oq+lk,none⟩) (by show bq<_;have:=ig.o;omega)).trans hcq);have HB0:=Lt (-9223372036854775808<=F r.1/\F r.1<=9223372036854775807) (by
   have h:=HFB.o r.1 ⟨by omega,HFI.o.1.2⟩
   unfold Vc at h
   have e1:=dZ.o
   have e2:=aF.o
   omega)
  have HPR:=Lt (∀W,Below wr.heap.size wr W->W.heap[P]?=some (.cells #[.slice B1 n e1,.slice B2 m e2,v3] 25 (0,0))) (fun W hb=>(hb.block P (gl HLC.o.row)).trans HLC.o.row);have HSW:=Lt (∀W,Below wr.heap.size wr W->W.heap[S]?=some (.cells #[.slice (some ⟨bq,oq,none⟩) n c1,.slice A2 m c2,.slice (some ⟨bb,off,none⟩) q c3] 25 (0,0))) (fun W hb=>(hb.block S ig.o).trans Ej.o);rw[hlk]at rG HRC;generalize ns[lk]=xq at*;generalize F r.1=M0 at*;go_wp2_with fail;clear g0 g1 g2 rG Sr hcq
  go_cut [5] (fun v5 wx=>∃b5:Nat,v5=.pointer (some ⟨b5,0,none⟩)/\b5=wr.heap.size/\Hid (yp wr b5 M0 [] (.slice none 0 0) wx))
  case first =>
   have yu:=Lt (Below wr.heap.size wr wr.drew) ((Xr _ _).drew);refine Ny (fun w'=>Below wr.drew.heap.size wr.drew w') [15] 16 (by kernel_rfl) rfl ?_;have HZD:=Lt (wr.drew.heap.size=wr.heap.size) (rfl);generalize wr.drew=wd at*;have HLA:=Lh (show ∀W,Below wd.heap.size wd W->W.cell? ⟨P,0,none⟩=some (.slice B1 n e1)/\W.cell? ⟨S,0,none⟩=some (.slice (some ⟨bq,oq,none⟩) n c1)/\W.cell? ⟨S,2,none⟩=some (.slice (some ⟨bb,off,none⟩) q c3)/\W.cell? ⟨bb,off+k*2,none⟩=some (.int .i64 (lk:Int))/\W.cell? ⟨bq,oq+lk,none⟩=some (wv xq)from fun W hb=>by
    have hb':Below wr.heap.size wr W:=yu.o.trans (by rw[<-HZD.o];exact hb)
    exact⟨(Zq (HPR.o W hb')).1,(Zq (HSW.o W hb')).1,(Zq (HSW.o W hb')).2.2,(HRC.o W hb').1,HCQ.o W hb'⟩)
   have Ul:=Lh (Xr wd.heap.size wd);refine Rh 0 (.pointer (some ⟨P,0,none⟩)) rfl (by kernel_rfl) rfl (fun wq=>by go_simp) Ul.o ?_;(conv in Act.put _ _ _=>simp[Act.put]);refine jT 1 (.slice B1 n e1) rfl (by kernel_rfl) rfl (fun wq Ri=>Kc rfl rfl (Vs (e:=9) (by kernel_rfl) (HLA.o wq Ri).1)) Ul.o ?_;(conv in Act.put _ _ _=>simp[Act.put]);refine Rh 2 (.pointer (some ⟨S,0,none⟩)) rfl (by kernel_rfl) rfl (fun wq=>by go_simp) Ul.o ?_;(conv in Act.put _ _ _=>simp[Act.put]);refine jT 3 (.slice (some ⟨bq,oq,none⟩) n c1) rfl (by kernel_rfl) rfl (fun wq Ri=>Kc rfl rfl (Vs (e:=9) (by kernel_rfl) (HLA.o wq Ri).2.1)) Ul.o ?_;(conv in Act.put _ _ _=>simp[Act.put]);refine Rh 4 (.pointer (some ⟨S,2,none⟩)) rfl (by kernel_rfl) rfl (fun wq=>by go_simp) Ul.o ?_;(conv in Act.put _ _ _=>simp[Act.put]);refine jT 5 (.slice (some ⟨bb,off,none⟩) q c3) rfl (by kernel_rfl) rfl (fun wq Ri=>Kc rfl rfl (Vs (e:=63) (by kernel_rfl) (HLA.o wq Ri).2.2.1)) Ul.o ?_;(conv in Act.put _ _ _=>simp[Act.put]);refine Rh 6 (.int .i64 (k:Int)) rfl (by kernel_rfl) rfl (fun wq=>by go_simp) Ul.o ?_;(conv in Act.put _ _ _=>simp[Act.put]);refine Rh 7 (.pointer (some ⟨bb,off+k*2,none⟩)) rfl (by kernel_rfl) rfl (fun wq=>by go_simp) Ul.o ?_;(conv in Act.put _ _ _=>simp[Act.put]);refine Rh 8 (.pointer (some ⟨bb,off+k*2,none⟩)) rfl (by kernel_rfl) rfl (fun wq=>by go_simp) Ul.o ?_;(conv in Act.put _ _ _=>simp[Act.put]);refine jT 9 (.int .i64 (lk:Int)) rfl (by kernel_rfl) rfl (fun wq Ri=>Kc rfl rfl (vX (k:=.i64) (by kernel_rfl) (HLA.o wq Ri).2.2.2.1)) Ul.o ?_;(conv in Act.put _ _ _=>simp[Act.put]);refine Rh 10 (.pointer (some ⟨bq,oq+lk,none⟩)) rfl (by kernel_rfl) rfl (fun wq=>by go_simp) Ul.o ?_;(conv in Act.put _ _ _=>simp[Act.put]);refine jT 11 (wv xq) rfl (by kernel_rfl) rfl (fun wq Ri=>Kc rfl rfl (oA (by kernel_rfl) (HLA.o wq Ri).2.2.2.2)) Ul.o ?_;(conv in Act.put _ _ _=>simp[Act.put]);refine qvF (i:=12) (j:=14) (by kernel_rfl) rfl rfl (fun Q' hQ'=>?_) (fun Q' hQ'=>?_)
   .go_wp2_with fail;refine (HFW.o wd yu.o).mono ?_;rintro e w10 ⟨rfl,rfl⟩;go_wp2_with fail;refine⟨iP Ul.o,?_⟩;refine Rh 13 (.agg #[.int .i64 M0,.slice none 0 0]) rfl (by kernel_rfl) rfl (fun wq=>by go_simp) Ul.o ?_;(conv in Act.put _ _ _=>simp[Act.put]);have HB3:=Lh ((Xr wd.heap.size wd).alloc (Yb _) (.cells #[.int .i64 0,.slice none 0 0] 63));have HR3:=Lh (Xn wd (.cells #[.int .i64 0,.slice none 0 0] 63));refine Jf (i:=14) (by kernel_rfl) rfl (fun Q' hQ'=>?_);go_wp2_with fail;generalize wd.alloc (.cells #[.int .i64 0,.slice none 0 0] 63)=w3 at*;refine⟨iP HB3.o,?_⟩;have qtB:=Lh (yp.mk (w2:=wr) (b9:=wr.heap.size) (M0:=M0) (l:=[]) (v9:=.slice none 0 0) (wz:=w3.setRow wd.heap.size [.int .i64 M0,.slice none 0 0].toArray) (by rw[<-HZD.o];exact Zj _ _ _ _ _ _ HR3.o) (Mp.nil _ _) (Zk (yu.o.trans (by rw[<-HZD.o];exact HB3.o)) (Yj HZD.o.symm) _));refine Jf (i:=15) (by kernel_rfl) rfl (fun Q' hQ'=>?_);go_wp2_with (refine Zv none rfl ?_);refine Stop.go (Zo rfl 63 rfl rfl rfl (Fh (vs:=[.int .i64 M0,.slice none 0 0]) rfl (by kernel_rfl) HR3.o rfl (by intro u hu;simp at hu;rcases hu with rfl|rfl <;> rfl)) ?_);generalize w3.setRow wd.heap.size [.int .i64 M0,.slice none 0 0].toArray=w5 at*;(conv in Act.put _ _ _=>simp[Act.put]);go_wp2_with fail;refine⟨Km (by kernel_rfl),?_⟩;refine Gi (by kernel_rfl) ?_ _;go_wp2_with fail
    go_meet
    exact⟨_,by rw[HZD.o],rfl,qtB.o⟩
   have HB3:=Lh ((Xr wd.heap.size wd).alloc (Yb _) (.cells #[.int .i64 0,.slice none 0 0] 63));have HR3:=Lh (Xn wd (.cells #[.int .i64 0,.slice none 0 0] 63));go_wp2_with fail;generalize wd.alloc (.cells #[.int .i64 0,.slice none 0 0] 63)=w3 at*;refine⟨iP HB3.o,?_⟩;refine Jf (i:=12) (by kernel_rfl) rfl (fun Q' hQ'=>?_);go_wp2_with fail;refine (HFW.o w3 (yu.o.trans (by rw[<-HZD.o];exact HB3.o))).mono ?_;rintro e w10 ⟨rfl,rfl⟩;go_wp2_with fail;refine⟨iP HB3.o,?_⟩;refine Jf (i:=13) (by kernel_rfl) rfl (fun Q' hQ'=>?_);go_wp2_with fail;refine⟨iP HB3.o,?_⟩;have qtB:=Lh (yp.mk (w2:=wr) (b9:=wr.heap.size) (M0:=M0) (l:=[]) (v9:=.slice none 0 0) (wz:=w3.setRow wd.heap.size [.int .i64 M0,.slice none 0 0].toArray) (by rw[<-HZD.o];exact Zj _ _ _ _ _ _ HR3.o) (Mp.nil _ _) (Zk (yu.o.trans (by rw[<-HZD.o];exact HB3.o)) (Yj HZD.o.symm) _));refine Jf (i:=15) (by kernel_rfl) rfl (fun Q' hQ'=>?_);go_wp2_with (refine Zv none rfl ?_);refine Stop.go (Zo rfl 63 rfl rfl rfl (Fh (vs:=[.int .i64 M0,.slice none 0 0]) rfl (by kernel_rfl) HR3.o rfl (by intro u hu;simp at hu;rcases hu with rfl|rfl <;> rfl)) ?_);generalize w3.setRow wd.heap.size [.int .i64 M0,.slice none 0 0].toArray=w5 at*;(conv in Act.put _ _ _=>simp[Act.put]);go_wp2_with fail;refine⟨Km (by kernel_rfl),?_⟩;refine Gi (by kernel_rfl) ?_ _;go_wp2_with fail
   go_meet
   exact⟨_,by rw[HZD.o],rfl,qtB.o⟩
  case rest =>
   obtain⟨b5,rfl,hb5,HIN⟩:=hcut;have HBZ:=Lh hb5;clear hb5;generalize wc=w5 at*;generalize wr=wo at*;have HIN0:=Lt (yp wo b5 M0 ((r.2.take 0).map F) (.slice none 0 0) w5) (HIN.o);clear HIN;go_wp2_with fail;go_loopw [6] (fun v6 wr=>∃(j:Nat)(v9:Value),j<=p/\v6=.int .i64 j/\Hid (yp wo b5 M0 ((r.2.take j).map F) v9 wr)) (fun v6 _=>p-(intOf v6).toNat);exact⟨0,_,by omega,rfl,HIN0.o⟩;clear HIN0;obtain⟨j,v9,hj,rfl,HIN⟩:=hrel;have HLN:=Lh (show ((r.2.take j).map F).length=j by rw[Qk,Qq];have:=HPP.o;omega);have rY:=Lt (Below wo.heap.size wo wr) (HIN.o.keep.mono (Yj HBZ.o.symm));obtain⟨A9,c9,hv9,qpC,zjM⟩:=HIN.o.own.form;rw[HLN.o]at hv9 qpC;subst hv9;obtain⟨g0,g1,g2⟩:=Zq (HSW.o wr rY.o);have Sr:=(HRC.o wr rY.o).2;have Nu:=HIN.o.row;by_cases Mw:j<p
   .have jx:j<r.2.length:=by rw[<-HPP.o];exact Mw
    obtain⟨b7,o7,cs,rfl,_,_,Ja,Zn⟩:=(HSL.o.below (rY.o.mono (Yh ig.o))).get jx (by decide);obtain⟨rfl,Gc,eR⟩:=Ja;have ey:=Zn 0 _ rfl;simp only[show Wg.size=1 from rfl,Ys,Yq]at ey;clear Zn;have HSY:=Lh (HFI.o.2.2 r.2[j] (Qg jx));have qsU:=Lh (show (r.2.take (j+1)).map F=(r.2.take j).map F++[F r.2[j]] by rw[Qc jx,Qt,List.map_singleton]);obtain⟨s,hs⟩:=Xe (r.2[j]);rw[<-hs]at ey HSY qsU Gc eR;clear hs;have HBM:=Lt (-9223372036854775808<=F s/\F s<=9223372036854775807) (by
     have h:=HFB.o s HSY.o
     unfold Vc at h
     have e1:=dZ.o
     have e2:=aF.o
     omega)
    obtain⟨p0,p1,_⟩:=Zq (HPR.o wr rY.o);have qdQ:=HPR.o wr rY.o;have qdP:=HSW.o wr rY.o;by_cases wI:s<0
    .obtain⟨kt,jX⟩:∃kt:Nat,s=-1-(kt:Int):=⟨(-1-s).toNat,by omega⟩;have rH:kt<ts.length:=by have h:-(ts.length:Int)<=s:=HSY.o.1;omega
     have zkW:kt<m:=by rw[aF.o];exact rH
     obtain⟨bt,ot,cs,rfl,_,hbt,Ja,Zn⟩:=(H2.o.below HBR.o).get (k:=kt) (by rw[Qk];exact rH) (by decide);obtain⟨rfl,hxt⟩:=Ja;have hct:=Zn 0 _ rfl;simp only[show Mi.size=1 from rfl,Ys,Yq,Xf]at hct;clear Zn hxt;change wo.cell? ⟨bt,ot+kt,none⟩=some (wv ts[kt])at hct;have HFX:=Lh (HFN.o s kt rH jX);have HFW:=Lh (show ∀W,Below wo.heap.size wo W->Calls Tryz.prog 37 #[.slice B2 m e2,wv ts[kt]] W fun e w'=>e=.returned (.int .i64 (((Jv ts).idxOf ts[kt]:Nat):Int))/\W=w' from fun W hb=>oO (.slice B2 m e2) (Jv ts) ts[kt] W.heap.size W (zxU.o W (HKW.o W hb)) (Yb _) ((Vq ts).mem_iff.2 (Qg rH)));have HIX:=Lt ((Jv ts).idxOf ts[kt]<=256) (by
      have h1:=List.idxOf_lt_length_of_mem ((Vq ts).mem_iff.2 (Qg rH))
      rw[Fq]at h1
      have e2:=aF.o
      omega)
     have yC:=Lt (∀W,Below wo.heap.size wo W->W.cell? ⟨P,1,none⟩=some (.slice B2 m e2)/\W.cell? ⟨S,1,none⟩=some (.slice (some ⟨bt,ot,none⟩) m c2)/\W.cell? ⟨bt,ot+kt,none⟩=some (wv ts[kt])) (fun W hb=>⟨(Zq (HPR.o W hb)).2.1,(Zq (HSW.o W hb)).2.1,(hb.cell (p:=⟨bt,ot+kt,none⟩) (by show bt<_;have:=ig.o;omega)).trans hct⟩);have hcq:=(yC.o wr rY.o).2.2;have HFE:=Lt (-1-(((Jv ts).idxOf ts[kt]:Nat):Int)=F s) (HFX.o.symm);have hixb:=HIX.o;generalize (Jv ts).idxOf ts[kt]=ix at*;generalize ts[kt]=xt at*;generalize F s=M1 at*;have e1:-1-s=(kt:Int):=by omega
     have d1:decide (s<0)=true:=by simpa using wI
     clear wI jX rH hct;go_wp2_with fail;have Ul:=Lt (wr.drew.cell? ⟨b5,1,none⟩=some (.slice A9 j c9)/\wr.drew.cell? ⟨P,1,none⟩=some (.slice B2 m e2)/\wr.drew.cell? ⟨S,1,none⟩=some (.slice (some ⟨bt,ot,none⟩) m c2)/\wr.drew.cell? ⟨bt,ot+kt,none⟩=some (wv xt)) (⟨by rw[Zd wr.drew _ _ _ _ _ Nu];rfl,by rw[Zd wr.drew _ _ _ _ _ qdQ];rfl,by rw[Zd wr.drew _ _ _ _ _ qdP];rfl,hcq⟩);refine Ny (fun w'=>w'.cell? ⟨b5,1,none⟩=some (.slice A9 j c9)/\w'.cell? ⟨P,1,none⟩=some (.slice B2 m e2)/\w'.cell? ⟨S,1,none⟩=some (.slice (some ⟨bt,ot,none⟩) m c2)/\w'.cell? ⟨bt,ot+kt,none⟩=some (wv xt)) [14] 16 (by kernel_rfl) rfl ?_;have mM:=Lt (yp wo b5 M0 ((r.2.take j).map F) (.slice A9 j c9) wr.drew) (⟨HIN.o.row,HIN.o.own.below ((Xr wr.heap.size wr).drew),HIN.o.keep.drew⟩);have bU:=Lt (Below wo.heap.size wo wr.drew) (rY.o.drew);clear HIN rY Nu qdQ qdP hcq g0 g1 g2 p0 p1 Sr ey;generalize wr.drew=wd at*;refine Rh 0 (.pointer (some ⟨b5,1,none⟩)) rfl (by kernel_rfl) rfl (fun wq=>by go_simp) Ul.o ?_;(conv in Act.put _ _ _=>simp[Act.put]);refine jT 1 (.slice A9 j c9) rfl (by kernel_rfl) rfl (fun wq Ri=>Kc rfl rfl (Vs (e:=3) (by kernel_rfl) Ri.1)) Ul.o ?_;(conv in Act.put _ _ _=>simp[Act.put]);refine Rh 2 (.pointer (some ⟨P,1,none⟩)) rfl (by kernel_rfl) rfl (fun wq=>by go_simp) Ul.o ?_;(conv in Act.put _ _ _=>simp[Act.put]);refine jT 3 (.slice B2 m e2) rfl (by kernel_rfl) rfl (fun wq Ri=>Kc rfl rfl (Vs (e:=9) (by kernel_rfl) Ri.2.1)) Ul.o ?_;(conv in Act.put _ _ _=>simp[Act.put]);refine Rh 4 (.pointer (some ⟨S,1,none⟩)) rfl (by kernel_rfl) rfl (fun wq=>by go_simp) Ul.o ?_;(conv in Act.put _ _ _=>simp[Act.put]);refine jT 5 (.slice (some ⟨bt,ot,none⟩) m c2) rfl (by kernel_rfl) rfl (fun wq Ri=>Kc rfl rfl (Vs (e:=9) (by kernel_rfl) Ri.2.2.1)) Ul.o ?_;(conv in Act.put _ _ _=>simp[Act.put]);refine Rh 6 (.int .i64 s) rfl (by kernel_rfl) rfl (fun wq=>by go_simp) Ul.o ?_;(conv in Act.put _ _ _=>simp[Act.put]);refine Rh 7 (.int .i64 (kt:Int)) rfl (by kernel_rfl) rfl (fun wq=>by go_simp;rw[IntKind.wrap_i64];omega) Ul.o ?_;(conv in Act.put _ _ _=>simp[Act.put]);refine Rh 8 (.pointer (some ⟨bt,ot+kt,none⟩)) rfl (by kernel_rfl) rfl (fun wq=>by go_simp) Ul.o ?_;(conv in Act.put _ _ _=>simp[Act.put]);refine jT 9 (wv xt) rfl (by kernel_rfl) rfl (fun wq Ri=>Kc rfl rfl (oA (by kernel_rfl) Ri.2.2.2)) Ul.o ?_;(conv in Act.put _ _ _=>simp[Act.put]);refine Jf (i:=10) (by kernel_rfl) rfl (fun Q' hQ'=>?_);go_wp2_with fail;refine (HFW.o wd bU.o).mono ?_;rintro e w10 ⟨rfl,rfl⟩;go_wp2_with fail;refine⟨iP Ul.o,?_⟩;refine Jf (i:=11) (by kernel_rfl) rfl (fun Q' hQ'=>?_);go_wp2_with fail;refine⟨iP Ul.o,?_⟩;rw[HFE.o];have HB3:=Lh ((Xr wd.heap.size wd).alloc (Yb _) (.cells #[.int .i64 M1] 3));have Ea:=Lh (Xn wd (.cells #[.int .i64 M1] 3));have rV:=Lt (wd.heap.size+1=(wd.alloc (.cells #[.int .i64 M1] 3)).heap.size) ((Xs _ _).symm);refine Jf (i:=12) (by kernel_rfl) rfl (fun Q' hQ'=>?_);go_wp2_with fail;generalize wd.alloc (.cells #[.int .i64 M1] 3)=w3' at*;have mL:=Lh ((HB3.o.block b5 (gl mM.o.row)).trans mM.o.row);have HKS:=Lh (yC.o w3' (bU.o.trans (HB3.o.mono bU.o.size)));have qtI:=Lh (And.intro (show w3'.cell? ⟨b5,1,none⟩=some (.slice A9 j c9) from Xc mL.o rfl) HKS.o);refine⟨iP qtI.o,?_⟩;obtain⟨css,h0,h2,h3⟩:=(mM.o.own.below HB3.o).row;rw[HLN.o]at h0 h2;have zkC:p<=64:=by rw[HPP.o];exact HFI.o.2.1
     have hbase:b5+1<=w3'.heap.size:=by have:=(gl mL.o);omega
     refine Jf (i:=13) (by kernel_rfl) rfl (fun Q' hQ'=>?_);refine Zy (m:=1) La rfl rfl rfl rfl h0 (Rd.row (B:=w3'.heap.size) Ea.o (by rw[<-rV.o];exact Yf _)) rfl (by simp[Value.oneCell']) (by simp only[maxLen];omega) (by omega) hbase ?_;intro v9' Iq Cs oG _ _;obtain⟨A8,c8,dC,_,_⟩:=Zp Cs;subst dC;have yH:=Lh (Zs h0 oG mL.o (by decide));have HNZ:=Lh (yp.snoc (m:=M1) mM.o HB3.o (by rw[HLN.o];exact h0) (by rw[HLN.o];exact h2) h3 HBM.o (by rw[HLN.o];exact Cs) oG);rw[<-qsU.o]at HNZ;have HKB:=Lt (Below wo.heap.size wo Iq) ((Zr (bU.o.trans (HB3.o.mono bU.o.size)) oG h0 (by rw[<-HBZ.o];exact Yi _) (by have:=bU.o.size;have:=HB3.o.size;omega)));have qcF:=Lh (And.intro (show Iq.cell? ⟨b5,1,none⟩=some (.slice A9 j c9) from Xc yH.o rfl) (yC.o Iq HKB.o));(conv in Act.put _ _ _=>simp[Act.put]);refine hQ' _ _ ⟨iP qcF.o,?_⟩;clear h0 h2 h3 Cs oG Ea rV HB3 mL hbase Ul HKS qtI HKB;refine Jf (i:=14) (by kernel_rfl) rfl (fun Q' hQ'=>?_);go_wp2_with fail;refine⟨Km (by kernel_rfl),?_⟩;have Zn:Iq.cell? ⟨b5,1,none⟩=some (.slice A9 j c9):=qcF.o.1;have jy:Iq.frozen? ⟨b5,1,none⟩=false:=by simp[World.frozen?,yH.o]
     refine Jf (i:=15) (by kernel_rfl) rfl (fun Q' hQ'=>?_);go_wp2_with fail;refine⟨Km (by kernel_rfl),?_⟩;refine Gi (by kernel_rfl) ?_ _;clear Zn jy yH qcF;go_wp2;go_roundw;exact⟨j+1,_,by omega,by go_num,HNZ.o⟩;simp[intOf];omega
    obtain⟨kt,jX⟩:∃kt:Nat,s=(kt:Int):=⟨s.toNat,by omega⟩;have rH:kt<ns.length:=by have h:s<(ns.length:Int):=HSY.o.2;omega
    have zkW:kt<n:=by rw[dZ.o];exact rH
    obtain⟨bt,ot,cs,hAB,_,hbt,Ja,Zn⟩:=(H1.o.below HBR.o).get (k:=kt) (by rw[Qk];exact rH) (by decide);injection hAB with hAB;injection hAB with zvZ zvY;subst zvZ zvY;obtain⟨rfl,hxt⟩:=Ja;have hct:=Zn 0 _ rfl;simp only[show Mi.size=1 from rfl,Ys,Yq,Xf]at hct;clear Zn hxt;change wo.cell? ⟨bq,oq+kt,none⟩=some (wv ns[kt])at hct;have HFX:=Lh (HFP.o s kt rH jX);have HFW:=Lh (show ∀W,Below wo.heap.size wo W->Calls Tryz.prog 37 #[.slice B1 n e1,wv ns[kt]] W fun e w'=>e=.returned (.int .i64 (F s))/\W=w' from fun W hb=>by
     rw[HFX.o]
     exact oO (.slice B1 n e1) (Uj ns) ns[kt] W.heap.size W (znC.o W (HKW.o W hb)) (Yb _) ((Us ns).mem_iff.2 (Qg rH)))
    have yC:=Lt (∀W,Below wo.heap.size wo W->W.cell? ⟨P,0,none⟩=some (.slice B1 n e1)/\W.cell? ⟨S,0,none⟩=some (.slice (some ⟨bq,oq,none⟩) n c1)/\W.cell? ⟨bq,oq+kt,none⟩=some (wv ns[kt])) (fun W hb=>⟨(Zq (HPR.o W hb)).1,(Zq (HSW.o W hb)).1,(hb.cell (p:=⟨bq,oq+kt,none⟩) (by show bq<_;have:=ig.o;omega)).trans hct⟩);have hcq:=(yC.o wr rY.o).2.2;generalize ns[kt]=xt at*;generalize F s=M1 at*;have d1:decide (s<0)=false:=by simpa using wI
    subst jX;clear wI rH hct;go_wp2_with fail;have Ul:=Lt (wr.drew.cell? ⟨b5,1,none⟩=some (.slice A9 j c9)/\wr.drew.cell? ⟨P,0,none⟩=some (.slice B1 n e1)/\wr.drew.cell? ⟨S,0,none⟩=some (.slice (some ⟨bq,oq,none⟩) n c1)/\wr.drew.cell? ⟨bq,oq+kt,none⟩=some (wv xt)) (⟨by rw[Zd wr.drew _ _ _ _ _ Nu];rfl,by rw[Zd wr.drew _ _ _ _ _ qdQ];rfl,by rw[Zd wr.drew _ _ _ _ _ qdP];rfl,hcq⟩);refine Ny (fun w'=>w'.cell? ⟨b5,1,none⟩=some (.slice A9 j c9)/\w'.cell? ⟨P,0,none⟩=some (.slice B1 n e1)/\w'.cell? ⟨S,0,none⟩=some (.slice (some ⟨bq,oq,none⟩) n c1)/\w'.cell? ⟨bq,oq+kt,none⟩=some (wv xt)) [12] 14 (by kernel_rfl) rfl ?_;have mM:=Lt (yp wo b5 M0 ((r.2.take j).map F) (.slice A9 j c9) wr.drew) (⟨HIN.o.row,HIN.o.own.below ((Xr wr.heap.size wr).drew),HIN.o.keep.drew⟩);have bU:=Lt (Below wo.heap.size wo wr.drew) (rY.o.drew);clear HIN rY Nu qdQ qdP hcq g0 g1 g2 p0 p1 Sr ey;generalize wr.drew=wd at*;refine Rh 0 (.pointer (some ⟨b5,1,none⟩)) rfl (by kernel_rfl) rfl (fun wq=>by go_simp) Ul.o ?_;(conv in Act.put _ _ _=>simp[Act.put]);refine jT 1 (.slice A9 j c9) rfl (by kernel_rfl) rfl (fun wq Ri=>Kc rfl rfl (Vs (e:=3) (by kernel_rfl) Ri.1)) Ul.o ?_;(conv in Act.put _ _ _=>simp[Act.put]);refine Rh 2 (.pointer (some ⟨P,0,none⟩)) rfl (by kernel_rfl) rfl (fun wq=>by go_simp) Ul.o ?_;(conv in Act.put _ _ _=>simp[Act.put]);refine jT 3 (.slice B1 n e1) rfl (by kernel_rfl) rfl (fun wq Ri=>Kc rfl rfl (Vs (e:=9) (by kernel_rfl) Ri.2.1)) Ul.o ?_;(conv in Act.put _ _ _=>simp[Act.put]);refine Rh 4 (.pointer (some ⟨S,0,none⟩)) rfl (by kernel_rfl) rfl (fun wq=>by go_simp) Ul.o ?_;(conv in Act.put _ _ _=>simp[Act.put]);refine jT 5 (.slice (some ⟨bq,oq,none⟩) n c1) rfl (by kernel_rfl) rfl (fun wq Ri=>Kc rfl rfl (Vs (e:=9) (by kernel_rfl) Ri.2.2.1)) Ul.o ?_;(conv in Act.put _ _ _=>simp[Act.put]);refine Rh 6 (.int .i64 (kt:Int)) rfl (by kernel_rfl) rfl (fun wq=>by go_simp) Ul.o ?_;(conv in Act.put _ _ _=>simp[Act.put]);refine Rh 7 (.pointer (some ⟨bq,oq+kt,none⟩)) rfl (by kernel_rfl) rfl (fun wq=>by go_simp) Ul.o ?_;(conv in Act.put _ _ _=>simp[Act.put]);refine jT 8 (wv xt) rfl (by kernel_rfl) rfl (fun wq Ri=>Kc rfl rfl (oA (by kernel_rfl) Ri.2.2.2)) Ul.o ?_;(conv in Act.put _ _ _=>simp[Act.put]);refine Jf (i:=9) (by kernel_rfl) rfl (fun Q' hQ'=>?_);go_wp2_with fail;refine (HFW.o wd bU.o).mono ?_;rintro e w10 ⟨rfl,rfl⟩;go_wp2_with fail;refine⟨iP Ul.o,?_⟩;have HB3:=Lh ((Xr wd.heap.size wd).alloc (Yb _) (.cells #[.int .i64 M1] 3));have Ea:=Lh (Xn wd (.cells #[.int .i64 M1] 3));have rV:=Lt (wd.heap.size+1=(wd.alloc (.cells #[.int .i64 M1] 3)).heap.size) ((Xs _ _).symm);refine Jf (i:=10) (by kernel_rfl) rfl (fun Q' hQ'=>?_);go_wp2_with fail;generalize wd.alloc (.cells #[.int .i64 M1] 3)=w3' at*;have mL:=Lh ((HB3.o.block b5 (gl mM.o.row)).trans mM.o.row);have HKS:=Lh (yC.o w3' (bU.o.trans (HB3.o.mono bU.o.size)));have qtI:=Lh (And.intro (show w3'.cell? ⟨b5,1,none⟩=some (.slice A9 j c9) from Xc mL.o rfl) HKS.o);refine⟨iP qtI.o,?_⟩;obtain⟨css,h0,h2,h3⟩:=(mM.o.own.below HB3.o).row;rw[HLN.o]at h0 h2;have zkC:p<=64:=by rw[HPP.o];exact HFI.o.2.1
    have hbase:b5+1<=w3'.heap.size:=by have:=(gl mL.o);omega
    refine Jf (i:=11) (by kernel_rfl) rfl (fun Q' hQ'=>?_);refine Zy (m:=1) La rfl rfl rfl rfl h0 (Rd.row (B:=w3'.heap.size) Ea.o (by rw[<-rV.o];exact Yf _)) rfl (by simp[Value.oneCell']) (by simp only[maxLen];omega) (by omega) hbase ?_;intro v9' Iq Cs oG _ _;obtain⟨A8,c8,dC,_,_⟩:=Zp Cs;subst dC;have yH:=Lh (Zs h0 oG mL.o (by decide));have HNZ:=Lh (yp.snoc (m:=M1) mM.o HB3.o (by rw[HLN.o];exact h0) (by rw[HLN.o];exact h2) h3 HBM.o (by rw[HLN.o];exact Cs) oG);rw[<-qsU.o]at HNZ;have HKB:=Lt (Below wo.heap.size wo Iq) ((Zr (bU.o.trans (HB3.o.mono bU.o.size)) oG h0 (by rw[<-HBZ.o];exact Yi _) (by have:=bU.o.size;have:=HB3.o.size;omega)));have qcF:=Lh (And.intro (show Iq.cell? ⟨b5,1,none⟩=some (.slice A9 j c9) from Xc yH.o rfl) (yC.o Iq HKB.o));(conv in Act.put _ _ _=>simp[Act.put]);refine hQ' _ _ ⟨iP qcF.o,?_⟩;clear h0 h2 h3 Cs oG Ea rV HB3 mL hbase Ul HKS qtI HKB;refine Jf (i:=12) (by kernel_rfl) rfl (fun Q' hQ'=>?_);go_wp2_with fail;refine⟨Km (by kernel_rfl),?_⟩;have Zn:Iq.cell? ⟨b5,1,none⟩=some (.slice A9 j c9):=qcF.o.1;have jy:Iq.frozen? ⟨b5,1,none⟩=false:=by simp[World.frozen?,yH.o]
    refine Jf (i:=13) (by kernel_rfl) rfl (fun Q' hQ'=>?_);go_wp2_with fail;refine⟨Km (by kernel_rfl),?_⟩;refine Gi (by kernel_rfl) ?_ _;clear Zn jy yH qcF;go_wp2;go_roundw;exact⟨j+1,_,by omega,by go_num,HNZ.o⟩;simp[intOf];omega
   obtain rfl:j=p:=by omega
   have HRX:=Lt (r.2.take j=r.2) (by rw[HPP.o];exact List.take_length);rw[HRX.o]at HIN HLN;have an:=Lt (out.length=k) (HIR.o.len (by rw[Qk];exact Yh Du));obtain⟨yN,rR,hv3,qiA,qxA⟩:=HLC.o.own.form;rw[an.o]at hv3 qiA;subst hv3;unfold maxLen at qxA;have p2:=(Zq (HPR.o wr rY.o)).2.2;have qX:=Lh (show lq (r.2.map F)from fun s hs=>by
    obtain⟨y,hy,rfl⟩:=Xa.1 hs
    have h:=HFB.o y (HFI.o.2.2 y hy)
    unfold Vc at h
    have e1:=dZ.o
    have e2:=aF.o
    omega)
   have HSO:=Lh (show ∀x∈out,lq x.2 from fun x hx s hs=>by
    obtain⟨y,hy,rfl⟩:=Xa.1 (List.mem_of_mem_take ((HIR.o.perm.mem_iff).1 hx))
    obtain⟨z,hz,rfl⟩:=Xa.1 (show s∈y.2.map _ from hs)
    have hf:=(gV.o.fit y hy).2.2 z hz
    simp only[Qk]at hf
    have h:=Pu (Us ns) (Vq ts) hf
    unfold Vc at h
    have e1:=dZ.o
    have e2:=aF.o
    omega)
   go_wp2_with fail;have HIW:=Lh HIN.o;have HOW:=Lh (HLC.o.own.below rY.o);have HZI:=Lt (b5<wr.heap.size) ((gl HIN.o.row));have HPI:=Lh (HPR.o wr rY.o);clear HIN Nu g0 g1 g2 Sr p2 Ej Ri;generalize wr=wi at*;have HBI:=Lh (Xr wi.heap.size wi);have HGT:=Lt (∀(j:Nat)(h:j<out.length),k<=j->Kt (M0,r.2.map F) out[j]) (fun j h hj=>by have:=an.o;omega);go_loopw [8] (fun v8 wr=>∃a:Nat,v8=.int .i64 a/\a<=k/\Hid (∀(j:Nat)(h:j<out.length),a<=j->Kt (M0,r.2.map F) out[j])/\Hid (Below wi.heap.size wi wr)) (fun v8 _=>(intOf v8).toNat);exact⟨k,rfl,Yb _,HGT.o,HBI.o⟩;clear HGT HBI;obtain⟨a,rfl,hak,HGT,HBI⟩:=hrel;have mb:=Lh ((HBI.o.block P (gl HPI.o)).trans HPI.o);have qxV:=(HBI.o.block b5 HZI.o).trans HIW.o.row;have q0:wr.cell? ⟨b5,0,none⟩=some (.int .i64 M0):=Xc qxV rfl;have q1:wr.cell? ⟨b5,1,none⟩=some (.slice A9 j c9):=Xc qxV rfl;have p2:=(Zq mb.o).2.2;have HUP:=Lh (fun(hd)=>zgT.o a (by rw[an.o];exact hak) (by rw[HRM.o];exact HGT.o) hd);by_cases h0:0<a
   focus
    have Aj:a-1<out.length:=by have:=an.o;omega
    obtain⟨bo,oo,cs,rfl,_,hbo,Ja,Zn⟩:=(HOW.o.sl.below HBI.o).get Aj (by decide);obtain⟨vo,rfl,hso,_,_⟩:=Kn Ja;obtain⟨A7,c7,rfl,hl7,mz⟩:=hso.form;unfold maxLen at mz;have ho0:=Zn 0 _ rfl;have ju:=Zn 1 _ rfl;simp only[show Rs.E.size=2 from rfl,Yq,<-Yy]at ho0 ju;have HSE:=Lh (HSO.o out[a-1] (Qg Aj));have qzC:=Lh (show Kt (M0,r.2.map F) out[a-1]->∀(j:Nat)(h:j<out.length),a-1<=j->Kt (M0,r.2.map F) out[j]from fun hl j h hj=>by
     by_cases e:j=a-1
     .subst e;exact hl
     exact HGT.o j h (by omega))
    have qyT:=Lt (¬ Kt (M0,r.2.map F) out[a-1]->_) (fun hn=>HUP.o (.inr ⟨Aj,by rw[HRM.o];exact hn⟩));have yu:=Lt (Below wi.heap.size wi wr.drew) (HBI.o.drew);have HS1:=Lt (Je Wg wr.drew wr.drew.heap.size (.slice A9 j c9) (r.2.map F)) (by
     have:=(HIW.o.own.below yu.o).sl
     exact this)
    have HS2:=Lt (Je Wg wr.drew wr.drew.heap.size (.slice A7 out[a-1].2.length c7) out[a-1].2) ((hso.below (Xr _ _).drew).more HBI.o.size);have md:=Lh (P_ (.slice A9 j c9) (.slice A7 out[a-1].2.length c7) M0 out[a-1].1 (r.2.map F) out[a-1].2 wr.drew HS1.o HS2.o qX.o HSE.o);clear Zn Ja hso HS1 HS2;obtain⟨xl,zR⟩:=Xe (out[a-1].1);obtain⟨xr,hxr⟩:=Xe (out[a-1].2);have HXP:=Lt (out[a-1]=(xl,xr)) (by rw[zR,hxr]);rw[HXP.o]at qzC qyT;rw[<-zR,<-hxr]at md;rw[<-zR]at ho0;rw[<-hxr]at ju hl7;clear zR hxr HSE;obtain⟨L7,hL7⟩:=Xe xr.length;rw[<-hL7]at md ju hl7;clear hL7;have d0:decide ((0:Int)<(a:Int))=true:=by simp;omega
    have e1:(a:Int)-1=((a-1:Nat):Int):=by omega
    have zvW:a-1<k:=by omega
    by_cases hru:Kt (M0,r.2.map F) (xl,xr)
    focus
     have HNX3:=Lh (qzC.o hru);unfold mH at md;rw[Yw hru]at md;clear qzC qyT hru HUP;go_wp2;refine Text.wt (by kernel_rfl) fun Q' hQ'=>?_;go_wp2_with fail;refine md.o.mono ?_;rintro e w3 ⟨rfl,hb3⟩;have HB3:=Lh (yu.o.trans (hb3.mono yu.o.size));clear hb3;go_wp2;refine⟨by rfl,?_⟩;go_wp2;go_roundw;exact⟨a-1,by go_num,by omega,HNX3.o,HB3.o⟩;simp[intOf];omega
    have HINS:=Lh (qyT.o hru);unfold mH at md;rw[Yx hru]at md;clear qzC qyT hru HUP;go_wp2;refine Text.wt (by kernel_rfl) fun Q' hQ'=>?_;go_wp2_with fail;refine md.o.mono ?_;rintro e w3 ⟨rfl,hb3⟩;have HB3:=Lh (yu.o.trans (hb3.mono yu.o.size));clear hb3;go_wp2;refine⟨by rfl,?_⟩;obtain⟨yN,zmH⟩:=Xe ((some ⟨bo,oo,none⟩:Option Addr));rw[<-zmH]at HLC HPR HPI mb HOW |-;clear zmH ho0 ju hl7 mz md d0 e1 zvW q0 q1 p2 yu mb HGT HBI qxV hbo
   rotate_left
   focus
    have d0:decide ((0:Int)<(a:Int))=false:=by simp;omega
    have HINS:=Lh (HUP.o (.inl (by omega)));have HB3:=Lt (Below wi.heap.size wi wr.drew) (HBI.o.drew);clear HUP;go_wp2;refine Text.wt (by kernel_rfl) fun Q' hQ'=>?_;go_wp2;refine⟨by rfl,?_⟩;clear q0 q1 p2 mb HGT HBI qxV d0;generalize wr.drew=w3 at*
   rotate_left
   all_goals
    have mb:=Lh ((HB3.o.block P (gl HPI.o)).trans HPI.o);have p2:=(Zq mb.o).2.2;have qzU:=Lh ((HB3.o.block b5 HZI.o).trans HIW.o.row);have Ob:=Lh HB3.o.size;obtain⟨css,h0,h2,h3⟩:=(HOW.o.below HB3.o).row;rw[an.o]at h0 h2;have Hn:∀cs∈css,cs.length=2:=fun cs tc=>by
     obtain⟨i,hi,rfl⟩:=Qz tc;exact Rs.E.len (Rs.elt (h3 i _ (out[i]'(by have:=an.o;omega)) (Qa hi) (Qa (by have:=an.o;omega))))
    have zT:∀u∈css.flatten,u.oneCell'=true:=fun u hu=>by
     obtain⟨cs,tc,hu⟩:=List.mem_flatten.1 hu;obtain⟨i,hi,rfl⟩:=Qz tc;exact Rs.E.one (Rs.elt (h3 i _ (out[i]'(by have:=an.o;omega)) (Qa hi) (Qa (by have:=an.o;omega)))) u hu
    have HFT:=Lh (ue css a Hn);have mf:=Lt (css.flatten.length=k*2) (h0.1);have HR3:=Lh (Rd.of_own h0);have zoO:=Lh (And.intro h2 h3);have znU:=Lh zT;clear h0 h2 h3 Hn zT;generalize hfl:css.flatten=fl at*;have HFE:=Lh hfl;clear hfl;have HB4:=Lh ((Xr w3.heap.size w3).alloc (Yb _) (.cells #[] 63));have nk:=Lt ((w3.alloc (.cells #[] 63)).ownsRow w3.heap.size 63 2 (.slice (some ⟨w3.heap.size,0,none⟩) 0 0) 0 []) (⟨rfl,.inr ⟨w3.heap.size,0,#[],rfl,Yb _,Xn w3 _,Yb _,by simp[maxLen],rfl,rfl⟩⟩);have HR4:=Lh ((HR3.o.below HB4.o).take_ (a*2));have HT4:=Lt ((fl.take (a*2)).length=a*2) (by rw[Qq,mf.o];omega);have p4:(w3.alloc (.cells #[] 63)).cell? ⟨P,2,none⟩=some (.slice yN k rR):=by rw[HB4.o.cell (p:=⟨P,2,none⟩) (gl mb.o)];exact p2
    have hac:a<=rR:=by omega
    go_wp2_with (at_builtin;go_loud (refine Zy (m:=a) Cf rfl rfl rfl rfl nk.o HR4.o HT4.o (fun u hu=>znU.o u (List.mem_of_mem_take hu)) (by simp only[maxLen];omega) (by omega) HB4.o.size ?_));intro v8 w5' Dl Lu _ _;have HB5:=Lh (Zr HB4.o Lu nk.o (Yb _) HB4.o.size);obtain⟨A8,c8,dC,_,_⟩:=Zp Dl;subst dC;have HO5:=Lh Dl;clear Dl Lu nk HR4 p4 p2 HT4;generalize w3.alloc (.cells #[] 63)=w4' at*;have HZ5:=Lh HB5.o.size;have q0:w5'.cell? ⟨b5,0,none⟩=some (.int .i64 M0):=by rw[Zd _ _ _ _ _ _ ((HB5.o.block b5 (gl qzU.o)).trans qzU.o)];rfl
    have q1:w5'.cell? ⟨b5,1,none⟩=some (.slice A9 j c9):=by rw[Zd _ _ _ _ _ _ ((HB5.o.block b5 (gl qzU.o)).trans qzU.o)];rfl
    have HB6:=Lh ((Xr w5'.heap.size w5').alloc (Yb _) (.cells #[.int .i64 M0,.slice A9 j c9] 63));have Ea:=Lh (Xn w5' (.cells #[.int .i64 M0,.slice A9 j c9] 63));have HO6:=Lh (Jc HO5.o HB6.o);go_wp2_with (at_builtin;go_loud (refine Zy (m:=1) Cf rfl rfl rfl rfl HO6.o (Rd.row (B:=w5'.heap.size+1) Ea.o (Yf _)) rfl (by simp[Value.oneCell']) (by simp only[maxLen];omega) (by omega) (by have:=HZ5.o;have:=HB6.o.size;omega) ?_));intro v9' w7 Un Rk _ _;have HB7:=Lh (Zr (HB5.o.trans (HB6.o.mono HZ5.o)) Rk HO6.o (Yb _) (by have:=HZ5.o;have:=HB6.o.size;omega));obtain⟨A9',c9',ztC,_,_⟩:=Zp Un;subst ztC;have HO7:=Lh Un;clear Un Rk HO6 q0 q1;generalize w5'.alloc (.cells #[.int .i64 M0,.slice A9 j c9] 63)=w6' at*;have HZ7:=Lh HB7.o.size;have p7:w7.cell? ⟨P,2,none⟩=some (.slice yN k rR):=by rw[HB7.o.cell (p:=⟨P,2,none⟩) (gl mb.o)];exact (Zq mb.o).2.2
    have HR7:=Lh (HR3.o.below HB7.o);have HT7:=Lt ((fl.drop (a*2)).length=(k-a)*2) (by rw[Xl,mf.o];omega);have Mc:=Lh (show ∀(W:World)(v':Value),Below w3.heap.size w3 W->W.ownsRow w3.heap.size 63 2 v' (k+1) (fl.take (a*2)++[.int .i64 M0,.slice A9 j c9]++fl.drop (a*2))->Pj w4 P (.slice B1 n e1) (.slice B2 m e2) (out.take a++Ec ns ts (Uj ns) (Jv ts) r::out.drop a) v' (W.setCell ⟨P,2,none⟩ v')from fun W v' hb ho=>by
     refine Pj.put HLC.o (rY.o.trans ((HB3.o.trans (hb.mono Ob.o)).mono rY.o.size)) ?_
     refine Mp.ins (O:=Rs) (css:=css) (cs:=[.int .i64 M0,.slice A9 j c9]) (w:=w3) (by rw[an.o];exact zoO.o.1) (by rw[an.o];exact hak) zoO.o.2 ?_ (Jk.of_below hb) ?_
     .rw[HRM.o]
      have hw4:w4.heap.size<=b5+1:=by have h1:=HLC.o.keep.size;have h2:=HBZ.o;omega
      exact⟨[.int .i64 M0],[.slice A9 j c9],rfl,⟨rfl,HB0.o⟩,_,rfl,(HIW.o.own.below HB3.o).more hw4⟩
     rw[HFT.o.1,HFT.o.2,an.o]
     exact Nn ho (by have h1:=HLC.o.keep.size;have h2:=rY.o.size;have:=Ob.o;omega))
    by_cases qxS:rR=a
    .have zvX:k-a=0:=by omega
     have HD0:=Lt (fl.drop (a*2)=[]) (List.drop_eq_nil_of_le (by rw[mf.o];omega));rw[HD0.o]at Mc;subst qxS;go_wp2_with (at_builtin;go_loud (refine Zy (m:=0) (B:=0) (news:=[]) Cf rfl rfl rfl rfl HO7.o Rd.nil_ rfl (by simp) (by simp only[maxLen];omega) (by omega) HZ7.o ?_));intro v10 w8 Wk bD _ _;rw[show rR+1=k+1 by omega]at Wk;replace Wk:w8.ownsRow w3.heap.size 63 2 v10 (k+1) (fl.take (rR*2)++[.int .i64 M0,.slice A9 j c9]++[]):=by rw[List.append_nil];exact Wk
     have HB8:=Lh (Zr HB7.o bD HO7.o (Yb _) HZ7.o);have HPX:=(HB8.o.block P (gl mb.o)).trans mb.o;have Zn:w8.cell? ⟨P,2,none⟩=some (.slice yN k rR):=(Zq HPX).2.2;have jy:w8.frozen? ⟨P,2,none⟩=false:=by simp[World.frozen?,HPX]
     obtain⟨A10,c10,zdF,_,_⟩:=Zp Wk;subst zdF;have HLN2:=Lh (Mc.o w8 _ HB8.o Wk);clear Wk bD HPX;go_wp2;go_roundw;exact⟨k+1,_,_,by omega,by go_num,HINS.o,HLN2.o⟩;simp[intOf];omega
    have HRb:=Lt (Rd w7 w3.heap.size (yN.map (·.add (a*2))) (fl.drop (a*2))) (by have:=HR7.o.drop_ (a*2) (cap:=a*2+1) (by omega);rwa [if_neg (by omega)]at this);go_wp2_with (at_builtin;go_loud (refine Zy (m:=k-a) Cf rfl rfl rfl rfl HO7.o HRb.o HT7.o (fun u hu=>znU.o u (List.mem_of_mem_drop hu)) (by simp only[maxLen];omega) (by omega) HZ7.o ?_));intro v10 w8 Wk bD _ _;rw[show a+1+(k-a)=k+1 by omega]at Wk;replace Wk:w8.ownsRow w3.heap.size 63 2 v10 (k+1) (fl.take (a*2)++[.int .i64 M0,.slice A9 j c9]++fl.drop (a*2)):=by rw[Xd];exact Wk
    have HB8:=Lh (Zr HB7.o bD HO7.o (Yb _) HZ7.o);have HPX:=(HB8.o.block P (gl mb.o)).trans mb.o;have Zn:w8.cell? ⟨P,2,none⟩=some (.slice yN k rR):=(Zq HPX).2.2;have jy:w8.frozen? ⟨P,2,none⟩=false:=by simp[World.frozen?,HPX]
    obtain⟨A10,c10,zdF,_,_⟩:=Zp Wk;subst zdF;have HLN2:=Lh (Mc.o w8 _ HB8.o Wk);clear Wk bD HPX;go_wp2;go_roundw;exact⟨k+1,_,_,by omega,by go_num,HINS.o,HLN2.o⟩;simp[intOf];omega
 obtain rfl:k=q:=by omega
 have HOK:=Lh (show ∀r∈rs.map (Ec ns ts (Uj ns) (Jv ts)),jN r from fun r hr=>by
  obtain⟨x,hx,rfl⟩:=Xa.1 hr
  intro s hs
  obtain⟨y,hy,rfl⟩:=Xa.1 (show s∈x.2.map _ from hs)
  have hf:=(gV.o.fit x hx).2.2 y hy
  simp only[Qk]at hf
  have h:=(Pu (Us ns) (Vq ts) hf).1
  have e2:=aF.o
  omega)
 have HCR:=Lt (out=oW ns ts rs) (rU.done HOK.o (by rw[Qk,<-HQQ.o];exact HIR.o));obtain⟨yN,rR,hv3,qiA,qxA⟩:=HLC.o.own.form;have jcB:v3.oneCell'=true:=by rw[hv3];rfl
 obtain⟨p0,p1,p2⟩:=Zq HLC.o.row;have HRX:=Lt (wr.heap[S+1]?=some (.cells #[.slice none 0 0,.slice none 0 0,.slice none 0 0] 25 (0,0))) ((HLC.o.keep.block (S+1) (gl HR4.o) (by have:=hPS;have:=yq.o;omega)).trans HR4.o);generalize out.length=no at*;subst hv3;go_wp2_with (refine Zv none rfl ?_);refine Stop.go (Zo rfl 25 rfl rfl rfl (Fh (vs:=[.slice B1 n e1,.slice B2 m e2,.slice yN no rR]) rfl (by kernel_rfl) HRX.o rfl (by intro u hu;simp at hu;rcases hu with rfl|rfl|rfl <;> rfl)) ?_);have zgM:=Lh (Zj _ _ _ _ _ _ HRX.o:(wr.setRow (S+1) [.slice B1 n e1,.slice B2 m e2,.slice yN no rR].toArray).heap[S+1]?=_);have HBN:=Lh (Zk HBR.o (Yi S) [.slice B1 n e1,.slice B2 m e2,.slice yN no rR].toArray);have HK1:=Lh (Ds (ts:=[9,63,3]) (cs':=[.slice B1 n e1,.slice B2 m e2,.slice yN no rR].toArray) HRX.o (by decide));have HKS:=Lh (HLC.o.keep.T (ts:=[9]) HP.o (by decide));have qzB:=Lh HLC.o.own;rw[HCR.o]at qzB;generalize wr.setRow (S+1) [.slice B1 n e1,.slice B2 m e2,.slice yN no rR].toArray=w14 at*;(conv in Act.put _ _ _=>simp[Act.put]);go_wp2_with fail;have HFN:=Lt (bI (Uj ns)) (fun x hx=>(zD H1.o).fits x ((Us ns).mem_iff.1 hx));have HFT:=Lt (bI (Jv ts)) (fun x hx=>(zD H2.o).fits x ((Vq ts).mem_iff.1 hx));have hU:=Kg (Kg HU.o HKS.o (by simp)) HK1.o (by simp);have hV:=Kg (Kg HV.o HKS.o (by simp)) HK1.o (by simp);have eU:n=(Uj ns).length:=by rw[Pc];exact dZ.o
 have eV:m=(Jv ts).length:=by rw[Fq];exact aF.o
 have hw:=qzB.o.keep (w':=w14) (HK1.o.less (by simp[Rs,qnZ,Hd,dg,oSl]));refine uS rfl rfl rfl zgM.o ⟨_,_,_,rfl,?_,?_,hw.sl,by rw[<-HS.o];exact HBN.o⟩
 .exact Av (base:=w3.heap.size) (t:=9) HFN.o (by rw[<-eU];exact hU)
 exact Av (base:=MV) (t:=9) HFT.o (by rw[<-eV];exact hV)
theorem lV(v1 v2 v3:Value)(g:Kd)(w:World)(hg:Su g)(h:jR w w.heap.size v1 v2 v3 g) :
  Calls Tryz.prog 12 #[.agg #[v1,v2,v3]] w fun e w'=>∃u1 u2 u3,e=.returned (.agg #[u1,u2,u3])/\jR w' w'.heap.size u1 u2 u3 (Jh g)/\Below w.heap.size w w':=by
 refine (vu v1 v2 v3 (g.1.map Wt) (g.2.1.map Wt) g.2.2 w (by rw[Tf];exact hg) (by rw[show (g.1.map Wt).map Jp=g.1 from congrArg Prod.fst (Tf g)];exact h.names) (by rw[show (g.2.1.map Wt).map Jp=g.2.1 from congrArg (fun x:Kd=>x.2.1) (Tf g)];exact h.terms) h.rules).mono ?_;rintro e w' ⟨u1,u2,u3,rfl,a1,a2,a3,hb⟩;exact⟨u1,u2,u3,rfl,⟨qvX a1,qvX a2,a3⟩,hb⟩
end Go.Proofs.YtmaojnmnbpomeaaGreatDoor
