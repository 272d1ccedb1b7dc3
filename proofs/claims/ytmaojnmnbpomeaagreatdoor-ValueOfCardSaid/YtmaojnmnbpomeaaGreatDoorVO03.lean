/- A part. -/
import Derived.Test.YtmaojnmnbpomeaaGreatDoorVO02
import Derived.Stop.BytesEq
import Derived.Laws.CopyOwn
import Derived.Sort.Grow
set_option maxRecDepth 100000
set_option maxHeartbeats 64000000
namespace Go.Proofs.YtmaojnmnbpomeaaGreatDoor
open Go.RowKit
theorem om{ns:List ByteArray}{s:ByteArray}(h:(ns.any fun x=>decide (x=s))=false):s∉ns:=by
 intro hm;rw[<-Bool.not_eq_true,Xq] at h;exact h ⟨s,hm,by simp⟩
theorem jO(F:FuncId)(may:List UInt8->Bool)(v:Value)(ns:List ByteArray)(w:World)(hv:Jb Mc w w.heap.size v ns)
  (hF:∀(args:Array Value)(w:World),(callFunc F args).run Tryz.prog w=.ok (.enter F args) w)
  (hp:∀(s:ByteArray)(w:World),s.size<=maxLen->Calls Tryz.prog F #[.string s] w fun e w'=>e=.returned (.bool (may s.data.toList))/\w=w') :
  Calls Tryz.prog 126 #[v,.func (.func F) #[] #[]] w fun e w'=>e=.returned (.bool (My may ns))/\Below w.heap.size w w':=by
 have pu:=@run_makeMap Tryz.prog;have HP:=Lh hp;clear hp;obtain⟨A,c,rfl,hc1,hc2⟩:=hv.form;unfold maxLen at hc2;go_enter Tryz.func126,Tryz.ntmps126;go_wp2_with fail;go_loopw [11] (fun v11 wr=>∃ k:Nat,k<=ns.length/\v11=.int .i64 k/\Hid ((∀ s∈ns.take k,may s.data.toList=true)/\(ns.take k).Nodup)/\Uo Value.string wr w.heap.size (Iq (ns.take k))/\Below w.heap.size w wr) (fun v11 _=>ns.length - (intOf v11).toNat);exact⟨0,by omega,rfl,by simp[Hid],Uo.made w,by go_grown⟩;obtain⟨k,hk,rfl,hno,hmp,hbr⟩:=hrel;by_cases Jo:k<ns.length
 ·obtain⟨ab,ao,cs,rfl,_,Aj,Zt,Zj⟩:=(hv.below hbr).get Jo (by decide);obtain⟨rfl,Ta⟩:=Zt;have Vi:=Zj 0 _ rfl;clear Zj;simp only[show Mc.size=1 from rfl,Yq,Yo] at Vi;have HX:=Lh Ta;have hsn:=Lh (fS ns k Jo);have hon:=Lh (nz ns k Jo);have hlk:=hmp.lookup nH iE ns[k];rw[m_] at hlk;rcases Ym (may ns[k].data.toList) with hm | hm
  ·have HM:=Lh hm;clear hm;rcases Ym ((ns.take k).any fun x=>decide (x=ns[k])) with mE | mE
   ·rw[mE,if_pos rfl] at hlk;have HA:=Lh mE;clear mE;simp only[Option.getD_some] at hlk;go_wp2_with fail;refine (HP.o ns[k] wr HX.o).mono ?_;rintro e w1 ⟨rfl,rfl⟩;rw[HM.o];go_wp2_with fail;go_ret;refine⟨Kd (Zm ?_),hbr⟩;rw[eq_comm,My,Bool.and_eq_false_iff];right;rw[Yj];intro Id;have h3:=hsn.o.1 (Id.sublist (List.take_sublist _ _));rw[HA.o] at h3;cases h3.2
   ·rw[mE,if_neg (by decide)] at hlk;have HA:=Lh mE;clear mE;simp only[Option.getD_none] at hlk;go_wp2_with fail;refine (HP.o ns[k] wr HX.o).mono ?_;rintro e w1 ⟨rfl,rfl⟩;rw[HM.o];go_wp2_with (at_mapUpdate;refine Sg nH rfl rfl rfl rfl rfl hmp ?_;intro w2 qgG aE Le);have zrQ:Uo Value.string w2 w.heap.size (Iq (ns.take (k+1))):=by rw[hon.o,<-yG _ _ _ (om HA.o)];exact qgG
    go_wp2;go_roundw
    case rel =>
     refine⟨k+1,by omega,by go_num,⟨fun s hs=>?_,hsn.o.2 ⟨hno.o.2,HA.o⟩⟩,zrQ,hbr.grown aE hbr.size (fun j hj=>by cases hj;exact Xz _)⟩;rw[Qc Jo,Qh,Qi] at hs;rcases hs with hs | rfl
     ·exact hno.o.1 s hs
     ·exact HM.o
    case measure=>simp[intOf];omega
  ·have HM:=Lh hm;clear hm;go_wp2_with fail;refine (HP.o ns[k] wr HX.o).mono ?_;rintro e w1 ⟨rfl,rfl⟩;rw[HM.o];go_wp2;go_ret;refine⟨Kd (Zm ?_),hbr⟩;rw[eq_comm,My,Bool.and_eq_false_iff];left;rw[<-Bool.not_eq_true,Xp];intro h;have:=h _ (Qg Jo);rw[HM.o] at this;cases this
 ·go_wp2;go_ret;refine⟨Kd (Zm ?_),hbr⟩;have h:=hno.o;rw[Qd (by omega)] at h;rw[eq_comm,My,Yk,Xp,Yi];exact h
theorem Zz(s:Int)(w:World):Calls Tryz.prog 78 #[.int .i64 s] w fun e w'=>e=.returned (.bool (decide (s<0)))/\w=w':=by
 go_enter Tryz.func78,Tryz.ntmps78;go_wp2;go_ret;exact⟨rfl,rfl⟩
abbrev Jw:=List ByteArray×List ByteArray×List (Int×List Int)
def Vu(g:Jw):Bool:=decide (g.1.length≠0)&&decide (g.1.length+g.2.1.length<=256)&&decide (g.2.2.length<=4096)&&My Mf g.1&&My Nf g.2.1 &&
 g.2.2.all (Dq g.1.length g.2.1.length)&&(List.range g.1.length).all (fun i=>decide ((Ir g.2.2 i g.2.2.length).length≠0))&&decide g.2.2.Nodup
theorem Sk(v1 v2 v3:Value)(ns ts:List ByteArray)(rs:List (Int×List Int))(w:World)(Fd:ns.length+ts.length<=4611686018427387904)(h1:Jb Mc w w.heap.size v1 ns)(h2:Jb Mc w w.heap.size v2 ts)(h3:Jb Kx w w.heap.size v3 rs) :
  Calls Tryz.prog 69 #[.agg #[v1,v2,v3]] w fun e w'=>e=.returned (.bool (Vu (ns,ts,rs)))/\Below w.heap.size w w':=by
 obtain⟨A1,c1,rfl,hc1,gC⟩:=h1.form;obtain⟨A2,c2,rfl,hc2,qnZ⟩:=h2.form;obtain⟨A3,c3,rfl,hc3,zbE⟩:=h3.form;unfold maxLen at gC qnZ zbE;have eN:ns.length=0\/(0<ns.length/\256<ns.length+ts.length)\/(0<ns.length/\ns.length+ts.length<=256/\4096<rs.length)\/(0<ns.length/\ns.length+ts.length<=256/\rs.length<=4096):=by omega
 by_cases hgood:0<ns.length/\ns.length+ts.length<=256/\rs.length<=4096
 case neg =>
  have HF:Hid (Vu (ns,ts,rs)=false):=by
   show _=_;rw[<-Bool.not_eq_true];intro h;simp only[Vu,Yk,Yi] at h;obtain⟨⟨⟨⟨⟨⟨⟨a1,a2⟩,a3⟩,_⟩,_⟩,_⟩,_⟩,_⟩:=h;exact hgood ⟨by omega,a2,a3⟩
  rcases eN with h | ⟨h0,h⟩ | ⟨h0,h0',h⟩ | h
  case inr.inr.inr=>exact absurd h hgood
  all_goals
   first
    |(have hz:((ns.length:Int)==0)=true:=by simp;exact Xv h)
    |(have hz:((ns.length:Int)==0)=false:=by simp;intro e;subst e;simp at h0)
   go_enter Tryz.func69,Tryz.ntmps69;go_wp2_with fail
   all_goals first
    |(exfalso;omega)
    |(go_ret;exact⟨Kd (Zm HF.o.symm),by go_grown⟩)
    |(exfalso;simp at *;omega)
 clear eN;obtain⟨g1,g2,g3⟩:=hgood;have hz:((ns.length:Int)==0)=false:=by simp;intro e;subst e;simp at g1
 have Of:Hid (Vu (ns,ts,rs)=(My Mf ns&&My Nf ts&&rs.all (Dq ns.length ts.length)&&(List.range ns.length).all (fun i=>decide ((Ir rs i rs.length).length≠0))&&decide rs.Nodup)):=by
  show _=_;unfold Vu;simp only[show decide (ns.length+ts.length<=256)=true by simpa using g2,show decide (rs.length<=4096)=true by simpa using g3,show decide (ns.length≠0)=true from Yt (by omega),Bool.true_and]
 have pm:((ns.length:Int)+ts.length)<=256:=by omega
 have hrl:((rs.length:Int))<=4096:=by omega
 go_enter Tryz.func69,Tryz.ntmps69;go_wp2_with fail;have HW:Hid (Below w.heap.size w (w.alloc (Obj.cells #[Value.slice A1 ns.length c1,Value.slice A2 ts.length c2,Value.slice A3 rs.length c3] 25))):=(Xr _ _).alloc (Xz _) _;have HS:Hid ((w.alloc (Obj.cells #[Value.slice A1 ns.length c1,Value.slice A2 ts.length c2,Value.slice A3 rs.length c3] 25)).heap.size=w.heap.size+1):=by show _=_;simp
 have k0:(w.alloc (Obj.cells #[Value.slice A1 ns.length c1,Value.slice A2 ts.length c2,Value.slice A3 rs.length c3] 25)).cell? ⟨w.heap.size,0,none⟩=some (Value.slice A1 ns.length c1):=by simp
 have k1:(w.alloc (Obj.cells #[Value.slice A1 ns.length c1,Value.slice A2 ts.length c2,Value.slice A3 rs.length c3] 25)).cell? ⟨w.heap.size,1,none⟩=some (Value.slice A2 ts.length c2):=by simp
 have k2:(w.alloc (Obj.cells #[Value.slice A1 ns.length c1,Value.slice A2 ts.length c2,Value.slice A3 rs.length c3] 25)).cell? ⟨w.heap.size,2,none⟩=some (Value.slice A3 rs.length c3):=by simp
 generalize w.alloc (Obj.cells #[Value.slice A1 ns.length c1,Value.slice A2 ts.length c2,Value.slice A3 rs.length c3] 25)=W at HW HS k0 k1 k2 |-;have h1W:=h1.next HW.o (B':=W.heap.size) (by rw[HS.o];omega);refine (jO 127 Mf _ ns W h1W (fun _ _=>by kernel_rfl) (fun s w hs=>zm s w hs)).mono ?_;rintro e w1 ⟨rfl,hb1⟩;have hws:=HS.o;have hW1:Below (w.heap.size+1) W w1:=hb1.mono (by omega);rcases Ym (My Mf ns) with iB | iB
 case inr =>
  have HD:=Lh iB;rw[iB];go_wp2;go_ret;exact⟨Kd (Zm (by rw[Of.o,HD.o];rfl)),HW.o.trans (hb1.mono (by omega))⟩
 have HD1:=Lh iB;rw[iB];clear iB;have k1':=(hW1.cell (p:=⟨w.heap.size,1,none⟩) (Yd _)).trans k1;go_wp2_with fail;have Ea:=hb1.size;refine (jO 128 Nf _ ts w1 (h2.next (HW.o.trans (hb1.mono (by omega))) (by omega)) (fun _ _=>by kernel_rfl) (fun s w hs=>zl s w hs)).mono ?_;rintro e w2 ⟨rfl,Zy⟩;have hW2:Below (w.heap.size+1) W w2:=hW1.trans (Zy.mono (by omega));rcases Ym (My Nf ts) with jJ | jJ
 case inr =>
  have HD:=Lh jJ;rw[jJ];go_wp2;go_ret;exact⟨Kd (Zm (by rw[Of.o,HD.o];simp)),HW.o.trans (hW2.mono (by omega))⟩
 have HD2:=Lh jJ;rw[jJ];clear jJ;have k2':=(hW2.cell (p:=⟨w.heap.size,2,none⟩) (Yd _)).trans k2;go_wp2_with fail;go_loopw [39] (fun v39 wr=>∃ k:Nat,k<=rs.length/\v39=.int .i64 k/\Hid ((rs.take k).all (Dq ns.length ts.length)=true)/\Below (w.heap.size+1) W wr) (fun v39 _=>rs.length - (intOf v39).toNat);exact⟨0,by omega,rfl,by simp[Hid],hW2⟩;obtain⟨k,hk,rfl,hno,hbr⟩:=hrel;have ia:=HW.o.trans (hbr.mono (Yg _));have r0:=(hbr.cell (p:=⟨w.heap.size,0,none⟩) (Yd _)).trans k0;have r1:=(hbr.cell (p:=⟨w.heap.size,1,none⟩) (Yd _)).trans k1;have r2:=(hbr.cell (p:=⟨w.heap.size,2,none⟩) (Yd _)).trans k2;by_cases Jo:k<rs.length
 ·obtain⟨ab,ao,cs,rfl,_,Aj,Zt,Zj⟩:=(h3.below ia).get Jo (by decide);obtain⟨u,rfl,hu,Sr,Fn⟩:=Jv Zt;obtain⟨A4,e4,rfl,_,_⟩:=hu.form;have Vi:=Zj 0 _ rfl;have gC:=Zj 1 _ rfl;clear Zj;simp only[show Kx.size=2 from rfl,Yo,<-Yv] at Vi gC;have zqV:=hbr.size;have Cp:w.heap.size<wr.heap.size:=by omega
  have HSN:=Lh (Qc Jo);rcases Ym (Dq ns.length ts.length (rs[k].1,rs[k].2)) with hq | hq
  ·have HQ:=Lh hq;clear hq;go_wp2_with fail;have hb3:Below wr.heap.size wr (wr.alloc (Obj.cells #[Value.int IntKind.i64 rs[k].fst,Value.slice A4 rs[k].snd.length e4] 63)):=(Xr _ _).alloc (Xz _) _;refine (rc A1 A2 _ _ ns.length ts.length c1 c2 rs[k].1 rs[k].2 _ (by omega) (hu.fut hb3 (by omega) (by simp;omega))).mono ?_;rintro e w3 ⟨rfl,hb4⟩;rw[HQ.o];go_wp2;go_roundw;exact⟨k+1,by omega,by go_num,by show _=_;rw[HSN.o,List.all_append,hno.o];simpa using HQ.o,hbr.trans ((hb3.mono (by omega:w.heap.size+1<=wr.heap.size)).trans (hb4.mono (by simp;omega)))⟩;simp[intOf];omega
  ·have HQ:=Lh hq;clear hq;go_wp2_with fail;have hb3:Below wr.heap.size wr (wr.alloc (Obj.cells #[Value.int IntKind.i64 rs[k].fst,Value.slice A4 rs[k].snd.length e4] 63)):=(Xr _ _).alloc (Xz _) _;refine (rc A1 A2 _ _ ns.length ts.length c1 c2 rs[k].1 rs[k].2 _ (by omega) (hu.fut hb3 (by omega) (by simp;omega))).mono ?_;rintro e w3 ⟨rfl,hb4⟩;rw[HQ.o];go_wp2;go_ret;refine⟨Kd (Zm ?_),ia.trans ((hb3.mono (by omega)).trans (hb4.mono (by simp;omega)))⟩;have hf:rs.all (Dq ns.length ts.length)=false:=by
    rw[<-Bool.not_eq_true,Xp];intro h;have h':=HQ.o;rw[h _ (Qg Jo)] at h';cases h'
   rw[Of.o,hf];simp
 have Hb:Hid (rs.all (Dq ns.length ts.length)=true):=by
  show _=_;have:=hno.o
  rwa [Qd (by omega)] at this
 have hkr:k=rs.length:=by omega
 subst hkr;go_wp2_with fail;go_loopw [51] (fun v51 wt=>∃ k:Nat,k<=ns.length/\v51=.int .i64 k/\Hid (∀ i:Nat,i<k->(Ir rs i rs.length).length≠0)/\Below (w.heap.size+1) W wt) (fun v51 _=>ns.length - (intOf v51).toNat);exact⟨0,by omega,rfl,fun i hi=>absurd hi (by omega),hbr⟩;clear ia r0 r1 r2 hbr hno;obtain⟨k,oK,rfl,hno,hbr⟩:=hrel;have ia:=HW.o.trans (hbr.mono (Yg _));have r0:=(hbr.cell (p:=⟨w.heap.size,0,none⟩) (Yd _)).trans k0;have r1:=(hbr.cell (p:=⟨w.heap.size,1,none⟩) (Yd _)).trans k1;have r2:=(hbr.cell (p:=⟨w.heap.size,2,none⟩) (Yd _)).trans k2;have zqV:=hbr.size;by_cases Jo:k<ns.length
 ·by_cases hq:(Ir rs k rs.length).length=0
  ·have hqb:(((Ir rs k rs.length).length:Int)==0)=true:=by simp only[hq];rfl
   have HQ:=Lh hq;clear hq;go_wp2_with fail;refine (ib A1 A2 _ ns.length ts.length c1 c2 k rs wr (h3.next ia (by omega)) (by omega)).mono ?_;rintro e w3 ⟨v,rfl,hown,hb4⟩;obtain⟨A5,c5,rfl,_,_⟩:=Zk hown;go_wp2;go_ret;refine⟨Kd (Zm ?_),ia.trans (hb4.mono (by omega))⟩;have hf:(List.range ns.length).all (fun i=>decide ((Ir rs i rs.length).length≠0))=false:=by
    rw[<-Bool.not_eq_true,Xp];intro h;exact absurd HQ.o (of_decide_eq_true (h k (Xy.2 Jo)))
   rw[Of.o,hf];simp
  ·have hqb:(((Ir rs k rs.length).length:Int)==0)=false:=by rw[Yn];omega
   have HQ:=Lh hq;clear hq;go_wp2_with fail;refine (ib A1 A2 _ ns.length ts.length c1 c2 k rs wr (h3.next ia (by omega)) (by omega)).mono ?_;rintro e w3 ⟨v,rfl,hown,hb4⟩;obtain⟨A5,c5,rfl,_,_⟩:=Zk hown;go_wp2;go_roundw;exact⟨k+1,by omega,by go_num,fun i hi=>by by_cases e:i=k;(subst e;exact HQ.o);exact hno.o i (by omega),hbr.trans (hb4.mono (by omega))⟩;simp[intOf];omega
 ·have hf:Hid ((List.range ns.length).all (fun i=>decide ((Ir rs i rs.length).length≠0))=true):=by
   show _=_;rw[Xp];intro i hi;have:=Xy.1 hi;exact Yt (hno.o i (by omega))
  go_wp2_with fail;refine (yU _ rs wr (h3.next ia (by omega))).mono ?_;rintro e w3 ⟨rfl,hb4⟩;go_wp2;go_ret;refine⟨Kd (Zm ?_),ia.trans (hb4.mono (by omega))⟩;rw[Of.o,HD1.o,HD2.o,Hb.o,hf.o];simp
theorem zY{α:Type}[DecidableEq α](xs:List α):xs.Nodup↔∀(j:Nat)(h:j<xs.length),idxOf (fun x=>decide (x=xs[j])) xs=j:=by
 constructor
 ·intro hn j h;refine Bf h (fun l hl hlj=>?_) (by simp);rw[List.Nodup,List.pairwise_iff_getElem] at hn;simpa using hn l j hl h hlj
 ·intro h;rw[List.Nodup,List.pairwise_iff_getElem];intro i j hi hj hij he;have h1:=h i hi;have h2:=h j hj;rw[he,h2] at h1;omega
theorem qaZ(rs:List (Int×List Int))(left:Int):(Ir rs left rs.length).length≠0↔∃ r∈rs,r.1=left:=by
 unfold Ir;rw[Qk];constructor
 ·intro h;obtain⟨i,hi⟩:=List.exists_mem_of_length_pos (Nat.pos_of_ne_zero h);rw[Qw,Xy,Yi] at hi;refine⟨rs[i]'hi.1,Qg hi.1,?_⟩;have:=hi.2
  rwa [Qb,Qa hi.1] at this
 ·rintro⟨r,hr,he⟩ h0;obtain⟨i,hi,rfl⟩:=Qz hr;have:=Xv h0;rw[List.filter_eq_nil_iff] at this;refine this i (Xy.2 hi) ?_;rw[Yi,Qb,Qa hi];exact he
def bV(ns:List ByteArray)(rs:List (Int×List Int))(j:Nat):Prop:=∀ h:j<ns.length,Mf ns[j].data.toList=true/\idxOf (fun x=>decide (x=ns[j])) ns=j/\∃ r∈rs,r.1=(j:Int)
def gS(ts:List ByteArray)(j:Nat):Prop:=∀ h:j<ts.length,Nf ts[j].data.toList=true/\idxOf (fun x=>decide (x=ts[j])) ts=j
theorem zbT{α:Type}(xs:List α)(p:α->Bool):xs.all p=true↔∀(j:Nat)(h:j<xs.length),p xs[j]=true:=by
 rw[Xp];exact⟨fun h j hj=>h _ (Qg hj),fun h x hx=>by obtain⟨j,hj,rfl⟩:=Qz hx;exact h j hj⟩
theorem qgY(ns ts:List ByteArray)(rs:List (Int×List Int)):Vu (ns,ts,rs)=true↔ns.length≠0/\ns.length+ts.length<=256/\rs.length<=4096/\(∀ j,bV ns rs j)/\(∀ j,gS ts j)/\(∀(j:Nat)(h:j<rs.length),Dq ns.length ts.length rs[j]=true)/\rs.Nodup:=by
 simp only[Vu,My,Yk,Yi,zbT,List.getElem_range,List.length_range,qaZ,zY ns,zY ts];constructor
 ·rintro⟨⟨⟨⟨⟨⟨⟨h1,h2⟩,h3⟩,h4,h5⟩,h6,h7⟩,h8⟩,h9⟩,h10⟩;exact⟨h1,h2,h3,fun j h=>⟨h4 j h,h5 j h,h9 j h⟩,fun j h=>⟨h6 j h,h7 j h⟩,h8,h10⟩
 ·rintro⟨h1,h2,h3,h4,h5,h6,h7⟩;exact⟨⟨⟨⟨⟨⟨⟨h1,h2⟩,h3⟩,fun j h=>(h4 j h).1,fun j h=>(h4 j h).2.1⟩,fun j h=>(h5 j h).1,fun j h=>(h5 j h).2⟩,h6⟩,fun j h=>(h4 j h).2.2⟩,h7⟩
def Ki(w:Wd):ByteArray:=⟨w.toArray⟩
def Mr(b:ByteArray):Wd:=b.data.toList
theorem Ag(w:Wd):Mr (Ki w)=w:=rfl
theorem Tw(b:ByteArray):Ki (Mr b)=b:=by cases b;rfl
theorem cV{a b:ByteArray}(h:Mr a=Mr b):a=b:=by rw[<-Tw a,<-Tw b,h]
theorem Gd{α β:Type}{f:α->β}(hf:∀ a b,f a=f b->a=b){l:List α}(h:l.Nodup):(l.map f).Nodup :=
 List.pairwise_map.2 (h.imp fun{a b} Aj e=>Aj (hf a b e))
def Zx(g:Jw):Jw:=((Wq (g.1.map Mr)).map Ki,(Jp (g.2.1.map Mr)).map Ki,mN (g.1.map Mr) (g.2.1.map Mr) g.2.2)
theorem Lv(l:List Wd):(Wq l).length=l.length:=(Uf l).length_eq
theorem Ey(l:List Wd):(Jp l).length=l.length:=(Vl l).length_eq
theorem qpB(ns ts:List Wd)(rs:List Jj):(mN ns ts rs).length=rs.length:=by unfold mN;rw[(Fw _).length_eq,Qk]
theorem Kh(g:Jw):(Zx g).1.length=g.1.length/\(Zx g).2.1.length=g.2.1.length/\(Zx g).2.2.length=g.2.2.length:=by
 unfold Zx;simp only[Qk,Lv,Ey,qpB,and_self]
theorem qhH(n m:Nat)(r:Int×List Int):Dq n m r=true↔(0<=r.1/\r.1<n)/\r.2.length<=64/\∀ s∈r.2,Vz n m s:=by
 unfold Dq;simp only[Yk,Yi,Bool.not_eq_true',List.any_eq_false,Ec,Ys,not_or,Vz,and_assoc];constructor
 ·rintro⟨h1,h2,h3,h4⟩;exact⟨h1,h2,h3,fun s hs=>by have:=h4 s hs;omega⟩
 ·rintro⟨h1,h2,h3,h4⟩;exact⟨h1,h2,h3,fun s hs=>by have:=h4 s hs;omega⟩
structure Il(g:Jw):Prop where
 n1:1<=g.1.length
 nm:g.1.length+g.2.1.length<=256
 q:g.2.2.length<=4096
 names:∀ s∈g.1,Mf (Mr s)=true
 terms:∀ s∈g.2.1,Nf (Mr s)=true
 nn:g.1.Nodup
 tn:g.2.1.Nodup
 fit:∀ r∈g.2.2,(0<=r.1/\r.1<g.1.length)/\r.2.length<=64/\∀ s∈r.2,Vz g.1.length g.2.1.length s
 has:∀ i<g.1.length,∃ r∈g.2.2,r.1=(i:Int)
 rn:g.2.2.Nodup
theorem Gf(g:Jw):Vu g=true↔Il g:=by
 simp only[Vu,My,Yk,Yi,Xp,Xy,qaZ,qhH];constructor
 ·rintro⟨⟨⟨⟨⟨⟨⟨h1,h2⟩,h3⟩,h4,h5⟩,h6,h7⟩,h8⟩,h9⟩,h10⟩;exact⟨by omega,h2,h3,h4,h6,h5,h7,h8,h9,h10⟩
 ·rintro⟨h1,h2,h3,h4,h6,h5,h7,h8,h9,h10⟩;exact⟨⟨⟨⟨⟨⟨⟨by omega,h2⟩,h3⟩,h4,h5⟩,h6,h7⟩,h8⟩,h9⟩,h10⟩
theorem qdT{ns ts xP Em:List Wd}(hp:xP.Perm ns)(hq:Em.Perm ts)(hn:ns.Nodup)(hm:ts.Nodup){a b:Jj}(ha:Vz ns.length ts.length a.1/\∀ s∈a.2,Vz ns.length ts.length s)(hb:Vz ns.length ts.length b.1/\∀ s∈b.2,Vz ns.length ts.length s)
  (h:Dn ns ts xP Em a=Dn ns ts xP Em b):a=b:=by
 obtain⟨a1,a2⟩:=a;obtain⟨b1,b2⟩:=b;unfold Dn at h;injection h with h1 h2;simp only at ha hb h2;have e1:=rK hp hq hn hm ha.1 hb.1 h1;have hl:∀(x y:List Int),(∀ s∈x,Vz ns.length ts.length s)->(∀ s∈y,Vz ns.length ts.length s)->x.map (Fv ns ts xP Em)=y.map (Fv ns ts xP Em)->x=y:=by
  intro x
  induction x with
  |nil=>intro y _ _ e;cases y with | nil=>rfl | cons _ _=>simp at e
  |cons s x ih =>
   intro y hx hy e;cases y with
   |nil=>simp at e
   |cons t y =>
    rw[List.map_cons,List.map_cons] at e;injection e with e3 e4;rw[rK hp hq hn hm (hx s (by simp)) (hy t (by simp)) e3,ih y (fun s hs=>hx s (by simp[hs])) (fun s hs=>hy s (by simp[hs])) e4]
 rw[e1,hl a2 b2 ha.2 hb.2 h2]
theorem sg{ns ts:List Wd}{rs:List Jj}{r:Jj}(h:r∈mN ns ts rs):∃ x∈rs,r=Dn ns ts (Wq ns) (Jp ts) x:=by
 have:=(Fw _).mem_iff.1 h;obtain⟨x,hx,e⟩:=Xa.1 this;exact⟨x,hx,e.symm⟩
theorem Pk{g:Jw}(h:Il g):Il (Zx g):=by
 obtain⟨l1,l2,l3⟩:=Kh g;have hp:=Uf (g.1.map Mr);have hq:=Vl (g.2.1.map Mr);have hn:(g.1.map Mr).Nodup:=Gd (fun _ _=>cV) h.nn;have hm:(g.2.1.map Mr).Nodup:=Gd (fun _ _=>cV) h.tn;have hN:(g.1.map Mr).length=g.1.length:=Qk ..;have hM:(g.2.1.map Mr).length=g.2.1.length:=Qk ..;have Mq:∀ r∈g.2.2,Vz (g.1.map Mr).length (g.2.1.map Mr).length r.1/\∀ s∈r.2,Vz (g.1.map Mr).length (g.2.1.map Mr).length s:=fun r hr=>by
  rw[hN,hM];obtain⟨f1,_,f3⟩:=h.fit r hr;exact⟨⟨by omega,f1.2⟩,f3⟩
 refine⟨by rw[l1];exact h.n1,by rw[l1,l2];exact h.nm,by rw[l3];exact h.q,?_,?_,Gd (fun a b e=>by rw[<-Ag a,<-Ag b,e]) (hp.nodup_iff.2 hn),Gd (fun a b e=>by rw[<-Ag a,<-Ag b,e]) (hq.nodup_iff.2 hm),?_,?_,?_⟩
 ·intro s hs;obtain⟨x,hx,rfl⟩:=Xa.1 hs;obtain⟨y,hy,rfl⟩:=Xa.1 (hp.mem_iff.1 hx);exact h.names y hy
 ·intro s hs;obtain⟨x,hx,rfl⟩:=Xa.1 hs;obtain⟨y,hy,rfl⟩:=Xa.1 (hq.mem_iff.1 hx);exact h.terms y hy
 ·intro r hr;obtain⟨x,hx,rfl⟩:=sg hr;obtain⟨f1,f2,f3⟩:=h.fit x hx;obtain⟨i1,i2⟩:=Mq x hx;have j1:=On hp hq i1;have j2:=yW (g.1.map Mr) (g.2.1.map Mr) (Wq (g.1.map Mr)) (Jp (g.2.1.map Mr)) x.1;rw[l1,l2];rw[hN,hM] at j1;refine⟨⟨?_,j1.2⟩,by show (x.2.map _).length<=64;rw[Qk];exact f2,fun s hs=>?_⟩
  ·show 0<=Fv _ _ _ _ x.1;omega
  ·obtain⟨t,ht,rfl⟩:=Xa.1 hs;have:=On hp hq (i2 t ht)
   rwa [hN,hM] at this
 ·intro j hj;rw[l1] at hj;obtain⟨i,hi,e⟩:=tO hp hn (j:=j) (by rw[hN];exact hj);rw[hN] at hi;obtain⟨r,hr,hri⟩:=h.has i hi;refine⟨Dn _ _ _ _ r,(Fw _).mem_iff.2 (List.mem_map_of_mem hr),?_⟩;show Fv _ _ _ _ r.1=_;unfold Fv;rw[hri,if_neg (by omega),Yw,e]
 ·show (iL _).Nodup;rw[(Fw _).nodup_iff];refine List.pairwise_map.2 ((List.pairwise_iff_getElem.2 fun i j hi hj hij=>?_));intro e;have:=qdT hp hq hn hm (Mq _ (Qg hi)) (Mq _ (Qg hj)) e;exact absurd this (List.pairwise_iff_getElem.1 h.rn i j hi hj hij)
abbrev Nv:=Bool×ByteArray
abbrev Vp:=ByteArray×List (List Nv)
inductive PSt where
 |name (done:List Vp)
 |colon (done:List Vp) (nm:ByteArray)
 |item (done:List Vp) (nm:ByteArray) (alts:List (List Nv)) (alt:List Nv)
def To:PSt->Un->Option PSt
 |.name done,t=>if t.1=1 then some (.colon done (Ki t.2.1)) else none
 |.colon done nm,t=>if t.1=3 then some (.item done nm [] []) else none
 |.item done nm alts alt,t =>
  if t.1=1\/t.1=2 then some (.item done nm alts (alt++[(decide (t.1=2),Ki t.2.1)]))
  else if t.1=4 then some (.item done nm (alts++[alt]) [])
  else if t.1=5 then some (.name (done++[(nm,alts++[alt])]))
  else none
def goP(len:Nat):PSt->List Un->List Vp×Nat×Nat
 |.name done,[]=>if done=[] then ([],len,14) else (done,0,0)
 |.colon _ _,[]=>([],len,14)
 |.item _ _ _ _,[]=>([],len,14)
 |st,t::r=>match To st t with
  |none=>([],t.2.2,14)
  |some st'=>goP len st' r
def fa(toks:List Un)(len:Nat):List Vp×Nat×Nat:=goP len (.name []) toks
def Tk(s:Wd):List Vp×Nat×Nat:=if (Lo s).2.2≠0 then ([],(Lo s).2.1,(Lo s).2.2) else fa (Lo s).1 s.length
def iG(ns ts:List Wd)(it:Nv):Option (Int×List Wd) :=
 if it.1=true then
  if Mr it.2∈ts then some (-1 - (ts.idxOf (Mr it.2):Int),ts) else some (-1 - (ts.length:Int),ts++[Mr it.2])
 else if Mr it.2∈ns then some ((ns.idxOf (Mr it.2):Int),ts) else none
def Hz(ns:List Wd):List Wd->List Int->List Nv->Option (List Int×List Wd)
 |ts,r,[]=>some (r,ts)
 |ts,r,it::l=>match iG ns ts it with
  |none=>none
  |some (s,Em)=>Hz ns Em (r++[s]) l
def oW(ns:List Wd)(left:Int):List Wd->List Jj->List (List Nv)->Option (List Jj×List Wd)
 |ts,rs,[]=>some (rs,ts)
 |ts,rs,a::l=>match Hz ns ts [] a with
  |none=>none
  |some (r,Em)=>oW ns left Em (rs++[(left,r)]) l
def Ms(ns:List Wd):Nat->List Wd->List Jj->List Vp->Option (List Jj×List Wd)
 |_,ts,rs,[]=>some (rs,ts)
 |i,ts,rs,x::l=>match oW ns (i:Int) ts rs x.2 with
  |none=>none
  |some (rY,Em)=>Ms ns (i+1) Em rY l
def Ca(l:List Vp):Bool:=l.any (fun x=>x.2.any fun a=>decide (64<a.length))||decide (4096<(l.map fun x=>x.2.length).sum)||decide (256<l.length)
def Ku(l:List Vp):Jw×Nat :=
 if Ca l=true then (([],[],[]),19)
 else if ¬ (l.map fun x=>Mr x.1).Nodup then (([],[],[]),15)
 else match Ms (l.map fun x=>Mr x.1) 0 [] [] l with
  |none=>(([],[],[]),16)
  |some (rs,ts) =>
   if 256<l.length+ts.length then (([],[],[]),19)
   else if ¬ rs.Nodup then (([],[],[]),15)
   else ((l.map fun x=>x.1,ts.map Ki,rs),0)
theorem uA(len:Nat)(st:PSt)(t:Un)(r:List Un):goP len st (t::r)=match To st t with | none=>([],t.2.2,14) | some st'=>goP len st' r:=by
 cases st <;> rfl
def kX:PSt->List Un->Option PSt
 |st,[]=>some st
 |st,t::r=>(To st t).bind fun st'=>kX st' r
theorem mc(st:PSt)(a b:List Un):kX st (a++b)=(kX st a).bind fun st'=>kX st' b:=by
 induction a generalizing st with
 |nil=>rfl
 |cons t r ih =>
  show (To st t).bind _=((To st t).bind _).bind _;cases To st t with
  |none=>rfl
  |some st'=>exact ih st'
theorem qbS(len:Nat){st st':PSt}{a:List Un}(h:kX st a=some st')(b:List Un):goP len st (a++b)=goP len st' b:=by
 induction a generalizing st with
 |nil =>
  injection h with h;subst h;rfl
 |cons t r ih =>
  rw[List.cons_append,uA];have h2:(To st t).bind (fun st'=>kX st' r)=some st':=h;cases hs:To st t with
  |none=>rw[hs] at h2;cases h2
  |some st2 =>
   rw[hs] at h2;exact ih h2
theorem qdS{st st' zfO:PSt}{a:List Un}{t:Un}(h:kX st a=some st')(k:To st' t=some zfO):kX st (a++[t])=some zfO:=by
 rw[mc,h];show (To st' t).bind _=_;rw[k];rfl
theorem xv{toks:List Un}{len k:Nat}{st:PSt}(hk:k<toks.length)(h:kX (.name []) (toks.take k)=some st)(hb:To st toks[k]=none):fa toks len=([],toks[k].2.2,14):=by
 unfold fa
 conv=>lhs;rw[<-Xm k toks]
 rw[qbS len h,Ql hk,uA,hb]
theorem xu{toks:List Un}{len:Nat}{st:PSt}(h:kX (.name []) toks=some st):fa toks len=goP len st []:=by
 have:=qbS len h [];rw[List.append_nil] at this;exact this
def rB:aA Nv:=qkF zfJ wW
def qsR(tI:TypeId):aA (List Nv):=uSl rB tI
def iF(tA tI:TypeId):aA Vp:=qkF wW (uSl (qsR tI) tA)
theorem qlL(l:List Value):(l.map fun v=>[v]).flatten=l:=by
 induction l with
 |nil=>rfl
 |cons v l ih=>rw[List.map_cons,List.flatten_cons,ih];rfl
theorem qkV{α:Type}(l:List α)(a b:α){n:Nat}(h:n=l.length):(l++[a]).set n b=l++[b]:=by
 subst h;rw[List.set_append_right _ _ (Xz _),Nat.sub_self];rfl
theorem zC{α:Type}(l:List α)(c a b:α){n:Nat}(h:n=l.length+1):(l++[c,a]).set n b=l++[c,b]:=by
 subst h;rw[List.set_append_right _ _ (Yg _),show l.length+1 - l.length=1 by omega];rfl
structure Oc(tL tA tI:TypeId)(w:World)(N:Nat)(vL:Value)(done:List Vp)(css:List (List Value)):Prop where
 lines:w.ownsRow N tL 2 vL done.length css.flatten
 dn:Ul (iF tA tI) w w.heap.size css done
 nB:N<=w.heap.size
structure Cm(tL tA tI:TypeId)(w:World)(N:Nat)(vL:Value)(done:List Vp)(nm:ByteArray)(css:List (List Value))(B:Nat):Prop where
 lines:w.ownsRow N tL 2 vL (done.length+1) (css.flatten++[.string nm,.slice none 0 0])
 dn:Ul (iF tA tI) w B css done
 nB:N<=B
 bB:B<=w.heap.size
 nms:nm.size<=maxLen
structure Rk(tL tA tI:TypeId)(w:World)(N:Nat)(vL:Value)(done:List Vp)(nm:ByteArray)(alts:List (List Nv))(alt:List Nv)(css:List (List Value))(vA:Value)(cA:List Value)(vI:Value)(cI:List (List Value))(B1 B2:Nat):Prop where
 lines:w.ownsRow N tL 2 vL (done.length+1) (css.flatten++[.string nm,vA])
 dn:Ul (iF tA tI) w B1 css done
 row:w.ownsRow B1 tA 1 vA (alts.length+1) (cA++[vI])
 al:Ul (qsR tI) w B2 (cA.map fun v=>[v]) alts
 last:w.ownsRow B2 tI 2 vI alt.length cI.flatten
 it:Ul rB w B2 cI alt
 nB:N<=B1
 b12:B1<=B2
 b2:B2<=w.heap.size
 nms:nm.size<=maxLen
theorem rA(tA tI:TypeId):(iF tA tI).ts=[tA,tI]:=rfl
theorem dj(tI:TypeId):(qsR tI).ts=[tI]:=rfl
theorem qkG:rB.ts=[]:=rfl
theorem dD{tA tI:TypeId}{w:World}{U:Nat}{css:List (List Value)}{done:List Vp}(h:Ul (iF tA tI) w U css done):css.flatten.length=2*done.length:=by
 have hl:∀ cs∈css,cs.length=2:=fun cs yA=>by
  obtain⟨i,hi,rfl⟩:=Qz yA;exact (iF tA tI).E.len ((iF tA tI).elt (h.rep i _ _ (Qa hi) (Qa (by rw[<-h.len];exact hi))))
 rw[<-h.len];clear h
 induction css with
 |nil=>rfl
 |cons c css ih =>
  rw[List.flatten_cons,Qe,ih (fun cs yA=>hl cs (Xi _ yA)),hl c (Xh ..),Qu];omega
section
variable {tL tA tI:TypeId} {w w1:World} {N:Nat} {vL:Value} {done:List Vp} {nm:ByteArray} {alts:List (List Nv)} {alt:List Nv} {css:List (List Value)} {vA:Value} {cA:List Value} {vI:Value} {cI:List (List Value)} {B1 B2:Nat}
theorem Oc.below(h:Oc tL tA tI w N vL done css)(hb:Below w.heap.size w w1):Oc tL tA tI w1 N vL done css:=⟨Jk h.lines hb,(h.dn.below hb).more hb.size,Ya h.nB hb.size⟩
theorem Cm.below{B:Nat}(h:Cm tL tA tI w N vL done nm css B)(hb:Below w.heap.size w w1):Cm tL tA tI w1 N vL done nm css B:=⟨Jk h.lines hb,h.dn.below hb,h.nB,Ya h.bB hb.size,h.nms⟩
theorem Rk.below(h:Rk tL tA tI w N vL done nm alts alt css vA cA vI cI B1 B2)(hb:Below w.heap.size w w1):Rk tL tA tI w1 N vL done nm alts alt css vA cA vI cI B1 B2 :=
 ⟨Jk h.lines hb,h.dn.below hb,Jk h.row hb,h.al.below hb,Jk h.last hb,h.it.below hb,h.nB,h.b12,Ya h.b2 hb.size,h.nms⟩
theorem Oc.set(h:Oc tL tA tI w N vL done css){g k:Nat}{cs:Array Value}{T:TypeId}(hg:w.heap[g]? = some (.cells cs T (0,0)))(hN:g<N)(hT:T∉[tA,tI])(v:Value):Oc tL tA tI (w.setCell ⟨g,k,none⟩ v) N vL done css :=
 ⟨Zh h.lines hN v,by rw[Yy];exact h.dn.keep (.of_setT hg hT v),by rw[Yy];exact h.nB⟩
theorem Cm.set{B:Nat}(h:Cm tL tA tI w N vL done nm css B){g k:Nat}{cs:Array Value}{T:TypeId}(hg:w.heap[g]? = some (.cells cs T (0,0)))(hN:g<N)(hT:T∉[tA,tI])(v:Value):Cm tL tA tI (w.setCell ⟨g,k,none⟩ v) N vL done nm css B :=
 ⟨Zh h.lines hN v,h.dn.keep (.of_setT hg hT v),h.nB,by rw[Yy];exact h.bB,h.nms⟩
theorem Rk.set(h:Rk tL tA tI w N vL done nm alts alt css vA cA vI cI B1 B2){g k:Nat}{cs:Array Value}{T:TypeId}(hg:w.heap[g]? = some (.cells cs T (0,0)))(hN:g<N)(hT:T∉[tA,tI])(v:Value):Rk tL tA tI (w.setCell ⟨g,k,none⟩ v) N vL done nm alts alt css vA cA vI cI B1 B2 :=
 have hB:=h.nB;have hB2:=h.b12
 ⟨Zh h.lines hN v,h.dn.keep (.of_setT hg hT v),Zh h.row (show g<B1 by omega) v,h.al.keep (.of_setT hg (fun e=>hT (Xi _ e)) v),
  Zh h.last (show g<B2 by omega) v,h.it.keep (.of_setT hg (by rw[qkG];simp) v),hB,hB2,by rw[Yy];exact h.b2,h.nms⟩
theorem Oc.name{vL':Value}(h:Oc tL tA tI w N vL done css)(hLA:tL≠tA)(hLI:tL≠tI)(hs:nm.size<=maxLen)(ho:w1.ownsRow N tL 2 vL' (done.length+1) (css.flatten++[.string nm,.slice none 0 0]))(hg:w.grownBy w1 vL.ownBlock):Cm tL tA tI w1 N vL' done nm css w1.heap.size :=
 ⟨ho,(h.dn.keep (.of_keepT (Jq.of_grown h.lines hg (by rw[rA];simp[hLA,hLI])))).more hg.size,Ya h.nB hg.size,Xz _,hs⟩
theorem Cm.colon{cC:Value}{g c B:Nat}(h:Cm tL tA tI w N (.slice (some ⟨g,0,none⟩) (done.length+1) c) done nm css B)(hLA:tL≠tA)(hLI:tL≠tI)(ho:w1.ownsRow B tA 1 cC 1 [.slice none 0 0])(hg:w.grownBy w1 none){k:Nat}(hk:k=2*done.length+1) :
  Rk tL tA tI (w1.setCell ⟨g,k,none⟩ cC) N (.slice (some ⟨g,0,none⟩) (done.length+1) c) done nm [] [] css cC [] (.slice none 0 0) [] B w1.heap.size:=by
 have hb:Below w.heap.size w w1:=(Xr _ _).grown hg (Xz _) (fun k hk=>nomatch hk);have h1:=h.below hb;have hlen:=dD h.dn;obtain⟨g',c',e,Cp,aE,_,_,⟨cur,pK⟩,_⟩:=Kw h1.lines;injection e with e1 e2 e3;injection e1 with e1;injection e1 with e1;subst e1;refine⟨?_,h1.dn.keep (.of_setT pK (by rw[rA];simp[hLA,hLI]) cC),Fl ho h1.lines (Ne.symm hLA) cC,Ul.nil _ _ _,Yx _ _ _ _,Ul.nil _ _ _,h.nB,Ya h.bB hg.size,by rw[Yy];exact Xz _,h.nms⟩;have:=sR h1.lines k cC;rw[zC _ _ _ _ (by rw[hlen];exact hk)] at this;exact this
theorem Rk.item{vI':Value}{g c:Nat}{b:Bool}{s:ByteArray}(h:Rk tL tA tI w N vL done nm alts alt css (.slice (some ⟨g,0,none⟩) (alts.length+1) c) cA vI cI B1 B2)(hLA:tL≠tA)(hLI:tL≠tI)(hAI:tA≠tI)(hs:s.size<=maxLen)
  (ho:w1.ownsRow B2 tI 2 vI' (alt.length+1) (cI.flatten++[.bool b,.string s])) (hg:w.grownBy w1 vI.ownBlock) :
  Rk tL tA tI (w1.setCell ⟨g,alts.length,none⟩ vI') N vL done nm alts (alt++[(b,s)]) css (.slice (some ⟨g,0,none⟩) (alts.length+1) c) cA vI' (cI++[[.bool b,.string s]]) B1 B2:=by
 have Nk:=Mw h.row h.last hAI hg;obtain⟨g',c',e,Cp,aE,_,_,⟨cur,pK⟩,_⟩:=Kw Nk;injection e with e1 e2 e3;injection e1 with e1;injection e1 with e1;subst e1;have Hx:alts.length=cA.length:=by
  have:=h.al.len;rw[Qk] at this;exact this.symm
 refine⟨Fl (Mw h.lines h.last hLI hg) Nk hLA vI',(h.dn.keep (.of_grown h.last hg h.b12)).keep (.of_set Cp vI'),?_,(h.al.keep (.of_grown h.last hg (Xz _))).keep (.of_setT pK (by rw[dj];simp[hAI]) vI'),?_,?_,h.nB,h.b12,by rw[Yy];exact Ya h.b2 hg.size,h.nms⟩
 ·have:=sR Nk alts.length vI';rw[qkV _ _ _ Hx] at this;exact this
 ·have:=Fl (g:=g) (j:=alts.length) ho Nk (Ne.symm hAI) vI';rw[Qe,Qf,Qs];simpa using this
 ·exact Ul.snoc (h.it.keep (w':=w1.setCell ⟨g,alts.length,none⟩ vI') ⟨by rw[Yy];exact hg.size,fun _ _ _ _ ht=>nomatch ht⟩) ⟨[.bool b],[.string s],rfl,rfl,rfl,hs⟩
theorem Rk.bar{cC:Value}{g c:Nat}(h:Rk tL tA tI w N (.slice (some ⟨g,0,none⟩) (done.length+1) c) done nm alts alt css vA cA vI cI B1 B2)(hLA:tL≠tA)(hLI:tL≠tI)(hAI:tA≠tI)
  (ho:w1.ownsRow B1 tA 1 cC (alts.length+1+1) ((cA++[vI])++[.slice none 0 0])) (hg:w.grownBy w1 vA.ownBlock) {k:Nat} (hk:k=2*done.length+1) :
  Rk tL tA tI (w1.setCell ⟨g,k,none⟩ cC) N (.slice (some ⟨g,0,none⟩) (done.length+1) c) done nm (alts++[alt]) [] css cC (cA++[vI]) (.slice none 0 0) [] B1 w1.heap.size:=by
 have hlen:=dD h.dn;have quN:=Mw h.lines h.row hLA hg;obtain⟨g',c',e,Cp,aE,_,_,⟨cur,pK⟩,_⟩:=Kw quN;injection e with e1 e2 e3;injection e1 with e1;injection e1 with e1;subst e1;have zhP:=Mw h.last h.row (Ne.symm hAI) hg;have Fd:w.heap.size<=w1.heap.size:=hg.size;have zaW:(w1.setCell ⟨g,k,none⟩ cC).ownsRow B2 tI 2 vI alt.length cI.flatten:=Fl zhP quN (Ne.symm hLI) cC;refine⟨?_,(h.dn.keep (.of_grown h.row hg (Xz _))).keep (.of_setT pK (by rw[rA];simp[hLA,hLI]) cC),?_,?_,Yx _ _ _ _,Ul.nil _ _ _,h.nB,Ya (Ya h.b12 h.b2) Fd,by rw[Yy];exact Xz _,h.nms⟩
 ·have:=sR quN k cC;rw[zC _ _ _ _ (by rw[hlen];exact hk)] at this;exact this
 ·have:=Fl (g:=g) (j:=k) ho quN (Ne.symm hLA) cC;rw[Qe,Qf];exact this
 ·rw[Qt];have h1:=((h.al.keep (.of_keepT (Jq.of_grown h.row hg (by rw[dj];simp[hAI])))).keep (.of_setT (k:=k) pK (by rw[dj];simp[hLI]) cC)).more (Ya h.b2 Fd);refine Ul.snoc (xs:=alts) (x:=alt) h1 ⟨vI,rfl,?_⟩;have h2:Ul rB (w1.setCell ⟨g,k,none⟩ cC) (w1.setCell ⟨g,k,none⟩ cC).heap.size cI alt:=⟨h.it.len,fun i cs x hc hx=>rB.more (rB.keep (h.it.rep i cs x hc hx) ⟨by rw[Yy];exact Fd,fun _ _ _ _ ht=>nomatch ht⟩) (by rw[Yy];exact Ya h.b2 Fd)⟩;have h3:=dJ.of_row (O:=rB) (t:=tI) zaW h2;rw[Yy] at h3;exact h3
theorem Rk.semi(h:Rk tL tA tI w N vL done nm alts alt css vA cA vI cI B1 B2):Oc tL tA tI w N vL (done++[(nm,alts++[alt])]) (css++[[.string nm,vA]]):=by
 have hB:=h.b12;have hB2:=h.b2;refine⟨?_,?_,Ya h.nB (by omega)⟩
 ·rw[Qs,Qe];simpa using h.lines
 ·refine Ul.snoc (h.dn.more (by omega)) ⟨[.string nm],[vA],rfl,⟨rfl,h.nms⟩,vA,rfl,?_⟩;have hr:w.ownsRow B1 tA (qsR tI).E.size vA (alts++[alt]).length ((cA++[vI]).map fun v=>[v]).flatten:=by
   rw[qlL,Qe,Qf];exact h.row
  refine dJ.of_row hr ?_;rw[Qt];refine Ul.snoc (h.al.more hB2) ⟨vI,rfl,dJ.of_row h.last (h.it.more hB2)⟩
theorem Oc.sl(h:Oc tL tA tI w N vL done css):Jb (iF tA tI).E w w.heap.size vL done:=(dJ.of_row (O:=iF tA tI) h.lines h.dn).sl
end
theorem iH{s:Wd}{i:Nat}(hi:i<s.length)(toks:List Un):Rq s (i,toks)=if uY s[i]=true then some (i+1,toks) else if s[i]=35 then some (i+Um aW (s.drop i),toks) else match Sm (s.drop i) with
  |.ok t=>some (i+t.2.2,toks++[(t.1,t.2.1,i)])
  |.error _=>none:=by
 unfold Rq;rw[Ql hi];dsimp only;cases Sm (s[i]::s.drop (i+1)) <;> rfl
theorem vp{s:Wd}{i:Nat}(hi:i<s.length)(h:uY s[i]=true)(toks:List Un):Rq s (i,toks)=some (i+1,toks):=by
 rw[iH hi,if_pos h]
theorem qpD:uY 35=false:=by decide
theorem qdL{s:Wd}{i:Nat}(hi:i<s.length)(h:s[i]=35)(toks:List Un):Rq s (i,toks)=some (i+Um aW (s.drop i),toks):=by
 rw[iH hi,if_neg (by rw[h,qpD];decide),if_pos h]
theorem qkN{s:Wd}{i:Nat}(hi:i<s.length)(h:uY s[i]=false)(h2:s[i]≠35){t:Nat×Wd×Nat}(ht:Sm (s.drop i)=.ok t)(toks:List Un):Rq s (i,toks)=some (i+t.2.2,toks++[(t.1,t.2.1,i)]):=by
 rw[iH hi,if_neg (by rw[h];decide),if_neg h2,ht]
theorem qkO{s:Wd}{i:Nat}(hi:i<s.length)(h:uY s[i]=false)(h2:s[i]≠35){e:Nat}(ht:Sm (s.drop i)=.error e)(toks:List Un):Rq s (i,toks)=none/\I_ s (i,toks)=([],i,e):=by
 refine⟨by rw[iH hi,if_neg (by rw[h];decide),if_neg h2,ht],?_⟩;unfold I_;rw[Ql hi] at ht |-;simp only[ht]
theorem qkP{s:Wd}{i:Nat}(hi:s.length<=i)(toks:List Un):Rq s (i,toks)=none/\I_ s (i,toks)=(toks,0,0):=by
 unfold Rq I_;rw[Xl hi];exact⟨rfl,rfl⟩
theorem qmI{s:Wd}{i:Nat}{toks:List Un}(hl:s.length<=65536)(h:ReachX s (0,[]) (i,toks))(hi:s.length<=i):Lo s=(toks,0,0):=by
 obtain⟨h1,h2⟩:=qkP hi toks;rw[qbG (by omega) h h1,h2]
theorem qmH{s:Wd}{i e:Nat}{toks:List Un}(hl:s.length<=65536)(h:ReachX s (0,[]) (i,toks))(hi:i<s.length)(hb:uY s[i]=false)(hn:s[i]≠35)(ht:Sm (s.drop i)=.error e):Lo s=([],i,e):=by
 obtain⟨h1,h2⟩:=qkO hi hb hn ht toks;rw[qbG (by omega) h h1,h2]
inductive BlkX(t:Wd)(i:Nat):Nat->Prop
 |refl:BlkX t i i
 |blank {j:Nat} (hj:j<t.length):BlkX t i j->uY t[j]=true->BlkX t i (j+1)
 |note {j:Nat} (hj:j<t.length):BlkX t i j->t[j]=35->BlkX t i (j+Um aW (t.drop j))
theorem BlkX.reach{s:Wd}{k i j:Nat}(toks:List Un)(h:BlkX (s.drop k) i j):ReachX s (k+i,toks) (k+j,toks):=by
 induction h with
 |refl=>exact .refl _
 |@blank j hj _ hb ih =>
  rw[Xj] at hj;rw[List.getElem_drop] at hb;exact ih.snoc (vp (by omega) hb toks)
 |@note j hj _ hb ih =>
  rw[Xj] at hj;rw[List.getElem_drop] at hb;refine ih.snoc ?_;rw[qdL (by omega) hb toks,List.drop_drop,Yv]
def Lb(t:Wd)(j:Nat):Prop:=∀(h:j<t.length),uY t[j]=false/\t[j]≠35
theorem Lb.drop{s:Wd}{k j:Nat}(h:Lb (s.drop k) j):Lb s (k+j):=fun Jo=>by
 have:=h (by rw[Xj];omega)
 rwa [List.getElem_drop] at this
theorem qkK{l:Wd}{t:Nat×Wd×Nat}(h:Sm l=.ok t):t.2.2<=l.length:=by
 cases l with
 |nil=>cases h
 |cons c r =>
  change Ol c r=_ at h;unfold Ol at h;by_cases h1:c=58
  ·rw[if_pos h1] at h;cases h;exact Nat.le_add_left 1 r.length
  ·rw[if_neg h1] at h;by_cases h2:c=124
   ·rw[if_pos h2] at h;cases h;exact Nat.le_add_left 1 r.length
   ·rw[if_neg h2] at h;by_cases h3:c=59
    ·rw[if_pos h3] at h;cases h;exact Nat.le_add_left 1 r.length
    ·rw[if_neg h3] at h;by_cases h4:Ug (c.toNat:Int)=true
     ·rw[if_pos h4] at h;by_cases h5:32<Um Mb (c::r)
      ·rw[if_pos h5] at h;cases h
      ·rw[if_neg h5] at h;cases h;exact Cz Mb (c::r)
     ·rw[if_neg h4] at h;by_cases h5:c=39
      ·rw[if_pos h5] at h;by_cases h6:0<Um Jl r/\r[Um Jl r]? = some 39
       ·rw[if_pos h6] at h;by_cases h7:32<Um Jl r
        ·rw[if_pos h7] at h;cases h
        ·rw[if_neg h7] at h;cases h;have:=(Qj.1 h6.2).1;show Um Jl r+2<=(c::r).length;rw[Qu];omega
       ·rw[if_neg h6] at h;cases h
      ·rw[if_neg h5] at h;cases h
theorem ve(r:Wd):Ol 58 r=.ok (3,[58],1):=rfl
theorem qkI(r:Wd):Ol 124 r=.ok (4,[124],1):=rfl
theorem qdC(r:Wd):Ol 59 r=.ok (5,[59],1):=rfl
theorem qdD{c:UInt8}{r:Wd}(h:Ug (c.toNat:Int)=true):Ol c r=if 32<Um Mb (c::r) then .error 19 else .ok (1,(c::r).take (Um Mb (c::r)),Um Mb (c::r)):=by
 unfold Ol;rw[if_neg (by rintro rfl;revert h;decide),if_neg (by rintro rfl;revert h;decide),if_neg (by rintro rfl;revert h;decide),if_pos h]
theorem qdB(r:Wd):Ol 39 r=if 0<Um Jl r/\r[Um Jl r]? = some 39 then (if 32<Um Jl r then .error 19 else .ok (2,r.take (Um Jl r),Um Jl r+2)) else .error 13:=rfl
theorem qkJ{c:UInt8}{r:Wd}(h1:c≠58)(h2:c≠124)(h3:c≠59)(h4:Ug (c.toNat:Int)=false)(h5:c≠39):Ol c r=.error 13:=by
 unfold Ol;rw[if_neg h1,if_neg h2,if_neg h3,if_neg (by rw[h4];decide),if_neg h5]
theorem cH(s:ByteArray)(k:Nat):(s.extract k s.size).data.toList=s.data.toList.drop k:=by
 rw[ByteArray.data_extract,Array.toList_extract,List.extract_eq_take_drop];exact Qd (by simp)
theorem qlT(c:Int)(w:World):Calls Tryz.prog 266 #[.int .u8 c] w fun e w'=>e=.returned (.bool (aW c))/\w=w':=by
 go_enter Tryz.func266,Tryz.ntmps266;go_wp2;go_ret;exact⟨Kd (Zm (by rw[Bool.eq_iff_iff];simp[aW])),rfl⟩
theorem iv(s:ByteArray){k:Nat}(hk:k<s.data.toList.length)(c:UInt8):s.data.toList[k]=c↔Sl s k=(c.toNat:Int):=by
 rw[Lw s k hk];constructor
 ·intro h;rw[h]
 ·intro h;exact UInt8.toNat_inj.1 (by omega)
theorem qpE(s:ByteArray){k:Nat}(hk:k<s.data.toList.length):uY s.data.toList[k]=true↔Sl s k=32\/Sl s k=9\/Sl s k=13\/Sl s k=10:=by
 unfold uY;simp only[Ys,Yi,iv s hk,or_assoc];exact Iff.rfl
theorem ch(s:ByteArray)(w:World)(hs:s.size<=maxLen) :
  Calls Tryz.prog 237 #[.string s] w fun e w'=>∃ n:Nat,e=.returned (.int .i64 n)/\n<=s.size/\BlkX s.data.toList 0 n/\Lb s.data.toList n/\w=w':=by
 have Ld:=hs;unfold maxLen at hs;have yB:=dH s;have Cj:=Lh (show s.data.toList.length=s.size by simp);go_enter Tryz.func237,Tryz.ntmps237;go_wp2_with fail;go_loop [3] (fun v3=>∃ k:Nat,k<=s.size/\v3=.int .i64 k/\Hid (BlkX s.data.toList 0 k)) (fun v3=>s.size - (intOf v3).toNat);exact⟨0,by omega,rfl,.refl⟩;obtain⟨k,hk,rfl,hX⟩:=hrel;by_cases Jo:k<s.size
 ·have Dl:k<s.data.toList.length:=by rw[Cj.o];exact Jo
  have hc:Sl s k=35\/Sl s k=32\/Sl s k=9\/Sl s k=13\/Sl s k=10\/(Sl s k≠35/\Sl s k≠32/\Sl s k≠9/\Sl s k≠13/\Sl s k≠10):=by omega
  rcases hc with h | h | h | h | h | ⟨h1,h2,h3,h4,h5⟩
  ·have h35:s.data.toList[k]=35:=(iv s Dl 35).2 h;have HR:=Lh (Cz aW (s.data.toList.drop k));have HP:=Lh (show 1<=Um aW (s.data.toList.drop k) by rw[Ql Dl,h35];exact iO (by decide));have HX2:=Lh (BlkX.note Dl hX.o h35);have HC:=Lh (iN 266 aW (fun _ _=>by kernel_rfl) qlT (s.extract k s.size) w (by simp;unfold maxLen;omega));rw[cH] at HC;obtain⟨R,hR⟩:=Xe (Um aW (s.data.toList.drop k));rw[<-hR] at HR HP HX2 HC;have hR2:R+k<=s.size:=by have:=HR.o;rw[Xj,Cj.o] at this;omega
   have hR1:1<=R:=HP.o;clear hR h35;go_wp2_with fail;refine HC.o.mono ?_;rintro e w1 ⟨rfl,rfl⟩;go_wp2;go_round;exact⟨k+R,by omega,by go_num,HX2.o⟩;simp[intOf];omega
  iterate 4
   ·have HX2:=Lh (BlkX.blank Dl hX.o ((qpE s Dl).2 (by omega)));go_wp2_with fail;go_round;exact⟨k+1,by omega,by go_num,HX2.o⟩;simp[intOf];omega
  ·have HEND:=Lh (show Lb s.data.toList k from fun hh=>⟨by
    rw[<-Bool.not_eq_true,qpE s hh]
    omega,fun e=>h1 ((iv s hh 35).1 e)⟩)
   go_wp2_with fail;go_ret;exact⟨k,rfl,hk,hX.o,HEND.o,rfl⟩
 ·have HEND:Hid (Lb s.data.toList k):=fun h=>absurd h (by rw[Cj.o];omega);go_wp2;go_ret;exact⟨k,rfl,hk,hX.o,HEND.o,rfl⟩
theorem Gs{fn:Func}{p u x:Tmp}{ty:TypeId}(h:fn.results=#[.cell p ty,.tmp u,.tmp x])(tmps:Array Value)(P:Program)(w:World) :
  (results fn tmps).run P w=((asAddr (tmps.getD p undef)).run P w).andThen fun a w₁=>((loadVar ty a).run P w₁).andThen fun v w₂=>.ok (.tuple #[v,tmps.getD u undef,tmps.getD x undef]) w₂:=by
 simp only[results,h];simp[Result.andThen]
theorem Fb{fn:Func}{p u x:Tmp}{r y:Value}{Q:Ending->World->Prop}(h:fn.results=#[.cell p 220,.tmp u,.tmp x]){a:Act}{w:World}{g:Nat}{c0 c1 c2:Value}{fr:Nat×Nat}{t:TypeId}(hd:a.defers=[])
  (hp:a.tmps.getD p undef=.pointer (some ⟨g,0,none⟩)) (hu:a.tmps.getD u undef=r) (hx:a.tmps.getD x undef=y) (hg:w.heap[g]? = some (.cells #[c0,c1,c2] t fr)) (hq:Q (.returned (.tuple #[.agg #[c0,c1,c2],r,y])) w):bodyPost Tryz.prog fn Q .ret a w:=by
 refine Ze (v:=.tuple #[.agg #[c0,c1,c2],r,y]) ?_ hd hq;rw[Gs h,hp,hu,hx];simp[asAddr,Result.andThen,run_loadVar_row w g t 220 #[c0,c1,c2] fr _ hg Tryz.underlying220 rfl (by kernel_rfl)]
def tG(k:Nat)(b:ByteArray)(n:Nat):Value:=if 32<b.size then .tuple #[.agg #[.int .i64 0,.string ⟨#[]⟩,.int .i64 0],.int .i64 0,.int .i64 19] else .tuple #[.agg #[.int .i64 k,.string b,.int .i64 0],.int .i64 n,.int .i64 0]
theorem pa(k:Nat)(b:ByteArray)(n:Nat)(w:World)(hb:b.size<=maxLen) :
  Calls Tryz.prog 267 #[.agg #[.int .i64 k,.string b,.int .i64 0],.int .i64 n] w fun e w'=>e=.returned (tG k b n)/\Below w.heap.size w w':=by
 unfold maxLen at hb;by_cases h:32<b.size
 ·have HV:Hid (tG k b n=.tuple #[.agg #[.int .i64 0,.string ⟨#[]⟩,.int .i64 0],.int .i64 0,.int .i64 19]):=if_pos h;go_enter Tryz.func267,Tryz.ntmps267;go_wp2_with fail;refine Fb (g:=w.heap.size+1) rfl rfl rfl rfl rfl (by rw[show w.heap.size+1=(w.alloc (.cells #[.int .i64 k,.string b,.int .i64 0] 220)).heap.size from (Xs _ _).symm];exact Xn _ _) ?_;exact⟨(congrArg Ending.returned HV.o.symm),((Xr _ _).alloc (Xz _) _).alloc (by simp) _⟩
 ·have HV:Hid (tG k b n=.tuple #[.agg #[.int .i64 k,.string b,.int .i64 0],.int .i64 n,.int .i64 0]):=if_neg h;go_enter Tryz.func267,Tryz.ntmps267;go_wp2_with fail;refine Fb (g:=w.heap.size+1) rfl rfl rfl rfl rfl (by rw[show w.heap.size+1=(w.alloc (.cells #[.int .i64 k,.string b,.int .i64 0] 220)).heap.size from (Xs _ _).symm];exact Xn _ _) ?_;exact⟨(congrArg Ending.returned HV.o.symm),((Xr _ _).alloc (Xz _) _).alloc (by simp) _⟩
def quQ(h:List UInt8)(k:Int):List Value:=Re h++[.int .i64 k]
abbrev hkv(h:List UInt8)(k:Int):Value:=.agg (quQ h k).toArray
section
variable {P:Program} {w:World}
theorem tJ{ty:TypeId}{d:TypeDesc}(hu:P.underlying ty=some d)(hd:(match d with | .struct _ | .array _ _=>true | _=>false)=true){b off:Nat}{cs:List Value}(hi:(P.info? ty).map (·.size)=some cs.length)
  (hc:∀ j u,cs[j]? = some u->w.cell? ⟨b,off+j,none⟩=some u):(Instr.loadAt ty (.pointer (some ⟨b,off,none⟩))).run P w=.ok (.agg cs.toArray) w:=by
 have hl:(loadCells ⟨b,off,none⟩ cs.length).run P w=.ok cs.toArray w:=run_loadCells_list (P:=P) w ⟨b,off,none⟩ cs (fun j v hv=>by rw[Addr.add_lit];exact hc j v hv);cases hq:P.info? ty with
 |none=>simp[hq] at hi
 |some i =>
  have hs:i.size=cs.length:=by simpa[hq] using hi
  have gE:(isAgg ty).run P w=.ok true w:=by
   unfold isAgg;rw[Zd,run_underlying hu w];cases d <;> simp_all
  simp[Instr.loadAt,Instr.sureAddr,loadVar,gE,sizeOf,typeInfo,hq,hs,hl]
theorem cQ{ty:TypeId}{g off:Nat}{vs:List Value}{v:Value}(hv:v.cells=vs.toArray)(hi:(P.info? ty).map (·.size)=some vs.length){cur:Array Value}{t:TypeId}(hg:w.heap[g]? = some (.cells cur t (0,0)))
  (hl:off+vs.length<=cur.size) (h1:∀ u∈vs,u.oneCell'=true):(Instr.storeAt ty (.pointer (some ⟨g,off,none⟩)) v).run P w=.ok () (w.setRow g (cur.toList.take off++vs++cur.toList.drop (off+vs.length)).toArray):=by
 have hs:=run_storeCells_at P g off t vs 0 cur w hg (by omega) h1;rw[Yo] at hs;cases hq:P.info? ty with
 |none=>simp[hq] at hi
 |some i =>
  have Fd:i.size=vs.length:=by simpa[hq] using hi
  simp[Instr.storeAt,Instr.sureAddr,storeVar,sizeOf,typeInfo,hq,Fd,hv,hs]
end
structure Stop(p:Prop):Prop where
 o:p
theorem Stop.go{p:Prop}(h:p):Stop p:=⟨h⟩
section
variable {P:Program} {ops:Array Oper} {Q:Exit->Act->World->Prop} {a:Act} {w:World} {rest:List Oper} {o:Oper}
theorem Jc(d:Option Tmp)(_hd:o.dst=d)(h:Stop (wpList P ops Q (o::rest) a w)):wpList P ops Q (o::rest) a w:=h.o
theorem Zo(hgd:o.guard=none)(ty:TypeId){x y:Operand}(ho:o.op=.store ty x y){g off:Nat}(hx:a.eval x=.pointer (some ⟨g,off,none⟩)){v:Value}(hy:a.eval y=v){w':World}
  (dP:(Instr.storeAt ty (.pointer (some ⟨g,off,none⟩)) v).run P w=.ok () w') (h:wpList P ops Q rest (a.put o.dst undef) w'):wpList P ops Q (o::rest) a w:=by
 refine wpList_plain hgd fun K hK=>?_;unfold Oper.wp execOp;simp only[ho,hx,hy,Zd,dP,Result.andThen_ok,Sem.run_pure];exact hK _ _ h
theorem zF{g:Nat}{vs:List Value}{t:TypeId}(hg:w.heap[g]? = some (.cells vs.toArray t (0,0))):∀ j u,vs[j]? = some u->w.cell? ⟨g,0+j,none⟩=some u:=fun j u hu=>by
 rw[Yp,Za _ _ _ _ _ _ hg,<-Array.getElem?_toList];exact hu
end
section
variable {P:Program} {ops:Array Oper} {Q:Exit->Act->World->Prop} {a:Act} {w:World} {rest:List Oper} {o:Oper}
theorem tH{ty:TypeId}{k:IntKind}{p:Addr}{z:Int}(hu:P.underlying ty=some (.int k))(hc:w.cell? p=some (.int k z)):(Instr.loadAt ty (.pointer (some p))).run P w=.ok (.int k z) w:=by
 have gE:(isAgg ty).run P w=.ok false w:=by
  unfold isAgg;rw[Zd,run_underlying hu w];rfl
 simp[Instr.loadAt,Instr.sureAddr,loadVar,gE,hc]
theorem Jy{ty:TypeId}{x:Operand}{v p:Value}(ho:o.op=.load ty x)(hx:a.eval x=p)(h:(Instr.loadAt ty p).run P w=.ok v w):(execOp a.eval o).run P w=.ok (.value v) w:=by
 unfold execOp;simp only[ho,hx,Zd,h,Result.andThen_ok,Sem.run_pure]
end
section
variable {P:Program} {ops:Array Oper} {w0:World} {G:List Nat}
end
theorem qzO{l:Wd}{b:ByteArray}(h:b.data.toList=l):Ki l=b:=by subst h;exact Tw b
theorem ou(s:ByteArray)(i k:Nat):(s.extract i (i+k)).data.toList=(s.data.toList.drop i).take k:=by
 rw[ByteArray.data_extract,Array.toList_extract,List.extract_eq_take_drop,Nat.add_sub_cancel_left]
theorem qgN(s:ByteArray)(k:Nat):(s.extract 0 k).data.toList=s.data.toList.take k:=by
 have:=ou s 0 k
 rwa [Yp,List.drop_zero] at this
theorem cM{w:World}{g:Nat}{vs:List Value}{v:Value}(hv:v.cells=vs.toArray)(hl:vs.length=3){cur:Array Value}{t:TypeId}(hg:w.heap[g]? = some (.cells cur t (0,0)))
  (hc:cur.size=3) (h1:∀ u∈vs,u.oneCell'=true):(Instr.storeAt 220 (.pointer (some ⟨g,0,none⟩)) v).run Tryz.prog w=.ok () (w.setRow g vs.toArray):=by
 rw[cQ hv (by rw[hl];kernel_rfl) hg (by omega) h1];congr 2;simp[List.drop_eq_nil_of_le (show cur.toList.length<=vs.length by simp;omega)]
def uJ(l:Wd):Value:=match Sm l with
 |.ok t=>.tuple #[.agg #[.int .i64 t.1,.string (Ki t.2.1),.int .i64 0],.int .i64 t.2.2,.int .i64 0]
 |.error e=>.tuple #[.agg #[.int .i64 0,.string ⟨#[]⟩,.int .i64 0],.int .i64 0,.int .i64 e]
theorem Bg{l:Wd}{t:Nat×Wd×Nat}(h:Sm l=.ok t){b:ByteArray}(hb:b.data.toList=t.2.1):uJ l=.tuple #[.agg #[.int .i64 t.1,.string b,.int .i64 0],.int .i64 t.2.2,.int .i64 0]:=by
 unfold uJ;rw[h,<-qzO hb]
theorem Ga{l:Wd}{e:Nat}(h:Sm l=.error e):uJ l=.tuple #[.agg #[.int .i64 0,.string ⟨#[]⟩,.int .i64 0],.int .i64 0,.int .i64 e]:=by
 unfold uJ;rw[h]
def wF(l:Wd)(w:World)(e:Ending)(w':World):Prop:=e=.returned (uJ l)/\Below w.heap.size w w'
theorem fh(s:ByteArray)(w:World)(hs:s.size<=maxLen)(h0:0<s.size):Calls Tryz.prog 238 #[.string s] w (wF s.data.toList w):=by
 have Ld:=hs;unfold maxLen at hs;have yB:=dH s;have Cj:=Lh (show s.data.toList.length=s.size by simp);obtain⟨c,r,bf⟩:∃ c r,s.data.toList=c::r:=by
  cases hl:s.data.toList with
  |nil=>have:=Cj.o;rw[hl] at this;simp at this;omega
  |cons c r=>exact⟨c,r,rfl⟩
 have Vi:Sl s 0=(c.toNat:Int):=by rw[Lw s 0 (by rw[Cj.o];exact h0)];simp[bf]
 have HT:=Lh (show Sm s.data.toList=Ol c r by rw[bf];rfl);unfold wF;have HIT:=Lh (Xn w (.cells #[.int .i64 0,.string ⟨#[]⟩,.int .i64 0] 220));have eN:Sl s 0=58\/Sl s 0=124\/Sl s 0=59\/(Sl s 0≠58/\Sl s 0≠124/\Sl s 0≠59):=by omega
 rcases eN with h | h | h | ⟨h1,h2,h3⟩
 ·have HV:=Lh (Bg (b:=⟨#[58]⟩) (HT.o.trans (by rw[show c=58 from UInt8.toNat_inj.1 (by have:=Vi;rw[h] at this;exact Int.ofNat_inj.1 this.symm)];exact ve r)) rfl);clear HT bf Vi;go_enter Tryz.func238,Tryz.ntmps238;go_wp2_with fail;refine Fb (g:=w.heap.size) rfl rfl rfl rfl rfl (Xn _ _) ?_;exact⟨congrArg Ending.returned HV.o.symm,(Xr _ _).alloc (Xz _) _⟩
 ·have HV:=Lh (Bg (b:=⟨#[124]⟩) (HT.o.trans (by rw[show c=124 from UInt8.toNat_inj.1 (by have:=Vi;rw[h] at this;exact Int.ofNat_inj.1 this.symm)];exact qkI r)) rfl);clear HT bf Vi;go_enter Tryz.func238,Tryz.ntmps238;go_wp2_with fail;refine Fb (g:=w.heap.size) rfl rfl rfl rfl rfl (Xn _ _) ?_;exact⟨congrArg Ending.returned HV.o.symm,(Xr _ _).alloc (Xz _) _⟩
 ·have HV:=Lh (Bg (b:=⟨#[59]⟩) (HT.o.trans (by rw[show c=59 from UInt8.toNat_inj.1 (by have:=Vi;rw[h] at this;exact Int.ofNat_inj.1 this.symm)];exact qdC r)) rfl);clear HT bf Vi;go_enter Tryz.func238,Tryz.ntmps238;go_wp2_with fail;refine Fb (g:=w.heap.size) rfl rfl rfl rfl rfl (Xn _ _) ?_;exact⟨congrArg Ending.returned HV.o.symm,(Xr _ _).alloc (Xz _) _⟩
 ·have hb1:(Sl s 0==58)=false:=by simpa using h1
  have Zy:(Sl s 0==124)=false:=by simpa using h2
  have hb3:(Sl s 0==59)=false:=by simpa using h3
  have n1:c≠58:=fun e=>h1 (by rw[Vi,e];rfl);have n2:c≠124:=fun e=>h2 (by rw[Vi,e];rfl);have n3:c≠59:=fun e=>h3 (by rw[Vi,e];rfl);clear h1 h2 h3;rcases Ym (Ug (Sl s 0)) with hl | hl
  ·have HTN:=Lh (HT.o.trans (qdD (by rw[<-Vi];exact hl)));have HRL:=Lh (Cz Mb s.data.toList);have HRP:=Lh (show 1<=Um Mb s.data.toList by rw[bf];exact iO (oC (by rw[<-Vi];exact hl)));have HRUN:=Lh (fun W:World=>iN 190 Mb (fun _ _=>by kernel_rfl) qr s W Ld);have yN:=Lh (fun W:World=>Ry (Sl s 0) W);rw[<-bf] at HTN;obtain⟨n,hn⟩:=Xe (Um Mb s.data.toList);rw[<-hn] at HTN HRL HRP;simp only[<-hn] at HRUN;rw[hl] at yN;have hns:n<=s.size:=by rw[<-Cj.o];exact HRL.o
   have hn1:1<=n:=HRP.o;have HXS:=Lh (show (s.extract 0 n).size=n by simp;omega);have HXL:=Lh (qgN s n);have qqQ:=Lh (fun W:World=>pa 1 (s.extract 0 n) n W (by rw[HXS.o];omega));clear HT bf Vi hn n1 n2 n3 hl;go_enter Tryz.func238,Tryz.ntmps238;go_wp2_with fail;refine (yN.o _).mono ?_;rintro e w1 ⟨rfl,rfl⟩;go_wp2_with fail;refine (HRUN.o _).mono ?_;rintro e w1 ⟨rfl,rfl⟩;go_wp2_with fail;have Cq:Below w.heap.size w (w.alloc (.cells #[.int .i64 0,.string ⟨#[]⟩,.int .i64 0] 220)):=(Xr _ _).alloc (Xz _) _;have HB0:=Lh Cq;have HZ0:=Lh (Xs w (.cells #[.int .i64 0,.string ⟨#[]⟩,.int .i64 0] 220));clear Cq;generalize w.alloc (.cells #[.int .i64 0,.string ⟨#[]⟩,.int .i64 0] 220)=w1 at *;refine (qqQ.o w1).mono ?_;rintro e w2 ⟨rfl,Zy⟩;have HI2:=Lh ((Zy.block w.heap.size (by rw[HZ0.o];omega)).trans HIT.o);have HB2:=Lh (HB0.o.trans (Zy.mono (by rw[HZ0.o];omega)));clear Zy;by_cases F_:32<n
   ·have HV:=Lh (Ga (HTN.o.trans (if_pos F_)));have HLV:Hid (tG 1 (s.extract 0 n) n=_):=if_pos (by rw[HXS.o];exact F_);rw[HLV.o];go_wp2_with (refine Jc none rfl ?_);refine Stop.go (Zo rfl 220 rfl rfl rfl (cM (vs:=[.int .i64 0,.string ⟨#[]⟩,.int .i64 0]) rfl rfl HI2.o rfl (by intro u hu;simp only[List.mem_cons,List.not_mem_nil,or_false] at hu;rcases hu with rfl | rfl | rfl <;> rfl)) ?_);have HR:=Lh (Zf _ _ _ _ _ _ HI2.o:(w2.setRow w.heap.size [.int .i64 0,.string ⟨#[]⟩,.int .i64 0].toArray).heap[w.heap.size]? = _);have HBR:=Lh (Zg HB2.o (Xz _) [.int .i64 0,.string ⟨#[]⟩,.int .i64 0].toArray);generalize w2.setRow w.heap.size [.int .i64 0,.string ⟨#[]⟩,.int .i64 0].toArray=w3 at *;generalize ha:Act.put _ _ _=z9;simp[Act.put] at ha;subst ha;go_wp2_with fail;refine Fb (g:=w.heap.size) rfl rfl rfl rfl rfl HR.o ?_;exact⟨congrArg Ending.returned HV.o.symm,HBR.o⟩
   ·have HV:=Lh (Bg (b:=s.extract 0 n) (HTN.o.trans (if_neg F_)) HXL.o);have HLV:Hid (tG 1 (s.extract 0 n) n=_):=if_neg (by rw[HXS.o];exact F_);rw[HLV.o];go_wp2_with (refine Jc none rfl ?_);refine Stop.go (Zo rfl 220 rfl rfl rfl (cM (vs:=[.int .i64 1,.string (s.extract 0 n),.int .i64 0]) rfl rfl HI2.o rfl (by intro u hu;simp only[List.mem_cons,List.not_mem_nil,or_false] at hu;rcases hu with rfl | rfl | rfl <;> rfl)) ?_);have HR:=Lh (Zf _ _ _ _ _ _ HI2.o:(w2.setRow w.heap.size [.int .i64 1,.string (s.extract 0 n),.int .i64 0].toArray).heap[w.heap.size]? = _);have HBR:=Lh (Zg HB2.o (Xz _) [.int .i64 1,.string (s.extract 0 n),.int .i64 0].toArray);generalize w2.setRow w.heap.size [.int .i64 1,.string (s.extract 0 n),.int .i64 0].toArray=w3 at *;generalize ha:Act.put _ _ _=z9;simp[Act.put] at ha;subst ha;go_wp2_with fail;refine Fb (g:=w.heap.size) rfl rfl rfl rfl rfl HR.o ?_;exact⟨congrArg Ending.returned HV.o.symm,HBR.o⟩
  ·have yN:=Lh (fun W:World=>Ry (Sl s 0) W);rw[hl] at yN;have n4:Ug (c.toNat:Int)=false:=by rw[<-Vi];exact hl
   by_cases h4:Sl s 0=39
   ·rw[h4] at yN;have n5:c=39:=UInt8.toNat_inj.1 (by have:=Vi;rw[h4] at this;exact Int.ofNat_inj.1 this.symm);have HTN:=Lh (HT.o.trans ((congrArg (fun c=>Ol c r) n5).trans (qdB r)));have HDR:=Lh (show s.data.toList.drop 1=r by simp[bf]);have HRL:=Lh (Cz Jl r);have zcX:=Lh (show r.length+1=s.size by rw[<-Cj.o,bf,Qu]);have HRUN:=Lh (fun W:World=>iN 191 Jl (fun _ _=>by kernel_rfl) rN (s.extract 1 s.size) W (by simp;unfold maxLen;omega));simp only[cH,HDR.o] at HRUN;obtain⟨n,hn⟩:=Xe (Um Jl r);rw[<-hn] at HTN HRL;simp only[<-hn] at HRUN;have xX:n+1<=s.size:=by have:=HRL.o;have:=zcX.o;omega
    have zlL:=Lh (show ∀ h:n+1<s.size,r[n]? = some 39↔Sl s (n+1)=39 from fun h=>by
     have h1:n+1<s.data.toList.length:=by rw[Cj.o];exact h
     have h2:=iv s h1 39
     rw[show (39:Int)=((39:UInt8).toNat:Int) from rfl,<-h2]
     have h3:n<r.length:=by have:=zcX.o;omega
     rw[Qa h3]
     simp[bf])
    have zwI:Hid (s.size<=n+1->r[n]? = none):=fun h=>Xf (by have:=zcX.o;omega);have HXL:=Lh (show (s.extract 1 (n+1)).data.toList=r.take n by rw[Nat.add_comm n 1,ou s 1 n,HDR.o]);clear HT bf Vi hn n1 n2 n3 n4 n5 hl;by_cases hz:n=0
    ·have HV:=Lh (Ga (HTN.o.trans (if_neg (fun h=>by omega))));subst hz;go_enter Tryz.func238,Tryz.ntmps238;go_wp2_with fail;refine (yN.o _).mono ?_;rintro e w1 ⟨rfl,rfl⟩;go_wp2_with fail;refine (HRUN.o _).mono ?_;rintro e w1 ⟨rfl,rfl⟩;go_wp2_with fail;refine Fb (g:=w.heap.size) rfl rfl rfl rfl rfl (Xn _ _) ?_;exact⟨congrArg Ending.returned HV.o.symm,(Xr _ _).alloc (Xz _) _⟩
    ·have hp:0<n:=by omega
     have g1:decide ((0:Int)<(n:Int))=true:=by simpa using hp
     by_cases Jo:n+1<s.size
     ·have g2:decide ((n:Int)+1<(s.size:Int))=true:=by simp;omega
      by_cases h9:Sl s (n+1)=39
      ·have HTN:=Lh (HTN.o.trans (if_pos ⟨hp,(zlL.o Jo).2 h9⟩));have HXS:=Lh (show (s.extract 1 (n+1)).size=n by simp;omega);have qqQ:=Lh (fun W:World=>pa 2 (s.extract 1 (n+1)) (n+2) W (by rw[HXS.o];unfold maxLen;omega));clear hz;go_enter Tryz.func238,Tryz.ntmps238;go_wp2_with fail;refine (yN.o _).mono ?_;rintro e w1 ⟨rfl,rfl⟩;go_wp2_with fail;refine (HRUN.o _).mono ?_;rintro e w1 ⟨rfl,rfl⟩;go_wp2_with fail;have Cq:Below w.heap.size w (w.alloc (.cells #[.int .i64 0,.string ⟨#[]⟩,.int .i64 0] 220)):=(Xr _ _).alloc (Xz _) _;have HB0:=Lh Cq;have HZ0:=Lh (Xs w (.cells #[.int .i64 0,.string ⟨#[]⟩,.int .i64 0] 220));clear Cq;generalize w.alloc (.cells #[.int .i64 0,.string ⟨#[]⟩,.int .i64 0] 220)=w1 at *;refine (qqQ.o w1).mono ?_;rintro e w2 ⟨rfl,Zy⟩;have HI2:=Lh ((Zy.block w.heap.size (by rw[HZ0.o];omega)).trans HIT.o);have HB2:=Lh (HB0.o.trans (Zy.mono (by rw[HZ0.o];omega)));clear Zy;by_cases F_:32<n
       ·have HV:=Lh (Ga (HTN.o.trans (if_pos F_)));have HLV:Hid (tG 2 (s.extract 1 (n+1)) (n+2)=_):=if_pos (by rw[HXS.o];exact F_);rw[HLV.o];go_wp2_with (refine Jc none rfl ?_);refine Stop.go (Zo rfl 220 rfl rfl rfl (cM (vs:=[.int .i64 0,.string ⟨#[]⟩,.int .i64 0]) rfl rfl HI2.o rfl (by intro u hu;simp only[List.mem_cons,List.not_mem_nil,or_false] at hu;rcases hu with rfl | rfl | rfl <;> rfl)) ?_);have HR:=Lh (Zf _ _ _ _ _ _ HI2.o:(w2.setRow w.heap.size [.int .i64 0,.string ⟨#[]⟩,.int .i64 0].toArray).heap[w.heap.size]? = _);have HBR:=Lh (Zg HB2.o (Xz _) [.int .i64 0,.string ⟨#[]⟩,.int .i64 0].toArray);generalize w2.setRow w.heap.size [.int .i64 0,.string ⟨#[]⟩,.int .i64 0].toArray=w3 at *;generalize ha:Act.put _ _ _=z9;simp[Act.put] at ha;subst ha;go_wp2_with fail;refine Fb (g:=w.heap.size) rfl rfl rfl rfl rfl HR.o ?_;exact⟨congrArg Ending.returned HV.o.symm,HBR.o⟩
       ·have HV:=Lh (Bg (b:=s.extract 1 (n+1)) (HTN.o.trans (if_neg F_)) HXL.o);have HLV:Hid (tG 2 (s.extract 1 (n+1)) (n+2)=_):=if_neg (by rw[HXS.o];exact F_);rw[HLV.o];go_wp2_with (refine Jc none rfl ?_);refine Stop.go (Zo rfl 220 rfl rfl rfl (cM (vs:=[.int .i64 2,.string (s.extract 1 (n+1)),.int .i64 0]) rfl rfl HI2.o rfl (by intro u hu;simp only[List.mem_cons,List.not_mem_nil,or_false] at hu;rcases hu with rfl | rfl | rfl <;> rfl)) ?_);have HR:=Lh (Zf _ _ _ _ _ _ HI2.o:(w2.setRow w.heap.size [.int .i64 2,.string (s.extract 1 (n+1)),.int .i64 0].toArray).heap[w.heap.size]? = _);have HBR:=Lh (Zg HB2.o (Xz _) [.int .i64 2,.string (s.extract 1 (n+1)),.int .i64 0].toArray);generalize w2.setRow w.heap.size [.int .i64 2,.string (s.extract 1 (n+1)),.int .i64 0].toArray=w3 at *;generalize ha:Act.put _ _ _=z9;simp[Act.put] at ha;subst ha;go_wp2_with fail;refine Fb (g:=w.heap.size) rfl rfl rfl rfl rfl HR.o ?_;exact⟨congrArg Ending.returned HV.o.symm,HBR.o⟩
      ·have g3:(Sl s (n+1)==39)=false:=by simpa using h9
       have HV:=Lh (Ga (HTN.o.trans (if_neg (fun h=>h9 ((zlL.o Jo).1 h.2)))));clear hz h9;go_enter Tryz.func238,Tryz.ntmps238;go_wp2_with fail;refine (yN.o _).mono ?_;rintro e w1 ⟨rfl,rfl⟩;go_wp2_with fail;refine (HRUN.o _).mono ?_;rintro e w1 ⟨rfl,rfl⟩;go_wp2_with fail;refine Fb (g:=w.heap.size) rfl rfl rfl rfl rfl (Xn _ _) ?_;exact⟨congrArg Ending.returned HV.o.symm,(Xr _ _).alloc (Xz _) _⟩
     ·have g2:decide ((n:Int)+1<(s.size:Int))=false:=by simp;omega
      have HV:=Lh (Ga (HTN.o.trans (if_neg (fun h=>by have:=zwI.o (by omega);rw[this] at h;cases h.2))));clear hz;go_enter Tryz.func238,Tryz.ntmps238;go_wp2_with fail;refine (yN.o _).mono ?_;rintro e w1 ⟨rfl,rfl⟩;go_wp2_with fail;refine (HRUN.o _).mono ?_;rintro e w1 ⟨rfl,rfl⟩;go_wp2_with fail;refine Fb (g:=w.heap.size) rfl rfl rfl rfl rfl (Xn _ _) ?_;exact⟨congrArg Ending.returned HV.o.symm,(Xr _ _).alloc (Xz _) _⟩
   ·have HV:=Lh (Ga (HT.o.trans (qkJ n1 n2 n3 n4 (fun e=>h4 (by rw[Vi,e];rfl)))));have h5:(Sl s 0==39)=false:=by simpa using h4
    clear HT bf Vi n1 n2 n3 n4 hl h4;go_enter Tryz.func238,Tryz.ntmps238;go_wp2_with fail;refine (yN.o _).mono ?_;rintro e w1 ⟨rfl,rfl⟩;go_wp2_with fail;refine Fb (g:=w.heap.size) rfl rfl rfl rfl rfl (Xn _ _) ?_;exact⟨congrArg Ending.returned HV.o.symm,(Xr _ _).alloc (Xz _) _⟩
theorem tY{w w':World}(hb:Below w.heap.size w w')(hd:w.drawn<=w'.drawn):∃ q os',w'=Go.Sort.grow (w.drewN q) os':=by
 refine⟨w'.drawn - w.drawn,w'.heap.extract w.heap.size w'.heap.size,?_⟩;refine km ?_ hb.tape ?_ hb.os hb.output
 ·show w'.heap=w.heap++w'.heap.extract w.heap.size w'.heap.size;apply Array.ext_getElem?;intro i;by_cases hi:i<w.heap.size
  ·rw[Array.getElem?_append_left hi];exact hb.block i hi
  ·rw[Array.getElem?_append_right (by omega),Array.getElem?_extract];by_cases h2:i<w'.heap.size
   ·rw[if_pos (by omega)];congr 1;omega
   ·rw[if_neg (by omega),Array.getElem?_eq_none (by omega)]
 ·show w'.drawn=w.drawn+(w'.drawn - w.drawn);omega
def pC(t:Un):List Value:=[.int .i64 t.1,.string (Ki t.2.1),.int .i64 t.2.2]
def Bh(l:List Un):List Value:=(l.map pC).flatten
theorem kz(l:List Un)(t:Un):Bh (l++[t])=Bh l++pC t:=by
 unfold Bh;rw[Qt,Qs];simp
def oZ(l:Wd)(w:World)(e:Ending)(w':World):Prop:=∃ v:Value,e=.returned (.tuple #[v,.int .i64 (Lo l).2.1,.int .i64 (Lo l).2.2])/\w'.ownsRow w.heap.size 220 3 v (Lo l).1.length (Bh (Lo l).1)/\Below w.heap.size w w'
theorem qsS:Ev Tryz.prog 213 220 3 32 (.agg #[.int .i64 0,.string ⟨#[]⟩,.int .i64 0]):=Sv (by kernel_rfl) (by kernel_rfl) rfl (by omega)
theorem vf{l:Wd}{e:Nat}(h:Sm l=.error e):e=13\/e=19:=by
 cases l with
 |nil=>injection h with h;exact .inl h.symm
 |cons c r =>
  change Ol c r=_ at h;unfold Ol at h
  repeat' split at h
  all_goals first
   |(injection h with h;omega)
   |cases h
theorem mr{s:Wd}{n:Nat}(h:BlkX s 0 n):ReachX s (0,[]) (n,[]):=by
 have:=BlkX.reach (s:=s) (k:=0) (i:=0) (j:=n) [] (by rw[List.drop_zero];exact h);simpa using this
theorem xk{s:Wd}{i j m:Nat}{toks:List Un}{t:Nat×Wd×Nat}(h:ReachX s (0,[]) (i,toks))(hi:i<s.length)(hE:Lb s i)(ht:Sm (s.drop i)=.ok t)(hj:j=i+t.2.2)(hm:BlkX (s.drop j) 0 m):ReachX s (0,[]) (j+m,toks++[(t.1,t.2.1,i)]):=by
 subst hj;have h1:=hE hi;exact (h.snoc (qkN hi h1.1 h1.2 ht toks)).trans (BlkX.reach (k:=i+t.2.2) (i:=0) _ hm)
theorem qoQ{s:Wd}{j m:Nat}(h:Lb (s.drop j) m):Lb s (j+m):=h.drop
theorem oZ.of{l:Wd}{w w':World}{v:Value}{toks:List Un}{i e:Nat}(h:Lo l=(toks,i,e))(ho:w'.ownsRow w.heap.size 220 3 v toks.length (Bh toks))(hb:Below w.heap.size w w'):oZ l w (.returned (.tuple #[v,.int .i64 i,.int .i64 e])) w':=by
 unfold oZ;rw[h];exact⟨v,rfl,ho,hb⟩
theorem zd(s:ByteArray)(w:World)(hs:s.size<=maxLen):Calls Tryz.prog 172 #[.string s] w (oZ s.data.toList w):=by
 have Ld:=hs;unfold maxLen at hs;have Cj:=Lh (show s.data.toList.length=s.size by simp);by_cases ziU:65536<s.size
 ·have HL:=Lh (qfB (s:=s.data.toList) (by rw[Cj.o];exact ziU));have g0:decide ((65536:Int)<(s.size:Int))=true:=by simp;omega
  clear hs Ld ziU;go_enter Tryz.func172,Tryz.ntmps172;go_wp2_with fail;refine Ze (results_tmp3 rfl _ _ _) rfl ?_;exact oZ.of HL.o (Yx _ _ _ _) (Xr _ _)
 ·have Uv:s.size<=65536:=by omega
  have g0:decide ((65536:Int)<(s.size:Int))=false:=by simp;omega
  go_enter Tryz.func172,Tryz.ntmps172;go_wp2_with fail;refine (ch s w Ld).mono ?_;rintro e w1 ⟨n0,rfl,hn0,hX,hE,rfl⟩;have HX:=Lh (mr hX);have HE:=Lh hE;clear hX hE;have HOWN:=Lh (Yx w w.heap.size 220 3);have HB0:=Lh (Xr w.heap.size w);go_wp2_with fail;go_loopw [5,6] (fun v5 v6 wr=>∃(i:Nat)(toks:List Un),i<=s.size/\toks.length<=i/\v6=.int .i64 i/\Hid (ReachX s.data.toList (0,[]) (i,toks))/\Hid (Lb s.data.toList i)/\Hid (wr.ownsRow w.heap.size 220 3 v5 toks.length (Bh toks))/\Hid (Below w.heap.size w wr)) (fun _ v6 _=>s.size - (intOf v6).toNat);exact⟨n0,[],hn0,Ye _,rfl,HX.o,HE.o,HOWN.o,HB0.o⟩;clear HX HE HOWN HB0 hn0;obtain⟨i,toks,hi,hti,rfl,HX,HE,HOWN,HB⟩:=hrel;by_cases Jo:i<s.size
  ·have Vq:i<s.data.toList.length:=by rw[Cj.o];exact Jo
   have HF:=Lh (fh (s.extract i s.size) wr (by simp;unfold maxLen;omega) (by simp;omega));rw[cH] at HF;cases ht:Sm (s.data.toList.drop i) with
   |error en =>
    have HV:=Lh (Ga ht);have Kl:=Lh (qmH (by rw[Cj.o];exact Uv) HX.o Vq (HE.o Vq).1 (HE.o Vq).2 ht);have hen:=vf ht;clear ht;go_wp2_with fail;refine HF.o.mono ?_;rintro e w2 ⟨rfl,Zy⟩;rw[HV.o];have HB2:=Lh ((HB.o.trans (Zy.mono HB.o.size)).alloc (by have:=HB.o.size;have:=Zy.size;omega) (.cells #[.int .i64 0,.string ⟨#[]⟩,.int .i64 0] 220));rcases hen with rfl | rfl
    all_goals
     go_wp2_with fail;refine Ze (results_tmp3 rfl _ _ _) rfl ?_;exact oZ.of Kl.o (Yx _ _ _ _) HB2.o
   |ok t =>
    obtain⟨k,txt,n⟩:=t;have HV:=Lh (Bg ht (b:=Ki txt) rfl);have hn1:1<=n:=kU ht;have tu:i+n<=s.size:=by have:=qkK ht;rw[Xj,Cj.o] at this;simp only at this;omega
    have HT:=Lh ht;clear ht;go_wp2_with fail;refine HF.o.mono ?_;rintro e w2 ⟨rfl,Zy⟩;rw[HV.o];simp only;have HB2:=Lh (HB.o.trans (Zy.mono HB.o.size));have hb4:Below w2.heap.size w2 ((w2.alloc (.cells #[.int .i64 k,.string (Ki txt),.int .i64 i] 220)).alloc (.cells #[.int .i64 k,.string (Ki txt),.int .i64 i] 220)):=((Xr _ _).alloc (Xz _) _).alloc (by rw[Xs];omega) _;have HO4:=Lh (Jk (Jk HOWN.o Zy) hb4);have HB4:=Lh (HB2.o.trans (hb4.mono HB2.o.size));have HN4:=Lh (Xn (w2.alloc (.cells #[.int .i64 k,.string (Ki txt),.int .i64 i] 220)) (.cells #[.int .i64 k,.string (Ki txt),.int .i64 i] 220));rw[Xs] at HN4;clear Zy hb4;go_wp2_with (at_builtin;refine Ja (m:=1) qsS rfl rfl rfl rfl HO4.o (Rd.row (B:=w2.heap.size+2) HN4.o (by omega)) rfl (by simp[Value.oneCell']) ?h63 ?hby ?hbase ?_)
    case h63=>simp only[maxLen];omega
    case hby=>omega
    case hbase=>exact HB4.o.size
    intro v5' w7 Ss jI _ _;have HO7:Hid (w7.ownsRow w.heap.size 220 3 v5' (toks.length+1) (Bh toks++pC (k,txt,i))):=Ss;have HB7:=Lh (Zr HB4.o jI HO4.o (Xz _) HB4.o.size);clear Ss jI;obtain⟨j,hj⟩:=Xe (i+n);have HBL:=Lh (ch (s.extract j s.size) w7 (by simp;unfold maxLen;omega));rw[cH] at HBL;have e1:(i:Int)+(n:Int)=(j:Int):=by omega
    have hjs:j<=s.size:=by omega
    have HJ:=Lh hj;clear hj;go_wp2_with fail;refine HBL.o.mono ?_;rintro e w8 ⟨m,rfl,hm,hX,hE,rfl⟩;have hms:j+m<=s.size:=by simp at hm;omega
    have HXN:=Lh (xk HX.o Vq HE.o HT.o HJ.o hX);have HEN:=Lh (qoQ hE);have HON:=Lt (w7.ownsRow w.heap.size 220 3 v5' (toks++[(k,txt,i)]).length (Bh (toks++[(k,txt,i)]))) (by
     rw[kz,Qe,Qf]
     exact HO7.o)
    have hnj:i+n=j:=HJ.o.symm;clear hX hE hm;go_wp2_with fail;go_roundw;exact⟨j+m,toks++[(k,txt,i)],by omega,by rw[Qe,Qf];omega,by go_num,HXN.o,HEN.o,HON.o,HB7.o⟩;simp[intOf];omega
  ·have Kl:=Lh (qmI (by rw[Cj.o];exact Uv) HX.o (by rw[Cj.o];omega));go_wp2_with fail;refine Ze (results_tmp3 rfl _ _ _) rfl ?_;exact oZ.of Kl.o HOWN.o HB.o
theorem ml(y:List Int):Kv [] y↔y≠[]:=by
 unfold Kv;cases y <;> simp
theorem ei(x:List Int):¬ Kv x []:=by
 unfold Kv;simp
theorem ef{a:Int}{x y:List Int}:Kv (a::x) (a::y)↔Kv x y:=by
 unfold Kv;rw[List.map_cons,List.map_cons,List.cons_lt_cons_iff];constructor
 ·rintro (h | ⟨_,h⟩)
  ·exact absurd h (Int.lt_irrefl _)
  ·exact h
 ·exact fun h=>.inr ⟨rfl,h⟩
theorem ej{a b:Int}{x y:List Int}(ha:-1000<=a)(hb:-1000<=b)(h:a≠b):Kv (a::x) (b::y)↔Ej a<Ej b:=by
 unfold Kv;rw[List.map_cons,List.map_cons,List.cons_lt_cons_iff];constructor
 ·rintro (h1 | ⟨h1,_⟩)
  ·exact h1
  ·exact absurd (mw ha hb h1) h
 ·exact fun h1=>.inl h1
theorem ee{x y:List Int}{k:Nat}(h1:k<x.length)(h2:k<y.length)(he:x[k]=y[k]):Kv (x.drop k) (y.drop k)↔Kv (x.drop (k+1)) (y.drop (k+1)):=by
 rw[Ql h1,Ql h2,he];exact ef
theorem eh{x y:List Int}{k:Nat}(h1:k<x.length)(h2:k<y.length)(ha:-1000<=x[k])(hb:-1000<=y[k])(hn:x[k]≠y[k]):Kv (x.drop k) (y.drop k)↔Ej x[k]<Ej y[k]:=by
 rw[Ql h1,Ql h2];exact ej ha hb hn
theorem nP{x y:List Int}{k:Nat}(h:¬ (k<x.length/\k<y.length))(h1:k<=x.length)(h2:k<=y.length):Kv (x.drop k) (y.drop k)↔x.length<y.length:=by
 by_cases hx:k<x.length
 ·have hy:y.drop k=[]:=Xl (by omega);rw[hy];constructor
  ·exact fun h=>absurd h (ei _)
  ·intro h;omega
 ·have Ho:x.drop k=[]:=Xl (by omega);rw[Ho,ml];constructor
  ·intro h3;rcases Nat.lt_or_ge k y.length with h4 | h4
   ·omega
   ·exact absurd (Xl h4) h3
  ·intro h3 h4;have:=congrArg List.length h4;rw[Xj,List.length_nil] at this;omega
structure BoxC{α:Type}(O:mW α)(t Tb:TypeId)(w2:World)(b:Nat)(c0:Value)(l:List α)(v:Value)(wz:World):Prop where
 row:wz.heap[b]? = some (.cells #[c0,v] Tb (0,0))
 own:Mg O t wz (b+1) v l
 keep:Below b w2 wz
theorem Uw{w:World}{g k:Nat}{cs:Array Value}{T:TypeId}(h:w.heap[g]? = some (.cells cs T (0,0)))(v:Value):(w.setCell ⟨g,k,none⟩ v).heap[g]? = some (.cells (cs.setIfInBounds k v) T (0,0)):=by
 simp only[World.setCell,Xx,if_true,h,Option.map_some];rfl
theorem Ud{ts:List TypeId}{w:World}{g k:Nat}{cs:Array Value}{T:TypeId}(h:w.heap[g]? = some (.cells cs T (0,0)))(hT:T∉ts)(v:Value):Jq ts w (w.setCell ⟨g,k,none⟩ v):=by
 refine⟨by simp[World.setCell],fun j cur t ht hj=>?_⟩;rw[Yz _ _ _ _ ?_]
 ·exact hj
 ·intro e;subst e;rw[h] at hj;injection hj with hj;injection hj with _ hj;exact hT (hj ▸ ht)
section
variable {α:Type} {O:mW α} {t Tb:TypeId} {w2 wz w3 w4:World} {b:Nat} {c0 v v':Value} {l:List α} {x:α} {css:List (List Value)} {cs:List Value}
end
theorem pg:Ev Tryz.prog 228 277 2 24 (.agg #[.bool false,.string ⟨#[]⟩]):=Sv (by kernel_rfl) (by kernel_rfl) rfl (by omega)
theorem qpR:Ev Tryz.prog 225 228 1 24 (.slice none 0 0):=Sv (by kernel_rfl) (by kernel_rfl) rfl (by omega)
theorem qmE:Ev Tryz.prog 159 227 2 40 (.agg #[.string ⟨#[]⟩,.slice none 0 0]):=Sv (by kernel_rfl) (by kernel_rfl) rfl (by omega)
theorem Ot{w:World}{g:Nat}{a b c:Value}{t:TypeId}{fr:Nat×Nat}(h:w.heap[g]? = some (.cells #[a,b,c] t fr)):w.cell? ⟨g,0,none⟩=some a/\w.cell? ⟨g,1,none⟩=some b/\w.cell? ⟨g,2,none⟩=some c:=by
 refine⟨?_,?_,?_⟩ <;> (rw[Za _ _ _ _ _ _ h];rfl)
end Go.Proofs.YtmaojnmnbpomeaaGreatDoor
