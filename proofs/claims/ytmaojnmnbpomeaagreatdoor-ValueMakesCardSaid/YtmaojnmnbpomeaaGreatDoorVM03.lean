/- A part. -/
import Derived.Test.YtmaojnmnbpomeaaGreatDoorVM02
import Derived.Stop.BytesEq
import Derived.Laws.CopyOwn
import Derived.Sort.Grow
set_option maxRecDepth 100000
set_option maxHeartbeats 64000000
namespace Go.Proofs.YtmaojnmnbpomeaaGreatDoor
open Go.RowKit
theorem mv{ns:List ByteArray}{s:ByteArray}(h:(ns.any fun x=>decide (x=s))=false):s∉ns:=by
 intro hm;rw[<-Bool.not_eq_true,Xq] at h;exact h ⟨s,hm,by simp⟩
theorem jW(F:FuncId)(may:List UInt8->Bool)(v:Value)(ns:List ByteArray)(w:World)(hv:Je Nk w w.heap.size v ns)
  (hF:∀(args:Array Value)(w:World),(callFunc F args).run Tryz.prog w=.ok (.enter F args) w)
  (hp:∀(s:ByteArray)(w:World),s.size<=maxLen->Calls Tryz.prog F #[.string s] w fun e w'=>e=.returned (.bool (may s.data.toList))/\w=w') :
  Calls Tryz.prog 126 #[v,.func (.func F) #[] #[]] w fun e w'=>e=.returned (.bool (Nr may ns))/\Below w.heap.size w w':=by
 have hmm:=@run_makeMap Tryz.prog;have HP:=Lh hp;clear hp;obtain⟨A,c,rfl,Nj,Uy⟩:=hv.form;unfold maxLen at Uy;go_enter Tryz.func126,Tryz.ntmps126;go_wp2_with fail;go_loopw [11] (fun v11 wr=>∃ k:Nat,k<=ns.length/\v11=.int .i64 k/\Hid ((∀ s∈ns.take k,may s.data.toList=true)/\(ns.take k).Nodup)/\Up Value.string wr w.heap.size (Iq (ns.take k))/\Below w.heap.size w wr) (fun v11 _=>ns.length - (intOf v11).toNat);exact⟨0,by omega,rfl,by simp[Hid],Up.made w,by go_grown⟩;obtain⟨k,hk,rfl,hno,hmp,hbr⟩:=hrel;by_cases Ji:k<ns.length
 ·obtain⟨ab,ao,cs,rfl,_,Lj,Zx,Zm⟩:=(hv.below hbr).get Ji (by decide);obtain⟨rfl,Pr⟩:=Zx;have Vh:=Zm 0 _ rfl;clear Zm;simp only[show Nk.size=1 from rfl,Yr,Yp] at Vh;have HX:=Lh Pr;have hsn:=Lh (gG ns k Ji);have hon:=Lh (mi ns k Ji);have hlk:=hmp.lookup nQ iN ns[k];rw[K_] at hlk;rcases Yn (may ns[k].data.toList) with hm | hm
  ·have HM:=Lh hm;clear hm;rcases Yn ((ns.take k).any fun x=>decide (x=ns[k])) with mO | mO
   ·rw[mO,if_pos rfl] at hlk;have HA:=Lh mO;clear mO;simp only[Option.getD_some] at hlk;go_wp2_with fail;refine (HP.o ns[k] wr HX.o).mono ?_;rintro e w1 ⟨rfl,rfl⟩;rw[HM.o];go_wp2_with fail;go_ret;refine⟨Kx (Zv ?_),hbr⟩;rw[eq_comm,Nr,Bool.and_eq_false_iff];right;rw[Yk];intro So;have h3:=hsn.o.1 (So.sublist (List.take_sublist _ _));rw[HA.o] at h3;cases h3.2
   ·rw[mO,if_neg (by decide)] at hlk;have HA:=Lh mO;clear mO;simp only[Option.getD_none] at hlk;go_wp2_with fail;refine (HP.o ns[k] wr HX.o).mono ?_;rintro e w1 ⟨rfl,rfl⟩;rw[HM.o];go_wp2_with (at_mapUpdate;refine Su nQ rfl rfl rfl rfl rfl hmp ?_;intro w2 qeS aI eX);have zoK:Up Value.string w2 w.heap.size (Iq (ns.take (k+1))):=by rw[hon.o,<-xY _ _ _ (mv HA.o)];exact qeS
    go_wp2;go_roundw
    case rel =>
     refine⟨k+1,by omega,by go_num,⟨fun s hs=>?_,hsn.o.2 ⟨hno.o.2,HA.o⟩⟩,zoK,hbr.grown aI hbr.size (fun j hj=>by cases hj;exact Ya _)⟩;rw[Qc Ji,Qh,Qi] at hs;rcases hs with hs | rfl
     ·exact hno.o.1 s hs
     ·exact HM.o
    case measure=>simp[intOf];omega
  ·have HM:=Lh hm;clear hm;go_wp2_with fail;refine (HP.o ns[k] wr HX.o).mono ?_;rintro e w1 ⟨rfl,rfl⟩;rw[HM.o];go_wp2;go_ret;refine⟨Kx (Zv ?_),hbr⟩;rw[eq_comm,Nr,Bool.and_eq_false_iff];left;rw[<-Bool.not_eq_true,Xp];intro h;have:=h _ (Qg Ji);rw[HM.o] at this;cases this
 ·go_wp2;go_ret;refine⟨Kx (Zv ?_),hbr⟩;have h:=hno.o;rw[Qd (by omega)] at h;rw[eq_comm,Nr,Yl,Xp,Yj];exact h
theorem Jd(s:Int)(w:World):Calls Tryz.prog 78 #[.int .i64 s] w fun e w'=>e=.returned (.bool (decide (s<0)))/\w=w':=by
 go_enter Tryz.func78,Tryz.ntmps78;go_wp2;go_ret;exact⟨rfl,rfl⟩
abbrev Kc:=List ByteArray×List ByteArray×List (Int×List Int)
def Uj(g:Kc):Bool:=decide (g.1.length≠0)&&decide (g.1.length+g.2.1.length<=256)&&decide (g.2.2.length<=4096)&&Nr Ee g.1&&Nr Fi g.2.1 &&
 g.2.2.all (By g.1.length g.2.1.length)&&(List.range g.1.length).all (fun i=>decide ((Ir g.2.2 i g.2.2.length).length≠0))&&decide g.2.2.Nodup
theorem Tc(v1 v2 v3:Value)(ns ts:List ByteArray)(rs:List (Int×List Int))(w:World)(Ek:ns.length+ts.length<=4611686018427387904)(h1:Je Nk w w.heap.size v1 ns)(h2:Je Nk w w.heap.size v2 ts)(h3:Je Vv w w.heap.size v3 rs) :
  Calls Tryz.prog 69 #[.agg #[v1,v2,v3]] w fun e w'=>e=.returned (.bool (Uj (ns,ts,rs)))/\Below w.heap.size w w':=by
 obtain⟨A1,c1,rfl,Nj,gN⟩:=h1.form;obtain⟨A2,c2,rfl,Uy,qzK⟩:=h2.form;obtain⟨A3,c3,rfl,zc,qzJ⟩:=h3.form;unfold maxLen at gN qzK qzJ;have Ht:ns.length=0\/(0<ns.length/\256<ns.length+ts.length)\/(0<ns.length/\ns.length+ts.length<=256/\4096<rs.length)\/(0<ns.length/\ns.length+ts.length<=256/\rs.length<=4096):=by omega
 by_cases hgood:0<ns.length/\ns.length+ts.length<=256/\rs.length<=4096
 case neg =>
  have HF:Hid (Uj (ns,ts,rs)=false):=by
   show _=_;rw[<-Bool.not_eq_true];intro h;simp only[Uj,Yl,Yj] at h;obtain⟨⟨⟨⟨⟨⟨⟨a1,a2⟩,a3⟩,_⟩,_⟩,_⟩,_⟩,_⟩:=h;exact hgood ⟨by omega,a2,a3⟩
  rcases Ht with h | ⟨h0,h⟩ | ⟨h0,h0',h⟩ | h
  case inr.inr.inr=>exact absurd h hgood
  all_goals
   first
    |(have hz:((ns.length:Int)==0)=true:=by simp;exact Xw h)
    |(have hz:((ns.length:Int)==0)=false:=by simp;intro e;subst e;simp at h0)
   go_enter Tryz.func69,Tryz.ntmps69;go_wp2_with fail
   all_goals first
    |(exfalso;omega)
    |(go_ret;exact⟨Kx (Zv HF.o.symm),by go_grown⟩)
    |(exfalso;simp at *;omega)
 clear Ht;obtain⟨g1,g2,g3⟩:=hgood;have hz:((ns.length:Int)==0)=false:=by simp;intro e;subst e;simp at g1
 have qB:Hid (Uj (ns,ts,rs)=(Nr Ee ns&&Nr Fi ts&&rs.all (By ns.length ts.length)&&(List.range ns.length).all (fun i=>decide ((Ir rs i rs.length).length≠0))&&decide rs.Nodup)):=by
  show _=_;unfold Uj;simp only[show decide (ns.length+ts.length<=256)=true by simpa using g2,show decide (rs.length<=4096)=true by simpa using g3,show decide (ns.length≠0)=true from Yv (by omega),Bool.true_and]
 have ol:((ns.length:Int)+ts.length)<=256:=by omega
 have hrl:((rs.length:Int))<=4096:=by omega
 go_enter Tryz.func69,Tryz.ntmps69;go_wp2_with fail;have HW:Hid (Below w.heap.size w (w.alloc (Obj.cells #[Value.slice A1 ns.length c1,Value.slice A2 ts.length c2,Value.slice A3 rs.length c3] 25))):=(Xr _ _).alloc (Ya _) _;have HS:Hid ((w.alloc (Obj.cells #[Value.slice A1 ns.length c1,Value.slice A2 ts.length c2,Value.slice A3 rs.length c3] 25)).heap.size=w.heap.size+1):=by show _=_;simp
 have k0:(w.alloc (Obj.cells #[Value.slice A1 ns.length c1,Value.slice A2 ts.length c2,Value.slice A3 rs.length c3] 25)).cell? ⟨w.heap.size,0,none⟩=some (Value.slice A1 ns.length c1):=by simp
 have k1:(w.alloc (Obj.cells #[Value.slice A1 ns.length c1,Value.slice A2 ts.length c2,Value.slice A3 rs.length c3] 25)).cell? ⟨w.heap.size,1,none⟩=some (Value.slice A2 ts.length c2):=by simp
 have k2:(w.alloc (Obj.cells #[Value.slice A1 ns.length c1,Value.slice A2 ts.length c2,Value.slice A3 rs.length c3] 25)).cell? ⟨w.heap.size,2,none⟩=some (Value.slice A3 rs.length c3):=by simp
 generalize w.alloc (Obj.cells #[Value.slice A1 ns.length c1,Value.slice A2 ts.length c2,Value.slice A3 rs.length c3] 25)=W at HW HS k0 k1 k2 |-;have h1W:=h1.next HW.o (B':=W.heap.size) (by rw[HS.o];omega);refine (jW 127 Ee _ ns W h1W (fun _ _=>by kernel_rfl) (fun s w hs=>xg s w hs)).mono ?_;rintro e w1 ⟨rfl,hb1⟩;have hws:=HS.o;have hW1:Below (w.heap.size+1) W w1:=hb1.mono (by omega);rcases Yn (Nr Ee ns) with jR | jR
 case inr =>
  have HD:=Lh jR;rw[jR];go_wp2;go_ret;exact⟨Kx (Zv (by rw[qB.o,HD.o];rfl)),HW.o.trans (hb1.mono (by omega))⟩
 have HD1:=Lh jR;rw[jR];clear jR;have k1':=(hW1.cell (p:=⟨w.heap.size,1,none⟩) (Ye _)).trans k1;go_wp2_with fail;have Ft:=hb1.size;refine (jW 128 Fi _ ts w1 (h2.next (HW.o.trans (hb1.mono (by omega))) (by omega)) (fun _ _=>by kernel_rfl) (fun s w hs=>xf s w hs)).mono ?_;rintro e w2 ⟨rfl,Ja⟩;have hW2:Below (w.heap.size+1) W w2:=hW1.trans (Ja.mono (by omega));rcases Yn (Nr Fi ts) with jQ | jQ
 case inr =>
  have HD:=Lh jQ;rw[jQ];go_wp2;go_ret;exact⟨Kx (Zv (by rw[qB.o,HD.o];simp)),HW.o.trans (hW2.mono (by omega))⟩
 have HD2:=Lh jQ;rw[jQ];clear jQ;have k2':=(hW2.cell (p:=⟨w.heap.size,2,none⟩) (Ye _)).trans k2;go_wp2_with fail;go_loopw [39] (fun v39 wr=>∃ k:Nat,k<=rs.length/\v39=.int .i64 k/\Hid ((rs.take k).all (By ns.length ts.length)=true)/\Below (w.heap.size+1) W wr) (fun v39 _=>rs.length - (intOf v39).toNat);exact⟨0,by omega,rfl,by simp[Hid],hW2⟩;obtain⟨k,hk,rfl,hno,hbr⟩:=hrel;have ew:=HW.o.trans (hbr.mono (Yh _));have r0:=(hbr.cell (p:=⟨w.heap.size,0,none⟩) (Ye _)).trans k0;have r1:=(hbr.cell (p:=⟨w.heap.size,1,none⟩) (Ye _)).trans k1;have r2:=(hbr.cell (p:=⟨w.heap.size,2,none⟩) (Ye _)).trans k2;by_cases Ji:k<rs.length
 ·obtain⟨ab,ao,cs,rfl,_,Lj,Zx,Zm⟩:=(h3.below ew).get Ji (by decide);obtain⟨u,rfl,hu,Ib,Sc⟩:=Kq Zx;obtain⟨A4,e4,rfl,_,_⟩:=hu.form;have Vh:=Zm 0 _ rfl;have gN:=Zm 1 _ rfl;clear Zm;simp only[show Vv.size=2 from rfl,Yp,<-Yx] at Vh gN;have znO:=hbr.size;have Cn:w.heap.size<wr.heap.size:=by omega
  have HSN:=Lh (Qc Ji);rcases Yn (By ns.length ts.length (rs[k].1,rs[k].2)) with hq | hq
  ·have HQ:=Lh hq;clear hq;go_wp2_with fail;have hb3:Below wr.heap.size wr (wr.alloc (Obj.cells #[Value.int IntKind.i64 rs[k].fst,Value.slice A4 rs[k].snd.length e4] 63)):=(Xr _ _).alloc (Ya _) _;refine (pw A1 A2 _ _ ns.length ts.length c1 c2 rs[k].1 rs[k].2 _ (by omega) (hu.fut hb3 (by omega) (by simp;omega))).mono ?_;rintro e w3 ⟨rfl,hb4⟩;rw[HQ.o];go_wp2;go_roundw;exact⟨k+1,by omega,by go_num,by show _=_;rw[HSN.o,List.all_append,hno.o];simpa using HQ.o,hbr.trans ((hb3.mono (by omega:w.heap.size+1<=wr.heap.size)).trans (hb4.mono (by simp;omega)))⟩;simp[intOf];omega
  ·have HQ:=Lh hq;clear hq;go_wp2_with fail;have hb3:Below wr.heap.size wr (wr.alloc (Obj.cells #[Value.int IntKind.i64 rs[k].fst,Value.slice A4 rs[k].snd.length e4] 63)):=(Xr _ _).alloc (Ya _) _;refine (pw A1 A2 _ _ ns.length ts.length c1 c2 rs[k].1 rs[k].2 _ (by omega) (hu.fut hb3 (by omega) (by simp;omega))).mono ?_;rintro e w3 ⟨rfl,hb4⟩;rw[HQ.o];go_wp2;go_ret;refine⟨Kx (Zv ?_),ew.trans ((hb3.mono (by omega)).trans (hb4.mono (by simp;omega)))⟩;have hf:rs.all (By ns.length ts.length)=false:=by
    rw[<-Bool.not_eq_true,Xp];intro h;have h':=HQ.o;rw[h _ (Qg Ji)] at h';cases h'
   rw[qB.o,hf];simp
 have Cq:Hid (rs.all (By ns.length ts.length)=true):=by
  show _=_;have:=hno.o
  rwa [Qd (by omega)] at this
 have hkr:k=rs.length:=by omega
 subst hkr;go_wp2_with fail;go_loopw [51] (fun v51 wt=>∃ k:Nat,k<=ns.length/\v51=.int .i64 k/\Hid (∀ i:Nat,i<k->(Ir rs i rs.length).length≠0)/\Below (w.heap.size+1) W wt) (fun v51 _=>ns.length - (intOf v51).toNat);exact⟨0,by omega,rfl,fun i hi=>absurd hi (by omega),hbr⟩;clear ew r0 r1 r2 hbr hno;obtain⟨k,oP,rfl,hno,hbr⟩:=hrel;have ew:=HW.o.trans (hbr.mono (Yh _));have r0:=(hbr.cell (p:=⟨w.heap.size,0,none⟩) (Ye _)).trans k0;have r1:=(hbr.cell (p:=⟨w.heap.size,1,none⟩) (Ye _)).trans k1;have r2:=(hbr.cell (p:=⟨w.heap.size,2,none⟩) (Ye _)).trans k2;have znO:=hbr.size;by_cases Ji:k<ns.length
 ·by_cases hq:(Ir rs k rs.length).length=0
  ·have hqb:(((Ir rs k rs.length).length:Int)==0)=true:=by simp only[hq];rfl
   have HQ:=Lh hq;clear hq;go_wp2_with fail;refine (ey A1 A2 _ ns.length ts.length c1 c2 k rs wr (h3.next ew (by omega)) (by omega)).mono ?_;rintro e w3 ⟨v,rfl,hown,hb4⟩;obtain⟨A5,c5,rfl,_,_⟩:=Zo hown;go_wp2;go_ret;refine⟨Kx (Zv ?_),ew.trans (hb4.mono (by omega))⟩;have hf:(List.range ns.length).all (fun i=>decide ((Ir rs i rs.length).length≠0))=false:=by
    rw[<-Bool.not_eq_true,Xp];intro h;exact absurd HQ.o (of_decide_eq_true (h k (Xz.2 Ji)))
   rw[qB.o,hf];simp
  ·have hqb:(((Ir rs k rs.length).length:Int)==0)=false:=by rw[Yo];omega
   have HQ:=Lh hq;clear hq;go_wp2_with fail;refine (ey A1 A2 _ ns.length ts.length c1 c2 k rs wr (h3.next ew (by omega)) (by omega)).mono ?_;rintro e w3 ⟨v,rfl,hown,hb4⟩;obtain⟨A5,c5,rfl,_,_⟩:=Zo hown;go_wp2;go_roundw;exact⟨k+1,by omega,by go_num,fun i hi=>by by_cases e:i=k;(subst e;exact HQ.o);exact hno.o i (by omega),hbr.trans (hb4.mono (by omega))⟩;simp[intOf];omega
 ·have hf:Hid ((List.range ns.length).all (fun i=>decide ((Ir rs i rs.length).length≠0))=true):=by
   show _=_;rw[Xp];intro i hi;have:=Xz.1 hi;exact Yv (hno.o i (by omega))
  go_wp2_with fail;refine (yI _ rs wr (h3.next ew (by omega))).mono ?_;rintro e w3 ⟨rfl,hb4⟩;go_wp2;go_ret;refine⟨Kx (Zv ?_),ew.trans (hb4.mono (by omega))⟩;rw[qB.o,HD1.o,HD2.o,Cq.o,hf.o];simp
theorem qsI(rs:List (Int×List Int))(left:Int):(Ir rs left rs.length).length≠0↔∃ r∈rs,r.1=left:=by
 unfold Ir;rw[Qk];constructor
 ·intro h;obtain⟨i,hi⟩:=List.exists_mem_of_length_pos (Nat.pos_of_ne_zero h);rw[Qw,Xz,Yj] at hi;refine⟨rs[i]'hi.1,Qg hi.1,?_⟩;have:=hi.2
  rwa [Qb,Qa hi.1] at this
 ·rintro⟨r,hr,he⟩ h0;obtain⟨i,hi,rfl⟩:=Qz hr;have:=Xw h0;rw[List.filter_eq_nil_iff] at this;refine this i (Xz.2 hi) ?_;rw[Yj,Qb,Qa hi];exact he
def Jp(w:Wd):ByteArray:=⟨w.toArray⟩
def Wp(b:ByteArray):Wd:=b.data.toList
theorem Rc(w:Wd):Wp (Jp w)=w:=rfl
theorem Dd(b:ByteArray):Jp (Wp b)=b:=by cases b;rfl
theorem dA{a b:ByteArray}(h:Wp a=Wp b):a=b:=by rw[<-Dd a,<-Dd b,h]
theorem Fg{α β:Type}{f:α->β}(hf:∀ a b,f a=f b->a=b){l:List α}(h:l.Nodup):(l.map f).Nodup :=
 List.pairwise_map.2 (h.imp fun{a b} Lj e=>Lj (hf a b e))
def Jk(g:Kc):Kc:=((Di (g.1.map Wp)).map Jp,(Ky (g.2.1.map Wp)).map Jp,pT (g.1.map Wp) (g.2.1.map Wp) g.2.2)
theorem kB(l:List Wd):(Di l).length=l.length:=(Gn l).length_eq
theorem Ba(l:List Wd):(Ky l).length=l.length:=(Nc l).length_eq
theorem qnT(ns ts:List Wd)(rs:List Jo):(pT ns ts rs).length=rs.length:=by unfold pT;rw[(Ga _).length_eq,Qk]
theorem Vz(g:Kc):(Jk g).1.length=g.1.length/\(Jk g).2.1.length=g.2.1.length/\(Jk g).2.2.length=g.2.2.length:=by
 unfold Jk;simp only[Qk,kB,Ba,qnT,and_self]
theorem qfU(n m:Nat)(r:Int×List Int):By n m r=true↔(0<=r.1/\r.1<n)/\r.2.length<=64/\∀ s∈r.2,Vp n m s:=by
 unfold By;simp only[Yl,Yj,Bool.not_eq_true',List.any_eq_false,bV,Yt,not_or,Vp,and_assoc];constructor
 ·rintro⟨h1,h2,h3,h4⟩;exact⟨h1,h2,h3,fun s hs=>by have:=h4 s hs;omega⟩
 ·rintro⟨h1,h2,h3,h4⟩;exact⟨h1,h2,h3,fun s hs=>by have:=h4 s hs;omega⟩
structure Ik(g:Kc):Prop where
 n1:1<=g.1.length
 nm:g.1.length+g.2.1.length<=256
 q:g.2.2.length<=4096
 names:∀ s∈g.1,Ee (Wp s)=true
 terms:∀ s∈g.2.1,Fi (Wp s)=true
 nn:g.1.Nodup
 tn:g.2.1.Nodup
 fit:∀ r∈g.2.2,(0<=r.1/\r.1<g.1.length)/\r.2.length<=64/\∀ s∈r.2,Vp g.1.length g.2.1.length s
 has:∀ i<g.1.length,∃ r∈g.2.2,r.1=(i:Int)
 rn:g.2.2.Nodup
theorem Fj(g:Kc):Uj g=true↔Ik g:=by
 simp only[Uj,Nr,Yl,Yj,Xp,Xz,qsI,qfU];constructor
 ·rintro⟨⟨⟨⟨⟨⟨⟨h1,h2⟩,h3⟩,h4,h5⟩,h6,h7⟩,h8⟩,h9⟩,h10⟩;exact⟨by omega,h2,h3,h4,h6,h5,h7,h8,h9,h10⟩
 ·rintro⟨h1,h2,h3,h4,h6,h5,h7,h8,h9,h10⟩;exact⟨⟨⟨⟨⟨⟨⟨by omega,h2⟩,h3⟩,h4,h5⟩,h6,h7⟩,h8⟩,h9⟩,h10⟩
theorem qcJ{ns ts xN ts':List Wd}(hp:xN.Perm ns)(hq:ts'.Perm ts)(hn:ns.Nodup)(hm:ts.Nodup){a b:Jo}(ha:Vp ns.length ts.length a.1/\∀ s∈a.2,Vp ns.length ts.length s)(hb:Vp ns.length ts.length b.1/\∀ s∈b.2,Vp ns.length ts.length s)
  (h:Rz ns ts xN ts' a=Rz ns ts xN ts' b):a=b:=by
 obtain⟨a1,a2⟩:=a;obtain⟨b1,b2⟩:=b;unfold Rz at h;injection h with h1 h2;simp only at ha hb h2;have e1:=rS hp hq hn hm ha.1 hb.1 h1;have hl:∀(x y:List Int),(∀ s∈x,Vp ns.length ts.length s)->(∀ s∈y,Vp ns.length ts.length s)->x.map (Rt ns ts xN ts')=y.map (Rt ns ts xN ts')->x=y:=by
  intro x
  induction x with
  |nil=>intro y _ _ e;cases y with | nil=>rfl | cons _ _=>simp at e
  |cons s x ih =>
   intro y hx hy e;cases y with
   |nil=>simp at e
   |cons t y =>
    rw[List.map_cons,List.map_cons] at e;injection e with e3 e4;rw[rS hp hq hn hm (hx s (by simp)) (hy t (by simp)) e3,ih y (fun s hs=>hx s (by simp[hs])) (fun s hs=>hy s (by simp[hs])) e4]
 rw[e1,hl a2 b2 ha.2 hb.2 h2]
theorem qy{ns ts:List Wd}{rs:List Jo}{r:Jo}(h:r∈pT ns ts rs):∃ x∈rs,r=Rz ns ts (Di ns) (Ky ts) x:=by
 have:=(Ga _).mem_iff.1 h;obtain⟨x,hx,e⟩:=Xa.1 this;exact⟨x,hx,e.symm⟩
theorem Ps{g:Kc}(h:Ik g):Ik (Jk g):=by
 obtain⟨l1,l2,l3⟩:=Vz g;have hp:=Gn (g.1.map Wp);have hq:=Nc (g.2.1.map Wp);have hn:(g.1.map Wp).Nodup:=Fg (fun _ _=>dA) h.nn;have hm:(g.2.1.map Wp).Nodup:=Fg (fun _ _=>dA) h.tn;have hN:(g.1.map Wp).length=g.1.length:=Qk ..;have hM:(g.2.1.map Wp).length=g.2.1.length:=Qk ..;have Ua:∀ r∈g.2.2,Vp (g.1.map Wp).length (g.2.1.map Wp).length r.1/\∀ s∈r.2,Vp (g.1.map Wp).length (g.2.1.map Wp).length s:=fun r hr=>by
  rw[hN,hM];obtain⟨f1,_,f3⟩:=h.fit r hr;exact⟨⟨by omega,f1.2⟩,f3⟩
 refine⟨by rw[l1];exact h.n1,by rw[l1,l2];exact h.nm,by rw[l3];exact h.q,?_,?_,Fg (fun a b e=>by rw[<-Rc a,<-Rc b,e]) (hp.nodup_iff.2 hn),Fg (fun a b e=>by rw[<-Rc a,<-Rc b,e]) (hq.nodup_iff.2 hm),?_,?_,?_⟩
 ·intro s hs;obtain⟨x,hx,rfl⟩:=Xa.1 hs;obtain⟨y,hy,rfl⟩:=Xa.1 (hp.mem_iff.1 hx);exact h.names y hy
 ·intro s hs;obtain⟨x,hx,rfl⟩:=Xa.1 hs;obtain⟨y,hy,rfl⟩:=Xa.1 (hq.mem_iff.1 hx);exact h.terms y hy
 ·intro r hr;obtain⟨x,hx,rfl⟩:=qy hr;obtain⟨f1,f2,f3⟩:=h.fit x hx;obtain⟨i1,i2⟩:=Ua x hx;have j1:=qF hp hq i1;have j2:=yO (g.1.map Wp) (g.2.1.map Wp) (Di (g.1.map Wp)) (Ky (g.2.1.map Wp)) x.1;rw[l1,l2];rw[hN,hM] at j1;refine⟨⟨?_,j1.2⟩,by show (x.2.map _).length<=64;rw[Qk];exact f2,fun s hs=>?_⟩
  ·show 0<=Rt _ _ _ _ x.1;omega
  ·obtain⟨t,ht,rfl⟩:=Xa.1 hs;have:=qF hp hq (i2 t ht)
   rwa [hN,hM] at this
 ·intro j hj;rw[l1] at hj;obtain⟨i,hi,e⟩:=tW hp hn (j:=j) (by rw[hN];exact hj);rw[hN] at hi;obtain⟨r,hr,hri⟩:=h.has i hi;refine⟨Rz _ _ _ _ r,(Ga _).mem_iff.2 (List.mem_map_of_mem hr),?_⟩;show Rt _ _ _ _ r.1=_;unfold Rt;rw[hri,if_neg (by omega),Yy,e]
 ·show (nS _).Nodup;rw[(Ga _).nodup_iff];refine List.pairwise_map.2 ((List.pairwise_iff_getElem.2 fun i j hi hj hij=>?_));intro e;have:=qcJ hp hq hn hm (Ua _ (Qg hi)) (Ua _ (Qg hj)) e;exact absurd this (List.pairwise_iff_getElem.1 h.rn i j hi hj hij)
abbrev Vw:=Bool×ByteArray
abbrev Ke:=ByteArray×List (List Vw)
inductive PSt where
 |name (done:List Ke)
 |colon (done:List Ke) (nm:ByteArray)
 |item (done:List Ke) (nm:ByteArray) (alts:List (List Vw)) (alt:List Vw)
def Gx:PSt->Kr->Option PSt
 |.name done,t=>if t.1=1 then some (.colon done (Jp t.2.1)) else none
 |.colon done nm,t=>if t.1=3 then some (.item done nm [] []) else none
 |.item done nm alts alt,t =>
  if t.1=1\/t.1=2 then some (.item done nm alts (alt++[(decide (t.1=2),Jp t.2.1)]))
  else if t.1=4 then some (.item done nm (alts++[alt]) [])
  else if t.1=5 then some (.name (done++[(nm,alts++[alt])]))
  else none
def jk(len:Nat):PSt->List Kr->List Ke×Nat×Nat
 |.name done,[]=>if done=[] then ([],len,14) else (done,0,0)
 |.colon _ _,[]=>([],len,14)
 |.item _ _ _ _,[]=>([],len,14)
 |st,t::r=>match Gx st t with
  |none=>([],t.2.2,14)
  |some st'=>jk len st' r
def gD(toks:List Kr)(len:Nat):List Ke×Nat×Nat:=jk len (.name []) toks
def Ms(s:Wd):List Ke×Nat×Nat:=if (Rv s).2.2≠0 then ([],(Rv s).2.1,(Rv s).2.2) else gD (Rv s).1 s.length
def Lm(ns ts:List Wd)(it:Vw):Option (Int×List Wd) :=
 if it.1=true then
  if Wp it.2∈ts then some (-1 - (ts.idxOf (Wp it.2):Int),ts) else some (-1 - (ts.length:Int),ts++[Wp it.2])
 else if Wp it.2∈ns then some ((ns.idxOf (Wp it.2):Int),ts) else none
def Ez(ns:List Wd):List Wd->List Int->List Vw->Option (List Int×List Wd)
 |ts,r,[]=>some (r,ts)
 |ts,r,it::l=>match Lm ns ts it with
  |none=>none
  |some (s,ts')=>Ez ns ts' (r++[s]) l
def Cf(ns:List Wd)(left:Int):List Wd->List Jo->List (List Vw)->Option (List Jo×List Wd)
 |ts,rs,[]=>some (rs,ts)
 |ts,rs,a::l=>match Ez ns ts [] a with
  |none=>none
  |some (r,ts')=>Cf ns left ts' (rs++[(left,r)]) l
def Kz(ns:List Wd):Nat->List Wd->List Jo->List Ke->Option (List Jo×List Wd)
 |_,ts,rs,[]=>some (rs,ts)
 |i,ts,rs,x::l=>match Cf ns (i:Int) ts rs x.2 with
  |none=>none
  |some (Bk,ts')=>Kz ns (i+1) ts' Bk l
def Rh(l:List Ke):Bool:=l.any (fun x=>x.2.any fun a=>decide (64<a.length))||decide (4096<(l.map fun x=>x.2.length).sum)||decide (256<l.length)
def Jn(l:List Ke):Kc×Nat :=
 if Rh l=true then (([],[],[]),19)
 else if ¬ (l.map fun x=>Wp x.1).Nodup then (([],[],[]),15)
 else match Kz (l.map fun x=>Wp x.1) 0 [] [] l with
  |none=>(([],[],[]),16)
  |some (rs,ts) =>
   if 256<l.length+ts.length then (([],[],[]),19)
   else if ¬ rs.Nodup then (([],[],[]),15)
   else ((l.map fun x=>x.1,ts.map Jp,rs),0)
theorem bM(len:Nat)(st:PSt)(t:Kr)(r:List Kr):jk len st (t::r)=match Gx st t with | none=>([],t.2.2,14) | some st'=>jk len st' r:=by
 cases st <;> rfl
def Lp:PSt->List Kr->Option PSt
 |st,[]=>some st
 |st,t::r=>(Gx st t).bind fun st'=>Lp st' r
theorem aR(st:PSt)(a b:List Kr):Lp st (a++b)=(Lp st a).bind fun st'=>Lp st' b:=by
 induction a generalizing st with
 |nil=>rfl
 |cons t r ih =>
  show (Gx st t).bind _=((Gx st t).bind _).bind _;cases Gx st t with
  |none=>rfl
  |some st'=>exact ih st'
theorem qaR(len:Nat){st st':PSt}{a:List Kr}(h:Lp st a=some st')(b:List Kr):jk len st (a++b)=jk len st' b:=by
 induction a generalizing st with
 |nil =>
  injection h with h;subst h;rfl
 |cons t r ih =>
  rw[List.cons_append,bM];have h2:(Gx st t).bind (fun st'=>Lp st' r)=some st':=h;cases hs:Gx st t with
  |none=>rw[hs] at h2;cases h2
  |some st2 =>
   rw[hs] at h2;exact ih h2
theorem cZ{st st' zdK:PSt}{a:List Kr}{t:Kr}(h:Lp st a=some st')(k:Gx st' t=some zdK):Lp st (a++[t])=some zdK:=by
 rw[aR,h];show (Gx st' t).bind _=_;rw[k];rfl
theorem sY{toks:List Kr}{len k:Nat}{st:PSt}(hk:k<toks.length)(h:Lp (.name []) (toks.take k)=some st)(hb:Gx st toks[k]=none):gD toks len=([],toks[k].2.2,14):=by
 unfold gD
 conv=>lhs;rw[<-Xm k toks]
 rw[qaR len h,Ql hk,bM,hb]
theorem gC{toks:List Kr}{len:Nat}{st:PSt}(h:Lp (.name []) toks=some st):gD toks len=jk len st []:=by
 have:=qaR len h [];rw[List.append_nil] at this;exact this
def iQ:aD Vw:=qiU zdF dQ
def wZ(tI:TypeId):aD (List Vw):=uSl iQ tI
def iP(tA tI:TypeId):aD Ke:=qiU dQ (uSl (wZ tI) tA)
theorem mj(l:List Value):(l.map fun v=>[v]).flatten=l:=by
 induction l with
 |nil=>rfl
 |cons v l ih=>rw[List.map_cons,List.flatten_cons,ih];rfl
theorem qjM{α:Type}(l:List α)(a b:α){n:Nat}(h:n=l.length):(l++[a]).set n b=l++[b]:=by
 subst h;rw[List.set_append_right _ _ (Ya _),Nat.sub_self];rfl
theorem yV{α:Type}(l:List α)(c a b:α){n:Nat}(h:n=l.length+1):(l++[c,a]).set n b=l++[c,b]:=by
 subst h;rw[List.set_append_right _ _ (Yh _),show l.length+1 - l.length=1 by omega];rfl
structure Se(tL tA tI:TypeId)(w:World)(N:Nat)(vL:Value)(done:List Ke)(css:List (List Value)):Prop where
 lines:w.ownsRow N tL 2 vL done.length css.flatten
 dn:Vj (iP tA tI) w w.heap.size css done
 nB:N<=w.heap.size
structure Cl(tL tA tI:TypeId)(w:World)(N:Nat)(vL:Value)(done:List Ke)(nm:ByteArray)(css:List (List Value))(B:Nat):Prop where
 lines:w.ownsRow N tL 2 vL (done.length+1) (css.flatten++[.string nm,.slice none 0 0])
 dn:Vj (iP tA tI) w B css done
 nB:N<=B
 bB:B<=w.heap.size
 nms:nm.size<=maxLen
structure Rr(tL tA tI:TypeId)(w:World)(N:Nat)(vL:Value)(done:List Ke)(nm:ByteArray)(alts:List (List Vw))(alt:List Vw)(css:List (List Value))(vA:Value)(cA:List Value)(vI:Value)(cI:List (List Value))(B1 B2:Nat):Prop where
 lines:w.ownsRow N tL 2 vL (done.length+1) (css.flatten++[.string nm,vA])
 dn:Vj (iP tA tI) w B1 css done
 row:w.ownsRow B1 tA 1 vA (alts.length+1) (cA++[vI])
 al:Vj (wZ tI) w B2 (cA.map fun v=>[v]) alts
 last:w.ownsRow B2 tI 2 vI alt.length cI.flatten
 it:Vj iQ w B2 cI alt
 nB:N<=B1
 b12:B1<=B2
 b2:B2<=w.heap.size
 nms:nm.size<=maxLen
theorem rE(tA tI:TypeId):(iP tA tI).ts=[tA,tI]:=rfl
theorem iR(tI:TypeId):(wZ tI).ts=[tI]:=rfl
theorem jv:iQ.ts=[]:=rfl
theorem dJ{tA tI:TypeId}{w:World}{U:Nat}{css:List (List Value)}{done:List Ke}(h:Vj (iP tA tI) w U css done):css.flatten.length=2*done.length:=by
 have hl:∀ cs∈css,cs.length=2:=fun cs hcs=>by
  obtain⟨i,hi,rfl⟩:=Qz hcs;exact (iP tA tI).E.len ((iP tA tI).elt (h.rep i _ _ (Qa hi) (Qa (by rw[<-h.len];exact hi))))
 rw[<-h.len];clear h
 induction css with
 |nil=>rfl
 |cons c css ih =>
  rw[List.flatten_cons,Qe,ih (fun cs hcs=>hl cs (Xi _ hcs)),hl c (Xh ..),Qu];omega
section
variable {tL tA tI:TypeId} {w w1:World} {N:Nat} {vL:Value} {done:List Ke} {nm:ByteArray} {alts:List (List Vw)} {alt:List Vw} {css:List (List Value)} {vA:Value} {cA:List Value} {vI:Value} {cI:List (List Value)} {B1 B2:Nat}
theorem Se.below(h:Se tL tA tI w N vL done css)(hb:Below w.heap.size w w1):Se tL tA tI w1 N vL done css:=⟨Zy h.lines hb,(h.dn.below hb).more hb.size,Yb h.nB hb.size⟩
theorem Cl.below{B:Nat}(h:Cl tL tA tI w N vL done nm css B)(hb:Below w.heap.size w w1):Cl tL tA tI w1 N vL done nm css B:=⟨Zy h.lines hb,h.dn.below hb,h.nB,Yb h.bB hb.size,h.nms⟩
theorem Rr.below(h:Rr tL tA tI w N vL done nm alts alt css vA cA vI cI B1 B2)(hb:Below w.heap.size w w1):Rr tL tA tI w1 N vL done nm alts alt css vA cA vI cI B1 B2 :=
 ⟨Zy h.lines hb,h.dn.below hb,Zy h.row hb,h.al.below hb,Zy h.last hb,h.it.below hb,h.nB,h.b12,Yb h.b2 hb.size,h.nms⟩
theorem Se.set(h:Se tL tA tI w N vL done css){g k:Nat}{cs:Array Value}{T:TypeId}(hg:w.heap[g]? = some (.cells cs T (0,0)))(hN:g<N)(hT:T∉[tA,tI])(v:Value):Se tL tA tI (w.setCell ⟨g,k,none⟩ v) N vL done css :=
 ⟨Zk h.lines hN v,by rw[Za];exact h.dn.keep (.of_setT hg hT v),by rw[Za];exact h.nB⟩
theorem Cl.set{B:Nat}(h:Cl tL tA tI w N vL done nm css B){g k:Nat}{cs:Array Value}{T:TypeId}(hg:w.heap[g]? = some (.cells cs T (0,0)))(hN:g<N)(hT:T∉[tA,tI])(v:Value):Cl tL tA tI (w.setCell ⟨g,k,none⟩ v) N vL done nm css B :=
 ⟨Zk h.lines hN v,h.dn.keep (.of_setT hg hT v),h.nB,by rw[Za];exact h.bB,h.nms⟩
theorem Rr.set(h:Rr tL tA tI w N vL done nm alts alt css vA cA vI cI B1 B2){g k:Nat}{cs:Array Value}{T:TypeId}(hg:w.heap[g]? = some (.cells cs T (0,0)))(hN:g<N)(hT:T∉[tA,tI])(v:Value):Rr tL tA tI (w.setCell ⟨g,k,none⟩ v) N vL done nm alts alt css vA cA vI cI B1 B2 :=
 have hB:=h.nB;have hB2:=h.b12
 ⟨Zk h.lines hN v,h.dn.keep (.of_setT hg hT v),Zk h.row (show g<B1 by omega) v,h.al.keep (.of_setT hg (fun e=>hT (Xi _ e)) v),
  Zk h.last (show g<B2 by omega) v,h.it.keep (.of_setT hg (by rw[jv];simp) v),hB,hB2,by rw[Za];exact h.b2,h.nms⟩
theorem Se.name{vL':Value}(h:Se tL tA tI w N vL done css)(hLA:tL≠tA)(hLI:tL≠tI)(hs:nm.size<=maxLen)(ho:w1.ownsRow N tL 2 vL' (done.length+1) (css.flatten++[.string nm,.slice none 0 0]))(hg:w.grownBy w1 vL.ownBlock):Cl tL tA tI w1 N vL' done nm css w1.heap.size :=
 ⟨ho,(h.dn.keep (.of_keepT (Jg.of_grown h.lines hg (by rw[rE];simp[hLA,hLI])))).more hg.size,Yb h.nB hg.size,Ya _,hs⟩
theorem Cl.colon{Ov:Value}{g c B:Nat}(h:Cl tL tA tI w N (.slice (some ⟨g,0,none⟩) (done.length+1) c) done nm css B)(hLA:tL≠tA)(hLI:tL≠tI)(ho:w1.ownsRow B tA 1 Ov 1 [.slice none 0 0])(hg:w.grownBy w1 none){k:Nat}(hk:k=2*done.length+1) :
  Rr tL tA tI (w1.setCell ⟨g,k,none⟩ Ov) N (.slice (some ⟨g,0,none⟩) (done.length+1) c) done nm [] [] css Ov [] (.slice none 0 0) [] B w1.heap.size:=by
 have hb:Below w.heap.size w w1:=(Xr _ _).grown hg (Ya _) (fun k hk=>nomatch hk);have h1:=h.below hb;have hlen:=dJ h.dn;obtain⟨g',c',e,Cn,aI,_,_,⟨cur,pK⟩,_⟩:=Ks h1.lines;injection e with e1 e2 e3;injection e1 with e1;injection e1 with e1;subst e1;refine⟨?_,h1.dn.keep (.of_setT pK (by rw[rE];simp[hLA,hLI]) Ov),Fq ho h1.lines (Ne.symm hLA) Ov,Vj.nil _ _ _,Yz _ _ _ _,Vj.nil _ _ _,h.nB,Yb h.bB hg.size,by rw[Za];exact Ya _,h.nms⟩;have:=sZ h1.lines k Ov;rw[yV _ _ _ _ (by rw[hlen];exact hk)] at this;exact this
theorem Rr.item{j_:Value}{g c:Nat}{b:Bool}{s:ByteArray}(h:Rr tL tA tI w N vL done nm alts alt css (.slice (some ⟨g,0,none⟩) (alts.length+1) c) cA vI cI B1 B2)(hLA:tL≠tA)(hLI:tL≠tI)(hAI:tA≠tI)(hs:s.size<=maxLen)
  (ho:w1.ownsRow B2 tI 2 j_ (alt.length+1) (cI.flatten++[.bool b,.string s])) (hg:w.grownBy w1 vI.ownBlock) :
  Rr tL tA tI (w1.setCell ⟨g,alts.length,none⟩ j_) N vL done nm alts (alt++[(b,s)]) css (.slice (some ⟨g,0,none⟩) (alts.length+1) c) cA j_ (cI++[[.bool b,.string s]]) B1 B2:=by
 have El:=Vr h.row h.last hAI hg;obtain⟨g',c',e,Cn,aI,_,_,⟨cur,pK⟩,_⟩:=Ks El;injection e with e1 e2 e3;injection e1 with e1;injection e1 with e1;subst e1;have Oa:alts.length=cA.length:=by
  have:=h.al.len;rw[Qk] at this;exact this.symm
 refine⟨Fq (Vr h.lines h.last hLI hg) El hLA j_,(h.dn.keep (.of_grown h.last hg h.b12)).keep (.of_set Cn j_),?_,(h.al.keep (.of_grown h.last hg (Ya _))).keep (.of_setT pK (by rw[iR];simp[hAI]) j_),?_,?_,h.nB,h.b12,by rw[Za];exact Yb h.b2 hg.size,h.nms⟩
 ·have:=sZ El alts.length j_;rw[qjM _ _ _ Oa] at this;exact this
 ·have:=Fq (g:=g) (j:=alts.length) ho El (Ne.symm hAI) j_;rw[Qe,Qf,Qs];simpa using this
 ·exact Vj.snoc (h.it.keep (w':=w1.setCell ⟨g,alts.length,none⟩ j_) ⟨by rw[Za];exact hg.size,fun _ _ _ _ ht=>nomatch ht⟩) ⟨[.bool b],[.string s],rfl,rfl,rfl,hs⟩
theorem Rr.bar{Ov:Value}{g c:Nat}(h:Rr tL tA tI w N (.slice (some ⟨g,0,none⟩) (done.length+1) c) done nm alts alt css vA cA vI cI B1 B2)(hLA:tL≠tA)(hLI:tL≠tI)(hAI:tA≠tI)
  (ho:w1.ownsRow B1 tA 1 Ov (alts.length+1+1) ((cA++[vI])++[.slice none 0 0])) (hg:w.grownBy w1 vA.ownBlock) {k:Nat} (hk:k=2*done.length+1) :
  Rr tL tA tI (w1.setCell ⟨g,k,none⟩ Ov) N (.slice (some ⟨g,0,none⟩) (done.length+1) c) done nm (alts++[alt]) [] css Ov (cA++[vI]) (.slice none 0 0) [] B1 w1.heap.size:=by
 have hlen:=dJ h.dn;have qsZ:=Vr h.lines h.row hLA hg;obtain⟨g',c',e,Cn,aI,_,_,⟨cur,pK⟩,_⟩:=Ks qsZ;injection e with e1 e2 e3;injection e1 with e1;injection e1 with e1;subst e1;have zfK:=Vr h.last h.row (Ne.symm hAI) hg;have Ek:w.heap.size<=w1.heap.size:=hg.size;have qyY:(w1.setCell ⟨g,k,none⟩ Ov).ownsRow B2 tI 2 vI alt.length cI.flatten:=Fq zfK qsZ (Ne.symm hLI) Ov;refine⟨?_,(h.dn.keep (.of_grown h.row hg (Ya _))).keep (.of_setT pK (by rw[rE];simp[hLA,hLI]) Ov),?_,?_,Yz _ _ _ _,Vj.nil _ _ _,h.nB,Yb (Yb h.b12 h.b2) Ek,by rw[Za];exact Ya _,h.nms⟩
 ·have:=sZ qsZ k Ov;rw[yV _ _ _ _ (by rw[hlen];exact hk)] at this;exact this
 ·have:=Fq (g:=g) (j:=k) ho qsZ (Ne.symm hLA) Ov;rw[Qe,Qf];exact this
 ·rw[Qt];have h1:=((h.al.keep (.of_keepT (Jg.of_grown h.row hg (by rw[iR];simp[hAI])))).keep (.of_setT (k:=k) pK (by rw[iR];simp[hLI]) Ov)).more (Yb h.b2 Ek);refine Vj.snoc (xs:=alts) (x:=alt) h1 ⟨vI,rfl,?_⟩;have h2:Vj iQ (w1.setCell ⟨g,k,none⟩ Ov) (w1.setCell ⟨g,k,none⟩ Ov).heap.size cI alt:=⟨h.it.len,fun i cs x hc hx=>iQ.more (iQ.keep (h.it.rep i cs x hc hx) ⟨by rw[Za];exact Ek,fun _ _ _ _ ht=>nomatch ht⟩) (by rw[Za];exact Yb h.b2 Ek)⟩;have h3:=Tn.of_row (O:=iQ) (t:=tI) qyY h2;rw[Za] at h3;exact h3
theorem Rr.semi(h:Rr tL tA tI w N vL done nm alts alt css vA cA vI cI B1 B2):Se tL tA tI w N vL (done++[(nm,alts++[alt])]) (css++[[.string nm,vA]]):=by
 have hB:=h.b12;have hB2:=h.b2;refine⟨?_,?_,Yb h.nB (by omega)⟩
 ·rw[Qs,Qe];simpa using h.lines
 ·refine Vj.snoc (h.dn.more (by omega)) ⟨[.string nm],[vA],rfl,⟨rfl,h.nms⟩,vA,rfl,?_⟩;have hr:w.ownsRow B1 tA (wZ tI).E.size vA (alts++[alt]).length ((cA++[vI]).map fun v=>[v]).flatten:=by
   rw[mj,Qe,Qf];exact h.row
  refine Tn.of_row hr ?_;rw[Qt];refine Vj.snoc (h.al.more hB2) ⟨vI,rfl,Tn.of_row h.last (h.it.more hB2)⟩
theorem Se.sl(h:Se tL tA tI w N vL done css):Je (iP tA tI).E w w.heap.size vL done:=(Tn.of_row (O:=iP tA tI) h.lines h.dn).sl
end
theorem iT{s:Wd}{i:Nat}(hi:i<s.length)(toks:List Kr):Gj s (i,toks)=if pU s[i]=true then some (i+1,toks) else if s[i]=35 then some (i+Ki Sb (s.drop i),toks) else match Er (s.drop i) with
  |.ok t=>some (i+t.2.2,toks++[(t.1,t.2.1,i)])
  |.error _=>none:=by
 unfold Gj;rw[Ql hi];dsimp only;cases Er (s[i]::s.drop (i+1)) <;> rfl
theorem rT{s:Wd}{i:Nat}(hi:i<s.length)(h:pU s[i]=true)(toks:List Kr):Gj s (i,toks)=some (i+1,toks):=by
 rw[iT hi,if_pos h]
theorem qnV:pU 35=false:=by decide
theorem yR{s:Wd}{i:Nat}(hi:i<s.length)(h:s[i]=35)(toks:List Kr):Gj s (i,toks)=some (i+Ki Sb (s.drop i),toks):=by
 rw[iT hi,if_neg (by rw[h,qnV];decide),if_pos h]
theorem kc{s:Wd}{i:Nat}(hi:i<s.length)(h:pU s[i]=false)(h2:s[i]≠35){t:Nat×Wd×Nat}(ht:Er (s.drop i)=.ok t)(toks:List Kr):Gj s (i,toks)=some (i+t.2.2,toks++[(t.1,t.2.1,i)]):=by
 rw[iT hi,if_neg (by rw[h];decide),if_neg h2,ht]
theorem qjD{s:Wd}{i:Nat}(hi:i<s.length)(h:pU s[i]=false)(h2:s[i]≠35){e:Nat}(ht:Er (s.drop i)=.error e)(toks:List Kr):Gj s (i,toks)=none/\pz s (i,toks)=([],i,e):=by
 refine⟨by rw[iT hi,if_neg (by rw[h];decide),if_neg h2,ht],?_⟩;unfold pz;rw[Ql hi] at ht |-;simp only[ht]
theorem qjE{s:Wd}{i:Nat}(hi:s.length<=i)(toks:List Kr):Gj s (i,toks)=none/\pz s (i,toks)=(toks,0,0):=by
 unfold Gj pz;rw[Xl hi];exact⟨rfl,rfl⟩
theorem nw{s:Wd}{i:Nat}{toks:List Kr}(hl:s.length<=65536)(h:ReachX s (0,[]) (i,toks))(hi:s.length<=i):Rv s=(toks,0,0):=by
 obtain⟨h1,h2⟩:=qjE hi toks;rw[qaG (by omega) h h1,h2]
theorem nv{s:Wd}{i e:Nat}{toks:List Kr}(hl:s.length<=65536)(h:ReachX s (0,[]) (i,toks))(hi:i<s.length)(hb:pU s[i]=false)(hn:s[i]≠35)(ht:Er (s.drop i)=.error e):Rv s=([],i,e):=by
 obtain⟨h1,h2⟩:=qjD hi hb hn ht toks;rw[qaG (by omega) h h1,h2]
inductive BlkX(t:Wd)(i:Nat):Nat->Prop
 |refl:BlkX t i i
 |blank {j:Nat} (hj:j<t.length):BlkX t i j->pU t[j]=true->BlkX t i (j+1)
 |note {j:Nat} (hj:j<t.length):BlkX t i j->t[j]=35->BlkX t i (j+Ki Sb (t.drop j))
theorem BlkX.reach{s:Wd}{k i j:Nat}(toks:List Kr)(h:BlkX (s.drop k) i j):ReachX s (k+i,toks) (k+j,toks):=by
 induction h with
 |refl=>exact .refl _
 |@blank j hj _ hb ih =>
  rw[Xj] at hj;rw[List.getElem_drop] at hb;exact ih.snoc (rT (by omega) hb toks)
 |@note j hj _ hb ih =>
  rw[Xj] at hj;rw[List.getElem_drop] at hb;refine ih.snoc ?_;rw[yR (by omega) hb toks,List.drop_drop,Yx]
def Le(t:Wd)(j:Nat):Prop:=∀(h:j<t.length),pU t[j]=false/\t[j]≠35
theorem Le.drop{s:Wd}{k j:Nat}(h:Le (s.drop k) j):Le s (k+j):=fun Ji=>by
 have:=h (by rw[Xj];omega)
 rwa [List.getElem_drop] at this
theorem jz{l:Wd}{t:Nat×Wd×Nat}(h:Er l=.ok t):t.2.2<=l.length:=by
 cases l with
 |nil=>cases h
 |cons c r =>
  change Bg c r=_ at h;unfold Bg at h;by_cases h1:c=58
  ·rw[if_pos h1] at h;cases h;exact Nat.le_add_left 1 r.length
  ·rw[if_neg h1] at h;by_cases h2:c=124
   ·rw[if_pos h2] at h;cases h;exact Nat.le_add_left 1 r.length
   ·rw[if_neg h2] at h;by_cases h3:c=59
    ·rw[if_pos h3] at h;cases h;exact Nat.le_add_left 1 r.length
    ·rw[if_neg h3] at h;by_cases h4:Ul (c.toNat:Int)=true
     ·rw[if_pos h4] at h;by_cases h5:32<Ki Wl (c::r)
      ·rw[if_pos h5] at h;cases h
      ·rw[if_neg h5] at h;cases h;exact Sx Wl (c::r)
     ·rw[if_neg h4] at h;by_cases h5:c=39
      ·rw[if_pos h5] at h;by_cases h6:0<Ki Jc r/\r[Ki Jc r]? = some 39
       ·rw[if_pos h6] at h;by_cases h7:32<Ki Jc r
        ·rw[if_pos h7] at h;cases h
        ·rw[if_neg h7] at h;cases h;have:=(Qj.1 h6.2).1;show Ki Jc r+2<=(c::r).length;rw[Qu];omega
       ·rw[if_neg h6] at h;cases h
      ·rw[if_neg h5] at h;cases h
theorem rI(r:Wd):Bg 58 r=.ok (3,[58],1):=rfl
theorem jx(r:Wd):Bg 124 r=.ok (4,[124],1):=rfl
theorem yL(r:Wd):Bg 59 r=.ok (5,[59],1):=rfl
theorem yM{c:UInt8}{r:Wd}(h:Ul (c.toNat:Int)=true):Bg c r=if 32<Ki Wl (c::r) then .error 19 else .ok (1,(c::r).take (Ki Wl (c::r)),Ki Wl (c::r)):=by
 unfold Bg;rw[if_neg (by rintro rfl;revert h;decide),if_neg (by rintro rfl;revert h;decide),if_neg (by rintro rfl;revert h;decide),if_pos h]
theorem yK(r:Wd):Bg 39 r=if 0<Ki Jc r/\r[Ki Jc r]? = some 39 then (if 32<Ki Jc r then .error 19 else .ok (2,r.take (Ki Jc r),Ki Jc r+2)) else .error 13:=rfl
theorem jy{c:UInt8}{r:Wd}(h1:c≠58)(h2:c≠124)(h3:c≠59)(h4:Ul (c.toNat:Int)=false)(h5:c≠39):Bg c r=.error 13:=by
 unfold Bg;rw[if_neg h1,if_neg h2,if_neg h3,if_neg (by rw[h4];decide),if_neg h5]
theorem cV(s:ByteArray)(k:Nat):(s.extract k s.size).data.toList=s.data.toList.drop k:=by
 rw[ByteArray.data_extract,Array.toList_extract,List.extract_eq_take_drop];exact Qd (by simp)
theorem qkJ(c:Int)(w:World):Calls Tryz.prog 266 #[.int .u8 c] w fun e w'=>e=.returned (.bool (Sb c))/\w=w':=by
 go_enter Tryz.func266,Tryz.ntmps266;go_wp2;go_ret;exact⟨Kx (Zv (by rw[Bool.eq_iff_iff];simp[Sb])),rfl⟩
theorem bU(s:ByteArray){k:Nat}(hk:k<s.data.toList.length)(c:UInt8):s.data.toList[k]=c↔Mp s k=(c.toNat:Int):=by
 rw[Ey s k hk];constructor
 ·intro h;rw[h]
 ·intro h;exact UInt8.toNat_inj.1 (by omega)
theorem fv(s:ByteArray){k:Nat}(hk:k<s.data.toList.length):pU s.data.toList[k]=true↔Mp s k=32\/Mp s k=9\/Mp s k=13\/Mp s k=10:=by
 unfold pU;simp only[Yt,Yj,bU s hk,or_assoc];exact Iff.rfl
theorem bq(s:ByteArray)(w:World)(hs:s.size<=maxLen) :
  Calls Tryz.prog 237 #[.string s] w fun e w'=>∃ n:Nat,e=.returned (.int .i64 n)/\n<=s.size/\BlkX s.data.toList 0 n/\Le s.data.toList n/\w=w':=by
 have Ab:=hs;unfold maxLen at hs;have hbt:=dN s;have Nh:=Lh (show s.data.toList.length=s.size by simp);go_enter Tryz.func237,Tryz.ntmps237;go_wp2_with fail;go_loop [3] (fun v3=>∃ k:Nat,k<=s.size/\v3=.int .i64 k/\Hid (BlkX s.data.toList 0 k)) (fun v3=>s.size - (intOf v3).toNat);exact⟨0,by omega,rfl,.refl⟩;obtain⟨k,hk,rfl,hX⟩:=hrel;by_cases Ji:k<s.size
 ·have Eu:k<s.data.toList.length:=by rw[Nh.o];exact Ji
  have hc:Mp s k=35\/Mp s k=32\/Mp s k=9\/Mp s k=13\/Mp s k=10\/(Mp s k≠35/\Mp s k≠32/\Mp s k≠9/\Mp s k≠13/\Mp s k≠10):=by omega
  rcases hc with h | h | h | h | h | ⟨h1,h2,h3,h4,h5⟩
  ·have h35:s.data.toList[k]=35:=(bU s Eu 35).2 h;have HR:=Lh (Sx Sb (s.data.toList.drop k));have HP:=Lh (show 1<=Ki Sb (s.data.toList.drop k) by rw[Ql Eu,h35];exact Lq (by decide));have HX2:=Lh (BlkX.note Eu hX.o h35);have HC:=Lh (iX 266 Sb (fun _ _=>by kernel_rfl) qkJ (s.extract k s.size) w (by simp;unfold maxLen;omega));rw[cV] at HC;obtain⟨R,hR⟩:=Xe (Ki Sb (s.data.toList.drop k));rw[<-hR] at HR HP HX2 HC;have hR2:R+k<=s.size:=by have:=HR.o;rw[Xj,Nh.o] at this;omega
   have hR1:1<=R:=HP.o;clear hR h35;go_wp2_with fail;refine HC.o.mono ?_;rintro e w1 ⟨rfl,rfl⟩;go_wp2;go_round;exact⟨k+R,by omega,by go_num,HX2.o⟩;simp[intOf];omega
  iterate 4
   ·have HX2:=Lh (BlkX.blank Eu hX.o ((fv s Eu).2 (by omega)));go_wp2_with fail;go_round;exact⟨k+1,by omega,by go_num,HX2.o⟩;simp[intOf];omega
  ·have HEND:=Lh (show Le s.data.toList k from fun hh=>⟨by
    rw[<-Bool.not_eq_true,fv s hh]
    omega,fun e=>h1 ((bU s hh 35).1 e)⟩)
   go_wp2_with fail;go_ret;exact⟨k,rfl,hk,hX.o,HEND.o,rfl⟩
 ·have HEND:=Lt (Le s.data.toList k) (fun h=>absurd h (by rw[Nh.o];omega));go_wp2;go_ret;exact⟨k,rfl,hk,hX.o,HEND.o,rfl⟩
theorem Mw{fn:Func}{p u x:Tmp}{ty:TypeId}(h:fn.results=#[.cell p ty,.tmp u,.tmp x])(tmps:Array Value)(P:Program)(w:World) :
  (results fn tmps).run P w=((asAddr (tmps.getD p undef)).run P w).andThen fun a w₁=>((loadVar ty a).run P w₁).andThen fun v w₂=>.ok (.tuple #[v,tmps.getD u undef,tmps.getD x undef]) w₂:=by
 simp only[results,h];simp[Result.andThen]
theorem Fe{fn:Func}{p u x:Tmp}{r y:Value}{Q:Ending->World->Prop}(h:fn.results=#[.cell p 220,.tmp u,.tmp x]){a:Act}{w:World}{g:Nat}{c0 c1 c2:Value}{fr:Nat×Nat}{t:TypeId}(hd:a.defers=[])
  (hp:a.tmps.getD p undef=.pointer (some ⟨g,0,none⟩)) (hu:a.tmps.getD u undef=r) (hx:a.tmps.getD x undef=y) (hg:w.heap[g]? = some (.cells #[c0,c1,c2] t fr)) (hq:Q (.returned (.tuple #[.agg #[c0,c1,c2],r,y])) w):bodyPost Tryz.prog fn Q .ret a w:=by
 refine Zg (v:=.tuple #[.agg #[c0,c1,c2],r,y]) ?_ hd hq;rw[Mw h,hp,hu,hx];simp[asAddr,Result.andThen,run_loadVar_row w g t 220 #[c0,c1,c2] fr _ hg Tryz.underlying220 rfl (by kernel_rfl)]
def tP(k:Nat)(b:ByteArray)(n:Nat):Value:=if 32<b.size then .tuple #[.agg #[.int .i64 0,.string ⟨#[]⟩,.int .i64 0],.int .i64 0,.int .i64 19] else .tuple #[.agg #[.int .i64 k,.string b,.int .i64 0],.int .i64 n,.int .i64 0]
theorem ni(k:Nat)(b:ByteArray)(n:Nat)(w:World)(hb:b.size<=maxLen) :
  Calls Tryz.prog 267 #[.agg #[.int .i64 k,.string b,.int .i64 0],.int .i64 n] w fun e w'=>e=.returned (tP k b n)/\Below w.heap.size w w':=by
 unfold maxLen at hb;by_cases h:32<b.size
 ·have HV:=Lt (tP k b n=.tuple #[.agg #[.int .i64 0,.string ⟨#[]⟩,.int .i64 0],.int .i64 0,.int .i64 19]) (if_pos h);go_enter Tryz.func267,Tryz.ntmps267;go_wp2_with fail;refine Fe (g:=w.heap.size+1) rfl rfl rfl rfl rfl (by rw[show w.heap.size+1=(w.alloc (.cells #[.int .i64 k,.string b,.int .i64 0] 220)).heap.size from (Xs _ _).symm];exact Xn _ _) ?_;exact⟨(congrArg Ending.returned HV.o.symm),((Xr _ _).alloc (Ya _) _).alloc (by simp) _⟩
 ·have HV:=Lt (tP k b n=.tuple #[.agg #[.int .i64 k,.string b,.int .i64 0],.int .i64 n,.int .i64 0]) (if_neg h);go_enter Tryz.func267,Tryz.ntmps267;go_wp2_with fail;refine Fe (g:=w.heap.size+1) rfl rfl rfl rfl rfl (by rw[show w.heap.size+1=(w.alloc (.cells #[.int .i64 k,.string b,.int .i64 0] 220)).heap.size from (Xs _ _).symm];exact Xn _ _) ?_;exact⟨(congrArg Ending.returned HV.o.symm),((Xr _ _).alloc (Ya _) _).alloc (by simp) _⟩
def qtC(h:List UInt8)(k:Int):List Value:=Rl h++[.int .i64 k]
abbrev hkv(h:List UInt8)(k:Int):Value:=.agg (qtC h k).toArray
section
variable {P:Program} {w:World}
theorem qkV{ty:TypeId}{d:TypeDesc}(hu:P.underlying ty=some d)(hd:(match d with | .struct _ | .array _ _=>true | _=>false)=true){b off:Nat}{cs:List Value}(hi:(P.info? ty).map (·.size)=some cs.length)
  (hc:∀ j u,cs[j]? = some u->w.cell? ⟨b,off+j,none⟩=some u):(Instr.loadAt ty (.pointer (some ⟨b,off,none⟩))).run P w=.ok (.agg cs.toArray) w:=by
 have hl:(loadCells ⟨b,off,none⟩ cs.length).run P w=.ok cs.toArray w:=run_loadCells_list (P:=P) w ⟨b,off,none⟩ cs (fun j v hv=>by rw[Addr.add_lit];exact hc j v hv);cases hq:P.info? ty with
 |none=>simp[hq] at hi
 |some i =>
  have hs:i.size=cs.length:=by simpa[hq] using hi
  have mP:(isAgg ty).run P w=.ok true w:=by
   unfold isAgg;rw[Zf,run_underlying hu w];cases d <;> simp_all
  simp[Instr.loadAt,Instr.sureAddr,loadVar,mP,sizeOf,typeInfo,hq,hs,hl]
theorem Az{ty:TypeId}{g off:Nat}{vs:List Value}{v:Value}(hv:v.cells=vs.toArray)(hi:(P.info? ty).map (·.size)=some vs.length){cur:Array Value}{t:TypeId}(hg:w.heap[g]? = some (.cells cur t (0,0)))
  (hl:off+vs.length<=cur.size) (h1:∀ u∈vs,u.oneCell'=true):(Instr.storeAt ty (.pointer (some ⟨g,off,none⟩)) v).run P w=.ok () (w.setRow g (cur.toList.take off++vs++cur.toList.drop (off+vs.length)).toArray):=by
 have hs:=run_storeCells_at P g off t vs 0 cur w hg (by omega) h1;rw[Yp] at hs;cases hq:P.info? ty with
 |none=>simp[hq] at hi
 |some i =>
  have Ek:i.size=vs.length:=by simpa[hq] using hi
  simp[Instr.storeAt,Instr.sureAddr,storeVar,sizeOf,typeInfo,hq,Ek,hv,hs]
end
structure Stop(p:Prop):Prop where
 o:p
theorem Stop.go{p:Prop}(h:p):Stop p:=⟨h⟩
section
variable {P:Program} {ops:Array Oper} {Q:Exit->Act->World->Prop} {a:Act} {w:World} {rest:List Oper} {o:Oper}
theorem Zs(d:Option Tmp)(_hd:o.dst=d)(h:Stop (wpList P ops Q (o::rest) a w)):wpList P ops Q (o::rest) a w:=h.o
theorem Zn(hgd:o.guard=none)(ty:TypeId){x y:Operand}(ho:o.op=.store ty x y){g off:Nat}(hx:a.eval x=.pointer (some ⟨g,off,none⟩)){v:Value}(hy:a.eval y=v){w':World}
  (dU:(Instr.storeAt ty (.pointer (some ⟨g,off,none⟩)) v).run P w=.ok () w') (h:wpList P ops Q rest (a.put o.dst undef) w'):wpList P ops Q (o::rest) a w:=by
 refine wpList_plain hgd fun K hK=>?_;unfold Oper.wp execOp;simp only[ho,hx,hy,Zf,dU,Result.andThen_ok,Sem.run_pure];exact hK _ _ h
end
section
variable {P:Program} {ops:Array Oper} {Q:Exit->Act->World->Prop} {a:Act} {w:World} {rest:List Oper} {o:Oper}
theorem nk{ty:TypeId}{k:IntKind}{p:Addr}{z:Int}(hu:P.underlying ty=some (.int k))(hc:w.cell? p=some (.int k z)):(Instr.loadAt ty (.pointer (some p))).run P w=.ok (.int k z) w:=by
 have mP:(isAgg ty).run P w=.ok false w:=by
  unfold isAgg;rw[Zf,run_underlying hu w];rfl
 simp[Instr.loadAt,Instr.sureAddr,loadVar,mP,hc]
theorem Wi{ty:TypeId}{x:Operand}{v p:Value}(ho:o.op=.load ty x)(hx:a.eval x=p)(h:(Instr.loadAt ty p).run P w=.ok v w):(execOp a.eval o).run P w=.ok (.value v) w:=by
 unfold execOp;simp only[ho,hx,Zf,h,Result.andThen_ok,Sem.run_pure]
end
section
variable {P:Program} {ops:Array Oper} {w0:World} {G:List Nat}
end
theorem qiY{l:Wd}{b:ByteArray}(h:b.data.toList=l):Jp l=b:=by subst h;exact Dd b
theorem tK(s:ByteArray)(i k:Nat):(s.extract i (i+k)).data.toList=(s.data.toList.drop i).take k:=by
 rw[ByteArray.data_extract,Array.toList_extract,List.extract_eq_take_drop,Nat.add_sub_cancel_left]
theorem qfB(s:ByteArray)(k:Nat):(s.extract 0 k).data.toList=s.data.toList.take k:=by
 have:=tK s 0 k
 rwa [Yq,List.drop_zero] at this
theorem cW{w:World}{g:Nat}{vs:List Value}{v:Value}(hv:v.cells=vs.toArray)(hl:vs.length=3){cur:Array Value}{t:TypeId}(hg:w.heap[g]? = some (.cells cur t (0,0)))
  (hc:cur.size=3) (h1:∀ u∈vs,u.oneCell'=true):(Instr.storeAt 220 (.pointer (some ⟨g,0,none⟩)) v).run Tryz.prog w=.ok () (w.setRow g vs.toArray):=by
 rw[Az hv (by rw[hl];kernel_rfl) hg (by omega) h1];congr 2;simp[List.drop_eq_nil_of_le (show cur.toList.length<=vs.length by simp;omega)]
def uP(l:Wd):Value:=match Er l with
 |.ok t=>.tuple #[.agg #[.int .i64 t.1,.string (Jp t.2.1),.int .i64 0],.int .i64 t.2.2,.int .i64 0]
 |.error e=>.tuple #[.agg #[.int .i64 0,.string ⟨#[]⟩,.int .i64 0],.int .i64 0,.int .i64 e]
theorem Be{l:Wd}{t:Nat×Wd×Nat}(h:Er l=.ok t){b:ByteArray}(hb:b.data.toList=t.2.1):uP l=.tuple #[.agg #[.int .i64 t.1,.string b,.int .i64 0],.int .i64 t.2.2,.int .i64 0]:=by
 unfold uP;rw[h,<-qiY hb]
theorem Gg{l:Wd}{e:Nat}(h:Er l=.error e):uP l=.tuple #[.agg #[.int .i64 0,.string ⟨#[]⟩,.int .i64 0],.int .i64 0,.int .i64 e]:=by
 unfold uP;rw[h]
def wK(l:Wd)(w:World)(e:Ending)(w':World):Prop:=e=.returned (uP l)/\Below w.heap.size w w'
theorem dx(s:ByteArray)(w:World)(hs:s.size<=maxLen)(h0:0<s.size):Calls Tryz.prog 238 #[.string s] w (wK s.data.toList w):=by
 have Ab:=hs;unfold maxLen at hs;have hbt:=dN s;have Nh:=Lh (show s.data.toList.length=s.size by simp);obtain⟨c,r,jS⟩:∃ c r,s.data.toList=c::r:=by
  cases hl:s.data.toList with
  |nil=>have:=Nh.o;rw[hl] at this;simp at this;omega
  |cons c r=>exact⟨c,r,rfl⟩
 have Vh:Mp s 0=(c.toNat:Int):=by rw[Ey s 0 (by rw[Nh.o];exact h0)];simp[jS]
 have HT:=Lh (show Er s.data.toList=Bg c r by rw[jS];rfl);unfold wK;have HIT:=Lh (Xn w (.cells #[.int .i64 0,.string ⟨#[]⟩,.int .i64 0] 220));have Ht:Mp s 0=58\/Mp s 0=124\/Mp s 0=59\/(Mp s 0≠58/\Mp s 0≠124/\Mp s 0≠59):=by omega
 rcases Ht with h | h | h | ⟨h1,h2,h3⟩
 ·have HV:=Lh (Be (b:=⟨#[58]⟩) (HT.o.trans (by rw[show c=58 from UInt8.toNat_inj.1 (by have:=Vh;rw[h] at this;exact Int.ofNat_inj.1 this.symm)];exact rI r)) rfl);clear HT jS Vh;go_enter Tryz.func238,Tryz.ntmps238;go_wp2_with fail;refine Fe (g:=w.heap.size) rfl rfl rfl rfl rfl (Xn _ _) ?_;exact⟨congrArg Ending.returned HV.o.symm,(Xr _ _).alloc (Ya _) _⟩
 ·have HV:=Lh (Be (b:=⟨#[124]⟩) (HT.o.trans (by rw[show c=124 from UInt8.toNat_inj.1 (by have:=Vh;rw[h] at this;exact Int.ofNat_inj.1 this.symm)];exact jx r)) rfl);clear HT jS Vh;go_enter Tryz.func238,Tryz.ntmps238;go_wp2_with fail;refine Fe (g:=w.heap.size) rfl rfl rfl rfl rfl (Xn _ _) ?_;exact⟨congrArg Ending.returned HV.o.symm,(Xr _ _).alloc (Ya _) _⟩
 ·have HV:=Lh (Be (b:=⟨#[59]⟩) (HT.o.trans (by rw[show c=59 from UInt8.toNat_inj.1 (by have:=Vh;rw[h] at this;exact Int.ofNat_inj.1 this.symm)];exact yL r)) rfl);clear HT jS Vh;go_enter Tryz.func238,Tryz.ntmps238;go_wp2_with fail;refine Fe (g:=w.heap.size) rfl rfl rfl rfl rfl (Xn _ _) ?_;exact⟨congrArg Ending.returned HV.o.symm,(Xr _ _).alloc (Ya _) _⟩
 ·have hb1:(Mp s 0==58)=false:=by simpa using h1
  have Ja:(Mp s 0==124)=false:=by simpa using h2
  have hb3:(Mp s 0==59)=false:=by simpa using h3
  have n1:c≠58:=fun e=>h1 (by rw[Vh,e];rfl);have n2:c≠124:=fun e=>h2 (by rw[Vh,e];rfl);have n3:c≠59:=fun e=>h3 (by rw[Vh,e];rfl);clear h1 h2 h3;rcases Yn (Ul (Mp s 0)) with hl | hl
  ·have HTN:=Lh (HT.o.trans (yM (by rw[<-Vh];exact hl)));have HRL:=Lh (Sx Wl s.data.toList);have HRP:=Lh (show 1<=Ki Wl s.data.toList by rw[jS];exact Lq (bD (by rw[<-Vh];exact hl)));have HRUN:=Lh (fun W:World=>iX 190 Wl (fun _ _=>by kernel_rfl) pn s W Ab);have cD:=Lh (fun W:World=>Sl (Mp s 0) W);rw[<-jS] at HTN;obtain⟨n,hn⟩:=Xe (Ki Wl s.data.toList);rw[<-hn] at HTN HRL HRP;simp only[<-hn] at HRUN;rw[hl] at cD;have hns:n<=s.size:=by rw[<-Nh.o];exact HRL.o
   have hn1:1<=n:=HRP.o;have HXS:=Lh (show (s.extract 0 n).size=n by simp;omega);have HXL:=Lh (qfB s n);have qpD:=Lh (fun W:World=>ni 1 (s.extract 0 n) n W (by rw[HXS.o];omega));clear HT jS Vh hn n1 n2 n3 hl;go_enter Tryz.func238,Tryz.ntmps238;go_wp2_with fail;refine (cD.o _).mono ?_;rintro e w1 ⟨rfl,rfl⟩;go_wp2_with fail;refine (HRUN.o _).mono ?_;rintro e w1 ⟨rfl,rfl⟩;go_wp2_with fail;have Ag:Below w.heap.size w (w.alloc (.cells #[.int .i64 0,.string ⟨#[]⟩,.int .i64 0] 220)):=(Xr _ _).alloc (Ya _) _;have HB0:=Lh Ag;have HZ0:=Lh (Xs w (.cells #[.int .i64 0,.string ⟨#[]⟩,.int .i64 0] 220));clear Ag;generalize w.alloc (.cells #[.int .i64 0,.string ⟨#[]⟩,.int .i64 0] 220)=w1 at *;refine (qpD.o w1).mono ?_;rintro e w2 ⟨rfl,Ja⟩;have HI2:=Lh ((Ja.block w.heap.size (by rw[HZ0.o];omega)).trans HIT.o);have HB2:=Lh (HB0.o.trans (Ja.mono (by rw[HZ0.o];omega)));clear Ja;by_cases uE:32<n
   ·have HV:=Lh (Gg (HTN.o.trans (if_pos uE)));have HLV:=Lt (tP 1 (s.extract 0 n) n=_) (if_pos (by rw[HXS.o];exact uE));rw[HLV.o];go_wp2_with (refine Zs none rfl ?_);refine Stop.go (Zn rfl 220 rfl rfl rfl (cW (vs:=[.int .i64 0,.string ⟨#[]⟩,.int .i64 0]) rfl rfl HI2.o rfl (by intro u hu;simp only[List.mem_cons,List.not_mem_nil,or_false] at hu;rcases hu with rfl | rfl | rfl <;> rfl)) ?_);have HR:=Lh (Zi _ _ _ _ _ _ HI2.o:(w2.setRow w.heap.size [.int .i64 0,.string ⟨#[]⟩,.int .i64 0].toArray).heap[w.heap.size]? = _);have HBR:=Lh (Zj HB2.o (Ya _) [.int .i64 0,.string ⟨#[]⟩,.int .i64 0].toArray);generalize w2.setRow w.heap.size [.int .i64 0,.string ⟨#[]⟩,.int .i64 0].toArray=w3 at *;generalize ha:Act.put _ _ _=z9;simp[Act.put] at ha;subst ha;go_wp2_with fail;refine Fe (g:=w.heap.size) rfl rfl rfl rfl rfl HR.o ?_;exact⟨congrArg Ending.returned HV.o.symm,HBR.o⟩
   ·have HV:=Lh (Be (b:=s.extract 0 n) (HTN.o.trans (if_neg uE)) HXL.o);have HLV:=Lt (tP 1 (s.extract 0 n) n=_) (if_neg (by rw[HXS.o];exact uE));rw[HLV.o];go_wp2_with (refine Zs none rfl ?_);refine Stop.go (Zn rfl 220 rfl rfl rfl (cW (vs:=[.int .i64 1,.string (s.extract 0 n),.int .i64 0]) rfl rfl HI2.o rfl (by intro u hu;simp only[List.mem_cons,List.not_mem_nil,or_false] at hu;rcases hu with rfl | rfl | rfl <;> rfl)) ?_);have HR:=Lh (Zi _ _ _ _ _ _ HI2.o:(w2.setRow w.heap.size [.int .i64 1,.string (s.extract 0 n),.int .i64 0].toArray).heap[w.heap.size]? = _);have HBR:=Lh (Zj HB2.o (Ya _) [.int .i64 1,.string (s.extract 0 n),.int .i64 0].toArray);generalize w2.setRow w.heap.size [.int .i64 1,.string (s.extract 0 n),.int .i64 0].toArray=w3 at *;generalize ha:Act.put _ _ _=z9;simp[Act.put] at ha;subst ha;go_wp2_with fail;refine Fe (g:=w.heap.size) rfl rfl rfl rfl rfl HR.o ?_;exact⟨congrArg Ending.returned HV.o.symm,HBR.o⟩
  ·have cD:=Lh (fun W:World=>Sl (Mp s 0) W);rw[hl] at cD;have n4:Ul (c.toNat:Int)=false:=by rw[<-Vh];exact hl
   by_cases h4:Mp s 0=39
   ·rw[h4] at cD;have n5:c=39:=UInt8.toNat_inj.1 (by have:=Vh;rw[h4] at this;exact Int.ofNat_inj.1 this.symm);have HTN:=Lh (HT.o.trans ((congrArg (fun c=>Bg c r) n5).trans (yK r)));have jo:=Lh (show s.data.toList.drop 1=r by simp[jS]);have HRL:=Lh (Sx Jc r);have zaW:=Lh (show r.length+1=s.size by rw[<-Nh.o,jS,Qu]);have HRUN:=Lh (fun W:World=>iX 191 Jc (fun _ _=>by kernel_rfl) rW (s.extract 1 s.size) W (by simp;unfold maxLen;omega));simp only[cV,jo.o] at HRUN;obtain⟨n,hn⟩:=Xe (Ki Jc r);rw[<-hn] at HTN HRL;simp only[<-hn] at HRUN;have ow:n+1<=s.size:=by have:=HRL.o;have:=zaW.o;omega
    have qpF:=Lh (show ∀ h:n+1<s.size,r[n]? = some 39↔Mp s (n+1)=39 from fun h=>by
     have h1:n+1<s.data.toList.length:=by rw[Nh.o];exact h
     have h2:=bU s h1 39
     rw[show (39:Int)=((39:UInt8).toNat:Int) from rfl,<-h2]
     have h3:n<r.length:=by have:=zaW.o;omega
     rw[Qa h3]
     simp[jS])
    have quM:=Lt (s.size<=n+1->r[n]? = none) (fun h=>Xf (by have:=zaW.o;omega));have HXL:=Lh (show (s.extract 1 (n+1)).data.toList=r.take n by rw[Nat.add_comm n 1,tK s 1 n,jo.o]);clear HT jS Vh hn n1 n2 n3 n4 n5 hl;by_cases hz:n=0
    ·have HV:=Lh (Gg (HTN.o.trans (if_neg (fun h=>by omega))));subst hz;go_enter Tryz.func238,Tryz.ntmps238;go_wp2_with fail;refine (cD.o _).mono ?_;rintro e w1 ⟨rfl,rfl⟩;go_wp2_with fail;refine (HRUN.o _).mono ?_;rintro e w1 ⟨rfl,rfl⟩;go_wp2_with fail;refine Fe (g:=w.heap.size) rfl rfl rfl rfl rfl (Xn _ _) ?_;exact⟨congrArg Ending.returned HV.o.symm,(Xr _ _).alloc (Ya _) _⟩
    ·have hp:0<n:=by omega
     have g1:decide ((0:Int)<(n:Int))=true:=by simpa using hp
     by_cases Ji:n+1<s.size
     ·have g2:decide ((n:Int)+1<(s.size:Int))=true:=by simp;omega
      by_cases h9:Mp s (n+1)=39
      ·have HTN:=Lh (HTN.o.trans (if_pos ⟨hp,(qpF.o Ji).2 h9⟩));have HXS:=Lh (show (s.extract 1 (n+1)).size=n by simp;omega);have qpD:=Lh (fun W:World=>ni 2 (s.extract 1 (n+1)) (n+2) W (by rw[HXS.o];unfold maxLen;omega));clear hz;go_enter Tryz.func238,Tryz.ntmps238;go_wp2_with fail;refine (cD.o _).mono ?_;rintro e w1 ⟨rfl,rfl⟩;go_wp2_with fail;refine (HRUN.o _).mono ?_;rintro e w1 ⟨rfl,rfl⟩;go_wp2_with fail;have Ag:Below w.heap.size w (w.alloc (.cells #[.int .i64 0,.string ⟨#[]⟩,.int .i64 0] 220)):=(Xr _ _).alloc (Ya _) _;have HB0:=Lh Ag;have HZ0:=Lh (Xs w (.cells #[.int .i64 0,.string ⟨#[]⟩,.int .i64 0] 220));clear Ag;generalize w.alloc (.cells #[.int .i64 0,.string ⟨#[]⟩,.int .i64 0] 220)=w1 at *;refine (qpD.o w1).mono ?_;rintro e w2 ⟨rfl,Ja⟩;have HI2:=Lh ((Ja.block w.heap.size (by rw[HZ0.o];omega)).trans HIT.o);have HB2:=Lh (HB0.o.trans (Ja.mono (by rw[HZ0.o];omega)));clear Ja;by_cases uE:32<n
       ·have HV:=Lh (Gg (HTN.o.trans (if_pos uE)));have HLV:=Lt (tP 2 (s.extract 1 (n+1)) (n+2)=_) (if_pos (by rw[HXS.o];exact uE));rw[HLV.o];go_wp2_with (refine Zs none rfl ?_);refine Stop.go (Zn rfl 220 rfl rfl rfl (cW (vs:=[.int .i64 0,.string ⟨#[]⟩,.int .i64 0]) rfl rfl HI2.o rfl (by intro u hu;simp only[List.mem_cons,List.not_mem_nil,or_false] at hu;rcases hu with rfl | rfl | rfl <;> rfl)) ?_);have HR:=Lh (Zi _ _ _ _ _ _ HI2.o:(w2.setRow w.heap.size [.int .i64 0,.string ⟨#[]⟩,.int .i64 0].toArray).heap[w.heap.size]? = _);have HBR:=Lh (Zj HB2.o (Ya _) [.int .i64 0,.string ⟨#[]⟩,.int .i64 0].toArray);generalize w2.setRow w.heap.size [.int .i64 0,.string ⟨#[]⟩,.int .i64 0].toArray=w3 at *;generalize ha:Act.put _ _ _=z9;simp[Act.put] at ha;subst ha;go_wp2_with fail;refine Fe (g:=w.heap.size) rfl rfl rfl rfl rfl HR.o ?_;exact⟨congrArg Ending.returned HV.o.symm,HBR.o⟩
       ·have HV:=Lh (Be (b:=s.extract 1 (n+1)) (HTN.o.trans (if_neg uE)) HXL.o);have HLV:=Lt (tP 2 (s.extract 1 (n+1)) (n+2)=_) (if_neg (by rw[HXS.o];exact uE));rw[HLV.o];go_wp2_with (refine Zs none rfl ?_);refine Stop.go (Zn rfl 220 rfl rfl rfl (cW (vs:=[.int .i64 2,.string (s.extract 1 (n+1)),.int .i64 0]) rfl rfl HI2.o rfl (by intro u hu;simp only[List.mem_cons,List.not_mem_nil,or_false] at hu;rcases hu with rfl | rfl | rfl <;> rfl)) ?_);have HR:=Lh (Zi _ _ _ _ _ _ HI2.o:(w2.setRow w.heap.size [.int .i64 2,.string (s.extract 1 (n+1)),.int .i64 0].toArray).heap[w.heap.size]? = _);have HBR:=Lh (Zj HB2.o (Ya _) [.int .i64 2,.string (s.extract 1 (n+1)),.int .i64 0].toArray);generalize w2.setRow w.heap.size [.int .i64 2,.string (s.extract 1 (n+1)),.int .i64 0].toArray=w3 at *;generalize ha:Act.put _ _ _=z9;simp[Act.put] at ha;subst ha;go_wp2_with fail;refine Fe (g:=w.heap.size) rfl rfl rfl rfl rfl HR.o ?_;exact⟨congrArg Ending.returned HV.o.symm,HBR.o⟩
      ·have g3:(Mp s (n+1)==39)=false:=by simpa using h9
       have HV:=Lh (Gg (HTN.o.trans (if_neg (fun h=>h9 ((qpF.o Ji).1 h.2)))));clear hz h9;go_enter Tryz.func238,Tryz.ntmps238;go_wp2_with fail;refine (cD.o _).mono ?_;rintro e w1 ⟨rfl,rfl⟩;go_wp2_with fail;refine (HRUN.o _).mono ?_;rintro e w1 ⟨rfl,rfl⟩;go_wp2_with fail;refine Fe (g:=w.heap.size) rfl rfl rfl rfl rfl (Xn _ _) ?_;exact⟨congrArg Ending.returned HV.o.symm,(Xr _ _).alloc (Ya _) _⟩
     ·have g2:decide ((n:Int)+1<(s.size:Int))=false:=by simp;omega
      have HV:=Lh (Gg (HTN.o.trans (if_neg (fun h=>by have:=quM.o (by omega);rw[this] at h;cases h.2))));clear hz;go_enter Tryz.func238,Tryz.ntmps238;go_wp2_with fail;refine (cD.o _).mono ?_;rintro e w1 ⟨rfl,rfl⟩;go_wp2_with fail;refine (HRUN.o _).mono ?_;rintro e w1 ⟨rfl,rfl⟩;go_wp2_with fail;refine Fe (g:=w.heap.size) rfl rfl rfl rfl rfl (Xn _ _) ?_;exact⟨congrArg Ending.returned HV.o.symm,(Xr _ _).alloc (Ya _) _⟩
   ·have HV:=Lh (Gg (HT.o.trans (jy n1 n2 n3 n4 (fun e=>h4 (by rw[Vh,e];rfl)))));have h5:(Mp s 0==39)=false:=by simpa using h4
    clear HT jS Vh n1 n2 n3 n4 hl h4;go_enter Tryz.func238,Tryz.ntmps238;go_wp2_with fail;refine (cD.o _).mono ?_;rintro e w1 ⟨rfl,rfl⟩;go_wp2_with fail;refine Fe (g:=w.heap.size) rfl rfl rfl rfl rfl (Xn _ _) ?_;exact⟨congrArg Ending.returned HV.o.symm,(Xr _ _).alloc (Ya _) _⟩
theorem uG{w w':World}(hb:Below w.heap.size w w')(hd:w.drawn<=w'.drawn):∃ q os',w'=Go.Sort.grow (w.drewN q) os':=by
 refine⟨w'.drawn - w.drawn,w'.heap.extract w.heap.size w'.heap.size,?_⟩;refine jr ?_ hb.tape ?_ hb.os hb.output
 ·show w'.heap=w.heap++w'.heap.extract w.heap.size w'.heap.size;apply Array.ext_getElem?;intro i;by_cases hi:i<w.heap.size
  ·rw[Array.getElem?_append_left hi];exact hb.block i hi
  ·rw[Array.getElem?_append_right (by omega),Array.getElem?_extract];by_cases h2:i<w'.heap.size
   ·rw[if_pos (by omega)];congr 1;omega
   ·rw[if_neg (by omega),Array.getElem?_eq_none (by omega)]
 ·show w'.drawn=w.drawn+(w'.drawn - w.drawn);omega
def lI(t:Kr):List Value:=[.int .i64 t.1,.string (Jp t.2.1),.int .i64 t.2.2]
def Dz(l:List Kr):List Value:=(l.map lI).flatten
theorem nP(l:List Kr)(t:Kr):Dz (l++[t])=Dz l++lI t:=by
 unfold Dz;rw[Qt,Qs];simp
theorem rM(l:List Kr):(Dz l).length=3*l.length:=by
 induction l with
 |nil=>rfl
 |cons t l ih =>
  show (lI t++Dz l).length=_;rw[Qe,ih,Qu];show 3+3*l.length=_;omega
def pA(l:Wd)(w:World)(e:Ending)(w':World):Prop:=∃ v:Value,e=.returned (.tuple #[v,.int .i64 (Rv l).2.1,.int .i64 (Rv l).2.2])/\w'.ownsRow w.heap.size 220 3 v (Rv l).1.length (Dz (Rv l).1)/\Below w.heap.size w w'
theorem qrF:Dc Tryz.prog 213 220 3 32 (.agg #[.int .i64 0,.string ⟨#[]⟩,.int .i64 0]):=Gq (by kernel_rfl) (by kernel_rfl) rfl (by omega)
theorem rJ{l:Wd}{e:Nat}(h:Er l=.error e):e=13\/e=19:=by
 cases l with
 |nil=>injection h with h;exact .inl h.symm
 |cons c r =>
  change Bg c r=_ at h;unfold Bg at h
  repeat' split at h
  all_goals first
   |(injection h with h;omega)
   |cases h
theorem lr{s:Wd}{n:Nat}(h:BlkX s 0 n):ReachX s (0,[]) (n,[]):=by
 have:=BlkX.reach (s:=s) (k:=0) (i:=0) (j:=n) [] (by rw[List.drop_zero];exact h);simpa using this
theorem ug{s:Wd}{i j m:Nat}{toks:List Kr}{t:Nat×Wd×Nat}(h:ReachX s (0,[]) (i,toks))(hi:i<s.length)(hE:Le s i)(ht:Er (s.drop i)=.ok t)(hj:j=i+t.2.2)(hm:BlkX (s.drop j) 0 m):ReachX s (0,[]) (j+m,toks++[(t.1,t.2.1,i)]):=by
 subst hj;have h1:=hE hi;exact (h.snoc (kc hi h1.1 h1.2 ht toks)).trans (BlkX.reach (k:=i+t.2.2) (i:=0) _ hm)
theorem qnI{s:Wd}{j m:Nat}(h:Le (s.drop j) m):Le s (j+m):=h.drop
theorem pA.of{l:Wd}{w w':World}{v:Value}{toks:List Kr}{i e:Nat}(h:Rv l=(toks,i,e))(ho:w'.ownsRow w.heap.size 220 3 v toks.length (Dz toks))(hb:Below w.heap.size w w'):pA l w (.returned (.tuple #[v,.int .i64 i,.int .i64 e])) w':=by
 unfold pA;rw[h];exact⟨v,rfl,ho,hb⟩
theorem vy(s:ByteArray)(w:World)(hs:s.size<=maxLen):Calls Tryz.prog 172 #[.string s] w (pA s.data.toList w):=by
 have Ab:=hs;unfold maxLen at hs;have Nh:=Lh (show s.data.toList.length=s.size by simp);by_cases ze:65536<s.size
 ·have HL:=Lh (ac (s:=s.data.toList) (by rw[Nh.o];exact ze));have g0:decide ((65536:Int)<(s.size:Int))=true:=by simp;omega
  clear hs Ab ze;go_enter Tryz.func172,Tryz.ntmps172;go_wp2_with fail;refine Zg (Zh rfl _ _ _) rfl ?_;exact pA.of HL.o (Yz _ _ _ _) (Xr _ _)
 ·have Mi:s.size<=65536:=by omega
  have g0:decide ((65536:Int)<(s.size:Int))=false:=by simp;omega
  go_enter Tryz.func172,Tryz.ntmps172;go_wp2_with fail;refine (bq s w Ab).mono ?_;rintro e w1 ⟨n0,rfl,hn0,hX,hE,rfl⟩;have HX:=Lh (lr hX);have HE:=Lh hE;clear hX hE;have HOWN:=Lh (Yz w w.heap.size 220 3);have HB0:=Lh (Xr w.heap.size w);go_wp2_with fail;go_loopw [5,6] (fun v5 v6 wr=>∃(i:Nat)(toks:List Kr),i<=s.size/\toks.length<=i/\v6=.int .i64 i/\Hid (ReachX s.data.toList (0,[]) (i,toks))/\Hid (Le s.data.toList i)/\Hid (wr.ownsRow w.heap.size 220 3 v5 toks.length (Dz toks))/\Hid (Below w.heap.size w wr)) (fun _ v6 _=>s.size - (intOf v6).toNat);exact⟨n0,[],hn0,Yf _,rfl,HX.o,HE.o,HOWN.o,HB0.o⟩;clear HX HE HOWN HB0 hn0;obtain⟨i,toks,hi,hti,rfl,HX,HE,HOWN,HB⟩:=hrel;by_cases Ji:i<s.size
  ·have Wt:i<s.data.toList.length:=by rw[Nh.o];exact Ji
   have HF:=Lh (dx (s.extract i s.size) wr (by simp;unfold maxLen;omega) (by simp;omega));rw[cV] at HF;cases ht:Er (s.data.toList.drop i) with
   |error en =>
    have HV:=Lh (Gg ht);have Ju:=Lh (nv (by rw[Nh.o];exact Mi) HX.o Wt (HE.o Wt).1 (HE.o Wt).2 ht);have hen:=rJ ht;clear ht;go_wp2_with fail;refine HF.o.mono ?_;rintro e w2 ⟨rfl,Ja⟩;rw[HV.o];have HB2:=Lh ((HB.o.trans (Ja.mono HB.o.size)).alloc (by have:=HB.o.size;have:=Ja.size;omega) (.cells #[.int .i64 0,.string ⟨#[]⟩,.int .i64 0] 220));rcases hen with rfl | rfl
    all_goals
     go_wp2_with fail;refine Zg (Zh rfl _ _ _) rfl ?_;exact pA.of Ju.o (Yz _ _ _ _) HB2.o
   |ok t =>
    obtain⟨k,txt,n⟩:=t;have HV:=Lh (Be ht (b:=Jp txt) rfl);have hn1:1<=n:=cU ht;have yg:i+n<=s.size:=by have:=jz ht;rw[Xj,Nh.o] at this;simp only at this;omega
    have HT:=Lh ht;clear ht;go_wp2_with fail;refine HF.o.mono ?_;rintro e w2 ⟨rfl,Ja⟩;rw[HV.o];simp only;have HB2:=Lh (HB.o.trans (Ja.mono HB.o.size));have hb4:Below w2.heap.size w2 ((w2.alloc (.cells #[.int .i64 k,.string (Jp txt),.int .i64 i] 220)).alloc (.cells #[.int .i64 k,.string (Jp txt),.int .i64 i] 220)):=((Xr _ _).alloc (Ya _) _).alloc (by rw[Xs];omega) _;have HO4:=Lh (Zy (Zy HOWN.o Ja) hb4);have HB4:=Lh (HB2.o.trans (hb4.mono HB2.o.size));have HN4:=Lh (Xn (w2.alloc (.cells #[.int .i64 k,.string (Jp txt),.int .i64 i] 220)) (.cells #[.int .i64 k,.string (Jp txt),.int .i64 i] 220));rw[Xs] at HN4;clear Ja hb4;go_wp2_with (at_builtin;refine Zz (m:=1) qrF rfl rfl rfl rfl HO4.o (Rd.row (B:=w2.heap.size+2) HN4.o (by omega)) rfl (by simp[Value.oneCell']) ?h63 ?hby ?hbase ?_)
    case h63=>simp only[maxLen];omega
    case hby=>omega
    case hbase=>exact HB4.o.size
    intro v5' w7 Na Ta _ _;have HO7:=Lt (w7.ownsRow w.heap.size 220 3 v5' (toks.length+1) (Dz toks++lI (k,txt,i))) (Na);have HB7:=Lh (Zt HB4.o Ta HO4.o (Ya _) HB4.o.size);clear Na Ta;obtain⟨j,hj⟩:=Xe (i+n);have HBL:=Lh (bq (s.extract j s.size) w7 (by simp;unfold maxLen;omega));rw[cV] at HBL;have e1:(i:Int)+(n:Int)=(j:Int):=by omega
    have hjs:j<=s.size:=by omega
    have HJ:=Lh hj;clear hj;go_wp2_with fail;refine HBL.o.mono ?_;rintro e w8 ⟨m,rfl,hm,hX,hE,rfl⟩;have hms:j+m<=s.size:=by simp at hm;omega
    have HXN:=Lh (ug HX.o Wt HE.o HT.o HJ.o hX);have HEN:=Lh (qnI hE);have HON:=Lt (w7.ownsRow w.heap.size 220 3 v5' (toks++[(k,txt,i)]).length (Dz (toks++[(k,txt,i)]))) (by
     rw[nP,Qe,Qf]
     exact HO7.o)
    have hnj:i+n=j:=HJ.o.symm;clear hX hE hm;go_wp2_with fail;go_roundw;exact⟨j+m,toks++[(k,txt,i)],by omega,by rw[Qe,Qf];omega,by go_num,HXN.o,HEN.o,HON.o,HB7.o⟩;simp[intOf];omega
  ·have Ju:=Lh (nw (by rw[Nh.o];exact Mi) HX.o (by rw[Nh.o];omega));go_wp2_with fail;refine Zg (Zh rfl _ _ _) rfl ?_;exact pA.of Ju.o HOWN.o HB.o
structure BoxC{α:Type}(O:pW α)(t Tb:TypeId)(w2:World)(b:Nat)(c0:Value)(l:List α)(v:Value)(wz:World):Prop where
 row:wz.heap[b]? = some (.cells #[c0,v] Tb (0,0))
 own:Nl O t wz (b+1) v l
 keep:Below b w2 wz
theorem Kj{w:World}{g k:Nat}{cs:Array Value}{T:TypeId}(h:w.heap[g]? = some (.cells cs T (0,0)))(v:Value):(w.setCell ⟨g,k,none⟩ v).heap[g]? = some (.cells (cs.setIfInBounds k v) T (0,0)):=by
 simp only[World.setCell,Xy,if_true,h,Option.map_some];rfl
theorem Vm{ts:List TypeId}{w:World}{g k:Nat}{cs:Array Value}{T:TypeId}(h:w.heap[g]? = some (.cells cs T (0,0)))(hT:T∉ts)(v:Value):Jg ts w (w.setCell ⟨g,k,none⟩ v):=by
 refine⟨by simp[World.setCell],fun j cur t ht hj=>?_⟩;rw[Zb _ _ _ _ ?_]
 ·exact hj
 ·intro e;subst e;rw[h] at hj;injection hj with hj;injection hj with _ hj;exact hT (hj ▸ ht)
section
variable {α:Type} {O:pW α} {t Tb:TypeId} {w2 wz w3 w4:World} {b:Nat} {c0 v v':Value} {l:List α} {x:α} {css:List (List Value)} {cs:List Value}
end
theorem nz:Dc Tryz.prog 228 277 2 24 (.agg #[.bool false,.string ⟨#[]⟩]):=Gq (by kernel_rfl) (by kernel_rfl) rfl (by omega)
theorem qoJ:Dc Tryz.prog 225 228 1 24 (.slice none 0 0):=Gq (by kernel_rfl) (by kernel_rfl) rfl (by omega)
theorem qkX:Dc Tryz.prog 159 227 2 40 (.agg #[.string ⟨#[]⟩,.slice none 0 0]):=Gq (by kernel_rfl) (by kernel_rfl) rfl (by omega)
theorem Pd{w:World}{g:Nat}{a b c:Value}{t:TypeId}{fr:Nat×Nat}(h:w.heap[g]? = some (.cells #[a,b,c] t fr)):w.cell? ⟨g,0,none⟩=some a/\w.cell? ⟨g,1,none⟩=some b/\w.cell? ⟨g,2,none⟩=some c:=by
 refine⟨?_,?_,?_⟩ <;> (rw[Zc _ _ _ _ _ _ h];rfl)
end Go.Proofs.YtmaojnmnbpomeaaGreatDoor
namespace Go.Proofs.YtmaojnmnbpomeaaGreatDoor.TextI
open Go Go.RowKit Go.Proofs.YtmaojnmnbpomeaaGreatDoor.Text
variable {P:Program} {ops:Array Oper} {I:World->Prop}
def YOld(P:Program)(ops:Array Oper)(I:World->Prop)(o:Oper)(v:Value)(a:Act):Prop :=
 (Region.wanted o (yielded ops a.tmps)=true/\∀ w,I w->(execOp a.eval o).run P w=.ok (.value v) w)\/(Region.wanted o (yielded ops a.tmps)=false/\v=undef)
theorem yold_keep{o:Oper}{v:Value}{a a':Act}{d:Option Tmp}(Wz:∀ cs b,o.op≠.select cs b)(h1:∀ t,d=some t->t∉o.looksAt ops)(hs:Co a a' d) :
  YOld P ops I o v a↔YOld P ops I o v a':=by
 obtain⟨u,ds,rfl⟩:=hs;have e1:execOp (({ a with defers:=ds }:Act).put d u).eval o=execOp a.eval o:=(execOp_put (ops:=ops) o Wz _ d u h1).trans rfl;have e2:Region.wanted o (yielded ops (({ a with defers:=ds }:Act).put d u).tmps)=Region.wanted o (yielded ops a.tmps):=wanted_put o _ d u h1;unfold YOld;rw[e1,e2]
theorem yold_one{w0:World}(h0:I w0){o:Oper}{v v':Value}{a:Act}(h:YOld P ops I o v a)(h':YOld P ops I o v' a):v=v':=by
 rcases h with ⟨hw,h⟩ | ⟨hw,rfl⟩ <;> rcases h' with ⟨aj,h'⟩ | ⟨aj,rfl⟩
 ·have:=(h w0 h0).symm.trans (h' w0 h0);injection this with h1 _;injection h1
 ·rw[hw] at aj;cases aj
 ·rw[hw] at aj;cases aj
 ·rfl
def Yc(P:Program)(ops:Array Oper)(I:World->Prop)(c:Nat)(o:Oper)(v:Value)(a:Act):Prop:=if c=0 then Yields P ops o v a else YOld P ops I o v a
theorem yc_keep{c:Nat}{o:Oper}{v:Value}{a a':Act}{d:Option Tmp}(Wz:∀ cs b,o.op≠.select cs b)(h1:∀ t,d=some t->t∉o.looksAt ops)(hs:Co a a' d) :
  Yc P ops I c o v a↔Yc P ops I c o v a':=by
 unfold Yc;split
 ·exact Eo Wz h1 hs
 ·exact yold_keep Wz h1 hs
theorem yc_one{w0:World}(h0:I w0){c:Nat}{o:Oper}{v v':Value}{a:Act}(h:Yc P ops I c o v a)(h':Yc P ops I c o v' a):v=v':=by
 unfold Yc at h h';split at h
 ·rename_i hc;rw[if_pos hc] at h';exact fM w0 h h'
 ·rename_i hc;rw[if_neg hc] at h';exact yold_one h0 h h'
def stG(P:Program)(ops:Array Oper)(I:World->Prop)(c:Nat)(o:Oper)(K:Act->World->Prop)(a:Act)(w:World):Prop :=
 if c<=1 then ∃ v,Yc P ops I c o v a/\K (a.put o.dst v) w
 else if Region.wanted o (yielded ops a.tmps)=true then o.wp P a w (fun a' w'=>(c=3->I w')/\K a' w') rr else K (a.put o.dst undef) w
theorem stG_mono{c:Nat}{o:Oper}{K K':Act->World->Prop}{a:Act}{w:World}(h:∀ a w,K a w->K' a w)(hh:stG P ops I c o K a w):stG P ops I c o K' a w:=by
 unfold stG at *;split at hh
 ·rename_i hc;rw[if_pos hc];obtain⟨v,h1,h2⟩:=hh;exact⟨v,h1,h _ _ h2⟩
 ·rename_i hc;rw[if_neg hc];split at hh
  ·rename_i hw;rw[if_pos hw];exact Oper.wp_mono (fun a w hk=>⟨hk.1,h _ _ hk.2⟩) hh
  ·rename_i hw;rw[if_neg hw];exact h _ _ hh
theorem stG_some{c:Nat}{o:Oper}{K:Act->World->Prop}{a:Act}{w:World}(hh:stG P ops I c o K a w):∃ a' w',Co a a' o.dst/\K a' w':=by
 unfold stG at hh;split at hh
 ·obtain⟨v,_,h⟩:=hh;exact⟨_,_,Jh _ _ _,h⟩
 ·split at hh
  ·obtain⟨a',w',hs,_,hk⟩:=Aw jH hh;exact⟨a',w',hs,hk⟩
  ·exact⟨_,_,Jh _ _ _,hh⟩
theorem stG_put{c:Nat}{o:Oper}{K K':Act->World->Prop}{a:Act}{w:World}{dst:Option Tmp}{v:Value}
  (Wz:∀ cs b,o.op≠.select cs b) (h1:∀ d,dst=some d->d∉o.looksAt ops) (h2:∀ d,dst=some d->o.dst≠some d)
  (hK:∀ a' w',Co a a' o.dst->K a' w'->K' (a'.put dst v) w') (hh:stG P ops I c o K a w):stG P ops I c o K' (a.put dst v) w:=by
 unfold stG at *;split at hh
 ·rename_i hc;rw[if_pos hc];obtain⟨u,hy,h⟩:=hh;refine⟨u,(yc_keep Wz h1 (Jh a dst v)).1 hy,?_⟩;rw[Act.put_comm a v u h2];exact hK _ _ (Jh _ _ _) h
 ·rename_i hc;rw[if_neg hc,wanted_put o a dst v h1];split at hh
  ·rename_i hw;rw[if_pos hw];exact lE Wz h1 h2 (fun a' w' hs hk=>⟨hk.1,hK _ _ hs hk.2⟩) hh
  ·rename_i hw;rw[if_neg hw,Act.put_comm a v undef h2];exact hK _ _ (Jh _ _ _) hh
theorem stG_unput{c:Nat}{o:Oper}{K K':Act->World->Prop}{a:Act}{w:World}{dst:Option Tmp}{v:Value}
  (Wz:∀ cs b,o.op≠.select cs b) (h1:∀ d,dst=some d->d∉o.looksAt ops) (h2:∀ d,dst=some d->o.dst≠some d)
  (hK:∀ a' w',Co a a' o.dst->K (a'.put dst v) w'->K' a' w') (hh:stG P ops I c o K (a.put dst v) w):stG P ops I c o K' a w:=by
 unfold stG at *;split at hh
 ·rename_i hc;rw[if_pos hc];obtain⟨u,hy,h⟩:=hh;refine⟨u,(yc_keep Wz h1 (Jh a dst v)).2 hy,?_⟩;rw[Act.put_comm a v u h2] at h;exact hK _ _ (Jh _ _ _) h
 ·rename_i hc;rw[if_neg hc];rw[wanted_put o a dst v h1] at hh;split at hh
  ·rename_i hw;rw[if_pos hw];exact fQ Wz h1 h2 (fun a' w' hs hk=>⟨hk.1,hK _ _ hs hk.2⟩) hh
  ·rename_i hw;rw[if_neg hw];rw[Act.put_comm a v undef h2] at hh;exact hK _ _ (Jh _ _ _) hh
theorem swapG{w0:World}(h0:I w0){cx cy:Nat}{x y:Oper}{K:Act->World->Prop}{a:Act}{w:World}(Ab:∀ cs b,x.op≠.select cs b)(hsy:∀ cs b,y.op≠.select cs b)
  (hap:x.apart ops y=true) (hc:cx<=1\/cy<=1) (h:stG P ops I cx x (stG P ops I cy y K) a w):stG P ops I cy y (stG P ops I cx x K) a w:=by
 obtain⟨p1,p2,p3⟩:=Oper.apart_spec hap;have p2':∀ d,y.dst=some d->x.dst≠some d:=fun d hd hx=>p2 d hx hd;rcases hc with hx | hy
 ·have h':=h;unfold stG at h';rw[if_pos hx] at h';obtain⟨v,hv,h2⟩:=h';refine stG_unput hsy p1 p2 (fun a' w' hs hk=>?_) h2;unfold stG;rw[if_pos hx];exact⟨v,(yc_keep Ab p3 hs).1 hv,hk⟩
 ·obtain⟨a1,w1,hs,hst⟩:=stG_some h;unfold stG at hst;rw[if_pos hy] at hst;obtain⟨v,hv,_⟩:=hst;have jh:=(yc_keep hsy p1 hs).2 hv;have goal:stG P ops I cx x K (a.put y.dst v) w:=stG_put Ab p3 p2' (fun a' w' hs' hk=>by
   unfold stG at hk
   rw[if_pos hy] at hk
   obtain⟨v',hv',hk⟩:=hk
   have:=yc_one h0 hv' ((yc_keep hsy p1 hs').1 jh)
   subst this
   exact hk) h
  unfold stG;rw[if_pos hy];exact⟨v,jh,goal⟩
def wpG(P:Program)(ops:Array Oper)(I:World->Prop)(cl:Nat->Nat)(Q:Act->World->Prop):List Nat->Act->World->Prop
 |[],a,w=>Q a w
 |i::r,a,w=>match ops[i]? with
  |none=>wpG P ops I cl Q r a w
  |some o=>stG P ops I (cl i) o (wpG P ops I cl Q r) a w
theorem frontG{w0:World}(h0:I w0){cl:Nat->Nat}{Q:Act->World->Prop}(Wz:Region.noSelect ops=true)(i:Nat)(l2:List Nat):∀(l1:List Nat)(a:Act)(w:World),(∀ x∈l1,dL ops cl x i=true) ->
  wpG P ops I cl Q (l1++i::l2) a w->wpG P ops I cl Q (i::(l1++l2)) a w
 |[],_,_,_,h=>h
 |x::l1,a,w,hc,h=>by
  have hx:=hc x (by simp);have ih:=fun a w=>frontG h0 (cl:=cl) (Q:=Q) Wz i l2 l1 a w (fun y hy=>hc y (by simp[hy]));cases hox:ops[x]? with
  |none =>
   have h':wpG P ops I cl Q (l1++i::l2) a w:=by simpa[wpG,hox] using h
   have:=ih a w h';unfold wpG at this |-;split at this
   ·simpa[wpG,hox] using this
   ·exact stG_mono (fun a w hh=>by simpa[wpG,hox] using hh) this
  |some ox =>
   have h1:stG P ops I (cl x) ox (wpG P ops I cl Q (l1++i::l2)) a w:=by simpa[wpG,hox] using h
   have h2:=stG_mono ih h1;cases hoi:ops[i]? with
   |none=>simpa[wpG,hox,hoi] using h2
   |some oi =>
    simp only[dL,hox,hoi,Yl,Yt,Yj] at hx;have h3:stG P ops I (cl x) ox (stG P ops I (cl i) oi (wpG P ops I cl Q (l1++l2))) a w:=by simpa[wpG,hoi] using h2
    have h4:=swapG h0 (fun cs b=>Region.noSelect_spec Wz x ox cs b hox) (fun cs b=>Region.noSelect_spec Wz i oi cs b hoi) hx.1 hx.2 h3;have h5:stG P ops I (cl i) oi (wpG P ops I cl Q (x::(l1++l2))) a w:=stG_mono (fun a w hh=>by simpa[wpG,hox] using hh) h4;simpa[wpG,hoi] using h5
theorem wpOp_of_stG{i c:Nat}{o:Oper}{K:Act->World->Prop}{Q:Exit->Act->World->Prop}{a:Act}{w:World}(zc:c<=3)(ho:ops[i]? = some o)(hold:c=1->I w)
  (h:stG P ops I c o K a w):wpOp P ops Q i (fun a' w'=>(c≠2->I w->I w')/\K a' w') a w:=by
 unfold wpOp;simp only[ho];unfold stG at h;split at h
 ·rename_i hc;obtain⟨v,hy,hk⟩:=h;unfold Yc at hy;split at hy
  ·rcases hy with ⟨hw,hv⟩ | ⟨hw,rfl⟩
   ·rw[if_pos hw];left;unfold Oper.wp;rw[hv w];exact⟨fun _ hb=>hb,hk⟩
   ·rw[if_neg (by simp[hw])];exact⟨fun _ hb=>hb,hk⟩
  ·rename_i Vh;rcases hy with ⟨hw,hv⟩ | ⟨hw,rfl⟩
   ·rw[if_pos hw];left;unfold Oper.wp;rw[hv w (hold (by omega))];exact⟨fun _ hb=>hb,hk⟩
   ·rw[if_neg (by simp[hw])];exact⟨fun _ hb=>hb,hk⟩
 ·rename_i hc;split at h
  ·rename_i hw;rw[if_pos hw];left;have h':o.wp P a w (fun a' w'=>(c≠2->I w->I w')/\K a' w') rr\/c≠2/\c≠3:=by
    by_cases h3:c=3
    ·exact .inl (Oper.wp_mono (fun a w hk=>⟨fun _ _=>hk.1 h3,hk.2⟩) h)
    ·by_cases h2:c=2
     ·exact .inl (Oper.wp_mono (fun a w hk=>⟨fun hn=>absurd h2 hn,hk.2⟩) h)
     ·exact .inr ⟨h2,h3⟩
   rcases h' with h' | ⟨h2,h3⟩
   ·unfold Oper.wp at *;generalize (execOp a.eval o).run P w=r at *;cases r with
    |ok n w' =>
     cases n <;> simp only[Oper.upon] at h' |- <;> first
      |exact h'
      |exact Calls.mono h' fun e w'' he=>by
        cases e with
        |returned u=>exact he
        |panicked c=>exact absurd he id
        |outgrown=>exact absurd he bA
    |halt x w'=>cases x <;> simp only[Oper.upon] at h' |- <;> first | exact h' | exact absurd h' id
   ·omega
  ·rename_i hw;rw[if_neg hw];exact⟨fun _ hb=>hb,h⟩
theorem any_of_G{w0:World}(hI0:I w0){cl:Nat->Nat}{Q:Exit->Act->World->Prop}(Wz:Region.noSelect ops=true)(Bx:bW ops=true)(hp:dt ops cl=true)(jP:ae ops cl=true)(zc:∀ i,cl i<=3) :
  ∀(rem:List Nat)(listed:Array Bool)(a:Act)(w:World),listed.size=ops.size->rem.Pairwise (·<·)->(∀ j,j∈rem↔j<ops.size/\listed.getD j false=false)->iz ops listed ->
   ((∀ j,j<ops.size->cl j=2->listed.getD j false=false)->I w) ->
   wpG P ops I cl (fun a w=>Q .normal a w) rem a w->wpAny P .any ops Q rem.length listed a w:=by
 intro rem
 induction hn:rem.length generalizing rem with
 |zero =>
  intro listed a w hs _ hm _ _ h;have he:rem=[]:=Xw hn;subst he;refine⟨?_,h⟩;apply List.eq_nil_iff_forall_not_mem.2;intro j hj;obtain⟨h0,o,ho,_⟩:=mem_ready.1 hj;have Ji:j<ops.size:=(gl ho);rw[Fk hs Ji] at h0;exact absurd ((hm j).2 ⟨Ji,h0⟩) (by simp)
 |succ n ih =>
  intro listed a w hs wO hm hc hinv h;have tY:Region.ready .any ops listed≠[]:=by
   cases hr:rem with
   |nil=>rw[hr] at hn;cases hn
   |cons i0 r =>
    have pc:=(hm i0).1 (by rw[hr];simp);intro xR;have Ux:i0∈Region.ready .any ops listed:=by
     refine mem_ready.2 ⟨by rw[Fk hs pc.1];exact pc.2,ops[i0],Array.getElem?_eq_getElem pc.1,fun e he hb=>?_⟩;have h1:=Xp.1 Bx i0 (Xz.2 pc.1);simp only[Array.getElem?_eq_getElem pc.1] at h1;have h2:=Array.all_eq_true_iff_forall_mem.1 h1 e he;simp only[hb,Bool.not_true,Ys,Yj] at h2;rcases Yn (listed.getD e.on false) with h3 | h3
     ·exact h3
     ·have h4:=(hm e.on).2 ⟨by omega,h3⟩;rw[hr] at h4 wO;rcases List.mem_cons.1 h4 with h5 | h5
      ·omega
      ·have:=(Qx.1 wO).1 _ h5;omega
    rw[xR] at Ux;cases Ux
  refine⟨fun h0=>absurd h0 tY,fun i hi=>?_⟩;obtain⟨h0,o,ho,Uc⟩:=mem_ready.1 hi;have Ji:i<ops.size:=(gl ho);rw[Fk hs Ji] at h0;have hir:i∈rem:=(hm i).2 ⟨Ji,h0⟩;obtain⟨l1,l2,hl⟩:=List.append_of_mem hir;subst hl;rw[List.pairwise_append] at wO;obtain⟨pw1,pw2,pw3⟩:=wO;have lz:=Qx.1 pw2;have hf:=frontG hI0 Wz i l2 l1 a w (fun x hx=>by
   have hxi:x<i:=pw3 x hx i (by simp)
   rcases oE hp Ji hxi with hd | hcp
   ·have:=Cb hc hd (fun o' wQ e he hb=>by rw[ho] at wQ;injection wQ with e2;subst e2;exact Uc e he hb)
    have h2:=((hm x).1 (by simp[hx])).2
    rw[this] at h2
    cases h2
   ·exact hcp) h
  have hst:stG P ops I (cl i) o (wpG P ops I cl (fun a w=>Q .normal a w) (l1++l2)) a w:=by simpa[wpG,ho] using hf
  have hold:cl i=1->I w:=fun yw=>hinv fun j hj hcj=>by
   rcases Yn (listed.getD j false) with h3 | h3
   ·exfalso;have hd:=Pq jP Ji hj yw hcj;have:=Cb hc hd (fun o' wQ e he hb=>hc j o' wQ h3 e he hb);rw[h0] at this;cases this
   ·exact h3
  refine wpOp_mono (fun a' w' hh=>?_) (wpOp_of_stG (Q:=Q) (zc i) ho hold hst);have hlen:(l1++l2).length=n:=by simp at hn |-;omega
  refine ih (l1++l2) hlen (listed.setIfInBounds i true) a' w' (by simpa using hs) ?_ (fun j=>?_) ?_ ?_ hh.2
  ·rw[List.pairwise_append];exact⟨pw1,lz.2,fun x hx y hy=>pw3 x hx y (by simp[hy])⟩
  ·by_cases Ad:j=i
   ·subst Ad;constructor
    ·intro hj;rcases Qh.1 hj with h5 | h5
     ·have:=pw3 j h5 j (by simp);omega
     ·have:=lz.1 j h5;omega
    ·intro ⟨_,h5⟩;have:j<listed.size:=by omega
     simp[this] at h5
   ·rw[getD_set_ne false (Ne.symm Ad),<-hm j];simp[Ad]
  ·intro j oj wP hj e he hb;by_cases Ad:j=i
   ·subst Ad;rw[ho] at wP;injection wP with e2;subst e2;exact getD_set_true (Uc e he hb)
   ·rw[getD_set_ne false (Ne.symm Ad)] at hj;exact getD_set_true (hc j oj wP hj e he hb)
  ·intro hno;have yw:cl i≠2:=fun yw=>by
    have:=hno i Ji yw;have Ek:i<listed.size:=by omega
    simp[Ek] at this
   refine hh.1 yw (hinv fun j hj hcj=>?_);have:=hno j hj hcj;by_cases Ad:j=i
   ·subst Ad;exact absurd hcj yw
   ·rwa [getD_set_ne false (Ne.symm Ad)] at this
def wpS(P:Program)(ops:Array Oper)(I:World->Prop)(G:List Nat)(Q:Act->World->Prop):Nat->List Oper->Act->World->Prop
 |_,[],a,w=>Q a w
 |k,o::r,a,w=>if Region.wanted o (yielded ops a.tmps)=true then
   o.wp P a w (fun a' w'=>(G.contains k=true->I w')/\wpS P ops I G Q (k+1) r a' w') rr
  else wpS P ops I G Q (k+1) r (a.put o.dst undef) w
theorem wpS_seg{G:List Nat}{Q:Act->World->Prop}:∀(n k:Nat)(l:List Oper)(a:Act)(w:World),(List.range' k n).all (fun i=>!G.contains i)=true ->
  (∀ Q':Exit->Act->World->Prop,(∀ a w,wpS P ops I G Q (k+n) (l.drop n) a w->Q' .normal a w)->wpList P ops Q' (l.take n) a w)->wpS P ops I G Q k l a w
 |0,k,l,a,w,_,h=>by
  have:=h (fun e a w=>e=.normal/\wpS P ops I G Q k l a w) (fun a w hh=>⟨rfl,by simpa using hh⟩);simpa[wpList] using this
 |n+1,k,[],a,w,_,h=>by
  have:=h (fun e a w=>e=.normal/\Q a w) (fun a w hh=>⟨rfl,by simpa[wpS] using hh⟩);simpa[wpList,wpS] using this
 |n+1,k,o::r,a,w,hG,h=>by
  rw[List.range'_succ,List.all_cons,Yl] at hG;have hk:G.contains k=false:=by simpa using hG.1
  have h0:=h (fun e a w=>e=.normal/\wpS P ops I G Q (k+(n+1)) ((o::r).drop (n+1)) a w) (fun a w hh=>⟨rfl,hh⟩);have Ly:¬ LetsOut (fun e a w=>e=Exit.normal/\wpS P ops I G Q (k+(n+1)) ((o::r).drop (n+1)) a w):=fun⟨_,_,hh⟩=>by cases hh.1
  have hno:∀(e:Exit)(a:Act)(w:World),e≠.normal->¬ (e=Exit.normal/\wpS P ops I G Q (k+(n+1)) ((o::r).drop (n+1)) a w):=fun _ _ _ hn hh=>hn hh.1;have ih:∀ a w,wpList P ops (fun e a w=>e=.normal/\wpS P ops I G Q (k+(n+1)) ((o::r).drop (n+1)) a w) (r.take n) a w->wpS P ops I G Q (k+1) r a w:=fun a w hl =>
   wpS_seg n (k+1) r a w hG.2 fun Q' hQ'=>by
    refine Tu (fun e a w hh=>?_) _ _ _ hl;obtain⟨rfl,hh⟩:=hh;exact hQ' _ _ (by simpa[Yx,Nat.add_comm 1 n] using hh)
  rw[List.take_succ_cons] at h0;unfold wpList at h0;unfold wpS;split at h0
  ·rename_i hw;rw[if_pos hw];have h1:=h0.resolve_right fun hh=>Ly hh.2;have h2:=Oper.wp_mono (K':=fun a' w'=>(G.contains k=true->I w')/\wpS P ops I G Q (k+1) r a' w') (fun a w hh=>⟨fun oP=>(by rw[hk] at oP;cases oP),ih a w hh⟩) h1;exact qZ hno Ly h2
  ·rename_i hw;rw[if_neg hw];exact ih _ _ h0
def oldAt(P:Program)(ops:Array Oper)(I:World->Prop)(a:Act)(i:Nat):Prop :=
 match ops[i]? with
 |some o=>match o.op with
  |.load t x=>Region.wanted o (yielded ops a.tmps)=true->∃ v,∀ w',I w'->(Instr.loadAt t (a.eval x)).run P w'=.ok v w'
  |.convert s d x=>Region.wanted o (yielded ops a.tmps)=true->∃ v,∀ w',I w'->(convert s d (a.eval x)).run P w'=.ok v w'
  |_=>True
 |none=>True
def oldAll(P:Program)(ops:Array Oper)(I:World->Prop)(a:Act):List Nat->Prop
 |[]=>True
 |i::r=>oldAt P ops I a i/\oldAll P ops I a r
theorem oldAll_mem{a:Act}:∀{l:List Nat}{i:Nat},oldAll P ops I a l->i∈l->oldAt P ops I a i
 |j::r,i,h,hi=>by
  rcases List.mem_cons.1 hi with rfl | hi
  ·exact h.1
  ·exact oldAll_mem h.2 hi
theorem reachS{G LD ex:List Nat}{Q:Act->World->Prop}:∀(l:List Oper)(k:Nat)(a:Act)(w:World),(∀ j,l[j]? = ops[k+j]?) ->
  wpS P ops I G (fun a w=>chk ops ex a=true/\oldAll P ops I a LD/\Q a w) k l a w->∃ a',chk ops ex a'=true/\oldAll P ops I a' LD/\ic ops (List.range' k l.length) a a'
 |[],k,a,w,_,h=>⟨a,h.1,h.2.1,fun _ _=>rfl⟩
 |o::r,k,a,w,hl,h=>by
  have ho:ops[k]? = some o:=by simpa using (hl 0).symm
  have kY:∀ j,r[j]? = ops[k+1+j]? := fun j=>by have:=hl (j+1);simpa[Yx,Nat.add_comm 1 j] using this
  unfold wpS at h;have hn:∃ a1 w1,Co a a1 o.dst/\wpS P ops I G (fun a w=>chk ops ex a=true/\oldAll P ops I a LD/\Q a w) (k+1) r a1 w1:=by
   split at h
   ·obtain⟨a1,w1,hs,_,hk⟩:=Aw jH h;exact⟨a1,w1,hs,hk⟩
   ·exact⟨_,_,Jh _ _ _,h⟩
  obtain⟨a1,w1,hs,h1⟩:=hn;obtain⟨a',h2,h3,h4⟩:=reachS r (k+1) a1 w1 kY h1;refine⟨a',h2,h3,fun t ht=>(h4 t fun j hj=>ht j ?_).trans (sB hs (ht k ?_ o ho))⟩
  ·rw[Qu,List.range'_succ];simp[hj]
  ·rw[Qu,List.range'_succ];simp
theorem list_G{G LD ex:List Nat}{Q:Act->World->Prop}:∀(l:List Oper)(k:Nat)(a:Act)(w:World),(∀ j,l[j]? = ops[k+j]?)->k+l.length=ops.size ->
  ae ops (aJ P ops G LD ex)=true->bW ops=true->((∀ j,j<k->aJ P ops G LD ex j≠2)->I w) ->
  wpS P ops I G (fun a w=>chk ops ex a=true/\oldAll P ops I a LD/\Q a w) k l a w->wpG P ops I (aJ P ops G LD ex) Q (List.range' k l.length) a w
 |[],k,a,w,_,_,_,_,_,h=>h.2.2
 |o::r,k,a,w,hl,Ek,jP,Bx,hinv,h=>by
  have ho:ops[k]? = some o:=by simpa using (hl 0).symm
  have Ji:k<ops.size:=(gl ho);have kY:∀ j,r[j]? = ops[k+1+j]? := fun j=>by have:=hl (j+1);simpa[Yx,Nat.add_comm 1 j] using this
  have qyD:k+1+r.length=ops.size:=by simp at Ek;omega
  obtain⟨a',eu,hold,qlY⟩:=reachS (o::r) k a w hl h;have ih:∀ a w,((∀ j,j<k+1->aJ P ops G LD ex j≠2)->I w)->wpS P ops I G (fun a w=>chk ops ex a=true/\oldAll P ops I a LD/\Q a w) (k+1) r a w->wpG P ops I (aJ P ops G LD ex) Q (List.range' (k+1) r.length) a w:=fun a w=>list_G r (k+1) a w kY qyD jP Bx;rw[Qu,List.range'_succ];unfold wpG;simp only[ho];unfold wpS at h;have om:Ed ops k o=true->(∀ t∈o.looksAt ops,a'.tmps[t]? = a.tmps[t]?):=by
   intro hst t ht;refine qlY t fun j hj oj wP=>?_;have h5:=Xp.1 hst t ht;have yp:k<=j/\j<ops.size:=by have:=List.mem_range'_1.1 hj;omega
   have h6:=Xp.1 h5 j (Xz.2 yp.2);simp only[wP,Yt,Yj,Yu] at h6;rcases h6 with h6 | h6
   ·omega
   ·exact h6
  have ec:(∀ t∈o.looksAt ops,a'.tmps[t]? = a.tmps[t]?)->∀ x∈o.op.operands,a'.eval x=a.eval x:=fun Ku x hx =>
   uU fun t hxt=>Ku t (List.mem_append_left _ (List.mem_filterMap.2 ⟨x,by simpa using hx,by rw[hxt]⟩))
  have jM:(∀ t∈o.looksAt ops,a'.tmps[t]? = a.tmps[t]?)->Region.wanted o (yielded ops a'.tmps)=Region.wanted o (yielded ops a.tmps):=by
   intro Ku;unfold Region.wanted;cases hg:o.guard with
   |none=>rfl
   |some gw =>
    obtain⟨g,want⟩:=gw;have hy:yielded ops a'.tmps g=yielded ops a.tmps g:=by
     unfold yielded;cases hb:(ops[g]?).bind (·.dst) with
     |none=>rfl
     |some t =>
      have:=Ku t (List.mem_append_right _ (by simp[hg,hb]));simp[this]
    simp only[hy]
  by_cases hw:Region.wanted o (yielded ops a.tmps)=true
  ·rw[if_pos hw] at h;have dU:∀(hp:∀ n w',(execOp a.eval o).run P w=.ok n w'->w'=w/\∃ v,n=.value v),∃ v,(execOp a.eval o).run P w=.ok (.value v) w /\
     wpS P ops I G (fun a w=>chk ops ex a=true/\oldAll P ops I a LD/\Q a w) (k+1) r (a.put o.dst v) w:=by
    intro hp;unfold Oper.wp at h;cases hr:(execOp a.eval o).run P w with
    |ok n1 w1 =>
     obtain⟨rfl,v,rfl⟩:=hp n1 w1 hr;rw[hr] at h;exact⟨v,rfl,h.2⟩
    |halt x w1 =>
     rw[hr] at h;cases x <;> exact absurd h id
   by_cases Nj:aJ P ops G LD ex k<=1
   ·have uA:∀ w',w'=w->((∀ j,j<k+1->aJ P ops G LD ex j≠2)->I w'):=fun w' e hj=>by subst e;exact hinv fun j hjk=>hj j (by omega)
    unfold stG;rw[if_pos Nj];have hc:=Nj;unfold aJ at hc;simp only[ho] at hc;by_cases yz:G.contains k=true
    ·rw[if_pos yz] at hc;omega
    rw[if_neg yz] at hc;by_cases qO:LD.contains k=true
    ·rw[if_pos qO] at hc;have aq:(gL o&&Ed ops k o)=true:=by
      by_cases aq:(gL o&&Ed ops k o)=true
      ·exact aq
      ·rw[if_neg aq] at hc;omega
     rw[Yl] at aq;have Oa:aJ P ops G LD ex k=1:=by
      unfold aJ;simp only[ho];rw[if_neg yz,if_pos qO,if_pos (by simp[aq])]
     have qyN:∀ j,j<k->aJ P ops G LD ex j≠2:=fun j hj hcj=>by
      have hd:=Pq jP Ji (show j<ops.size by omega) Oa hcj;have:=qnL Bx hd;omega
     have aw:=hinv qyN;have Ku:=om aq.2;have hoa:=oldAll_mem hold (by simpa using qO);have ji:(∃ t x,o.op=.load t x)\/∃ s d x,o.op=.convert s d x:=by
      have:=aq.1;unfold gL at this;split at this
      ·exact .inl ⟨_,_,by assumption⟩
      ·exact .inr ⟨_,_,_,by assumption⟩
      ·cases this
     rcases ji with ⟨t,x,qK⟩ | ⟨s,d,x,qK⟩
     ·have hx:=ec Ku x (by rw[qK];simp[Op.operands]);unfold oldAt at hoa;simp only[ho,qK] at hoa;obtain⟨v0,jh⟩:=hoa (by rw[jM Ku];exact hw);rw[hx] at jh;have hex:∀ w2,I w2->(execOp a.eval o).run P w2=.ok (.value v0) w2:=by
       intro w2 Ja;obtain⟨dst,op,type,pos,after,guard⟩:=o;simp only at qK;subst qK;simp only[execOp];rw[Zf,jh w2 Ja];rfl
      obtain⟨v,hv,hk⟩:=dU fun n w' h=>by
       rw[hex w aw] at h;injection h with h1 h2;exact⟨h2.symm,v0,h1.symm⟩
      rw[hex w aw] at hv;injection hv with h1 _;injection h1 with h1;subst h1;refine⟨v0,?_,ih _ _ (uA _ rfl) hk⟩;unfold Yc;rw[if_neg (by omega)];exact .inl ⟨hw,hex⟩
     ·have hx:=ec Ku x (by rw[qK];simp[Op.operands]);unfold oldAt at hoa;simp only[ho,qK] at hoa;obtain⟨v0,jh⟩:=hoa (by rw[jM Ku];exact hw);rw[hx] at jh;have hex:∀ w2,I w2->(execOp a.eval o).run P w2=.ok (.value v0) w2:=by
       intro w2 Ja;obtain⟨dst,op,type,pos,after,guard⟩:=o;simp only at qK;subst qK;simp only[execOp];rw[Zf,jh w2 Ja];rfl
      obtain⟨v,hv,hk⟩:=dU fun n w' h=>by
       rw[hex w aw] at h;injection h with h1 h2;exact⟨h2.symm,v0,h1.symm⟩
      rw[hex w aw] at hv;injection hv with h1 _;injection h1 with h1;subst h1;refine⟨v0,?_,ih _ _ (uA _ rfl) hk⟩;unfold Yc;rw[if_neg (by omega)];exact .inl ⟨hw,hex⟩
    ·rw[if_neg qO] at hc;by_cases hcE:ex.contains k=true
     ·rw[if_pos hcE] at hc;omega
     rw[if_neg hcE] at hc;by_cases tZ:(Es o&&!Ed ops k o)=true
     ·rw[if_pos tZ] at hc;omega
     rw[if_neg tZ] at hc;have uB:jY P o=0:=by
      by_cases uB:jY P o=0
      ·exact uB
      ·rw[if_neg uB] at hc;omega
     have Oa:aJ P ops G LD ex k=0:=by
      unfold aJ;simp only[ho];rw[if_neg yz,if_neg qO,if_neg hcE,if_neg tZ,if_pos uB]
     have hpv:qgU P (execOp a.eval o):=by
      refine uZ uB ?_;by_cases So:Es o=true
      ·have qlN:Ed ops k o=true:=by
        rw[So] at tZ;simpa using tZ
       have Ku:=om qlN;have Uy:=Xp.1 eu k (Xz.2 Ji);simp only[ho,Yt,So,Bool.not_true,Bool.false_eq_true,false_or] at Uy;rcases Uy with Uy | Uy | Uy
       ·exact absurd Uy hcE
       ·rw[jM Ku,hw] at Uy;cases Uy
       ·rw[mU (ec Ku)] at Uy;exact Uy
      ·unfold Es at So;unfold Hw;split at So <;> first | (exact absurd rfl So) | rfl | (split <;> first | rfl | (simp_all;done))
     obtain⟨v,hv,hk⟩:=dU fun n w' hr=>let ⟨e,v,hn,_⟩:=hpv w n w' hr;⟨e,v,hn⟩;obtain⟨_,v',hn,Uc⟩:=hpv _ _ _ hv;injection hn with hn;subst hn;refine⟨v,?_,ih _ _ (uA _ rfl) hk⟩;unfold Yc;rw[if_pos Oa];exact .inl ⟨hw,Uc⟩
   ·unfold stG;rw[if_neg Nj,if_pos hw];refine Oper.wp_mono (fun a1 w1 hh=>?_) h;have h3:aJ P ops G LD ex k=3->G.contains k=true:=by
     intro h3;unfold aJ at h3;simp only[ho] at h3;by_cases yz:G.contains k=true
     ·exact yz
     ·rw[if_neg yz] at h3
      repeat' (split at h3)
      all_goals omega
    refine⟨fun zc=>hh.1 (h3 zc),ih _ _ (fun hj=>?_) hh.2⟩;have iH:=hj k (by omega);have eh:aJ P ops G LD ex k=3:=by have:=fp (P:=P) (ops:=ops) G LD ex k;omega
    exact hh.1 (h3 eh)
  ·rw[if_neg hw] at h;have hwf:Region.wanted o (yielded ops a.tmps)=false:=by simpa using hw
   have h2:=ih _ _ (fun hj=>hinv fun j hjk=>hj j (by omega)) h;unfold stG;split
   ·refine⟨undef,?_,h2⟩;unfold Yc;split
    ·exact .inr ⟨hwf,rfl⟩
    ·exact .inr ⟨hwf,rfl⟩
   ·exact h2
theorem wp_inv{id:Nat}{Q:Exit->Act->World->Prop}{a:Act}{w:World}{l:List Oper}(G LD ex:List Nat)(I:World->Prop)(hI:I w.drew)(hm:P.follows .mixedOrders=true)(hB:growB P l.toArray G LD ex=true)
  (h:wpS P l.toArray I G (fun a' w'=>chk l.toArray ex a'=true/\oldAll P l.toArray I a' LD/\Q .normal a' w') 0 l a w.drew):(Code.region id l.toArray true).wp P Q a w:=by
 simp only[growB,Yl] at hB;refine wp_region_any hm ?_;have h2:=list_G l 0 a w.drew (by simp) (by simp) hB.2 hB.1.1.2 (fun _=>hI) h;have h3:=any_of_G (I:=I) hI hB.1.1.1 hB.1.1.2 hB.1.2 hB.2 (fun i=>fp G LD ex i) (List.range' 0 l.length) (Array.replicate l.toArray.size false) a w.drew (by simp) (List.pairwise_lt_range') (fun j=>by
  rw[List.mem_range'_1]
  constructor
  ·intro hj
   have Mn:j<l.length:=by simpa using hj.2
   exact⟨by simpa using Mn,by simp[Mn]⟩
  ·intro hj;have:=hj.1;simp at this;exact⟨by omega,by omega⟩) (fun j o ho hj=>by
   exfalso
   have:j<l.toArray.size:=(gl ho)
   simp at this
   simp[this] at hj) (fun _=>hI) h2
 simpa using h3
theorem wpS_one{G:List Nat}{Q:Act->World->Prop}{k:Nat}{o:Oper}{r:List Oper}{a:Act}{w:World}
  (h:∀ Q':Exit->Act->World->Prop,(∀ a' w',I w'/\wpS P ops I G Q (k+1) r a' w'->Q' .normal a' w')->wpList P ops Q' [o] a w):wpS P ops I G Q k (o::r) a w:=by
 have h0:=h (fun e a w=>e=.normal/\I w/\wpS P ops I G Q (k+1) r a w) (fun a w hh=>⟨rfl,hh⟩);have Ly:¬ LetsOut (fun e a w=>e=Exit.normal/\I w/\wpS P ops I G Q (k+1) r a w):=fun⟨_,_,hh⟩=>by cases hh.1
 have hno:∀(e:Exit)(a:Act)(w:World),e≠.normal->¬ (e=Exit.normal/\I w/\wpS P ops I G Q (k+1) r a w):=fun _ _ _ hn hh=>hn hh.1;unfold wpList at h0;unfold wpS;split at h0
 ·rename_i hw;rw[if_pos hw];have h1:=h0.resolve_right fun hh=>Ly hh.2;have h2:=Oper.wp_mono (K':=fun a' w'=>(G.contains k=true->I w')/\wpS P ops I G Q (k+1) r a' w') (fun a w hh=>by
   simp only[wpList] at hh
   exact⟨fun _=>hh.2.1,hh.2.2⟩) h1
  exact qZ hno Ly h2
 ·rename_i hw;rw[if_neg hw];simp only[wpList] at h0;exact h0.2.2
end Go.Proofs.YtmaojnmnbpomeaaGreatDoor.TextI
namespace Go.Proofs.YtmaojnmnbpomeaaGreatDoor.TextI
open Go Go.RowKit Go.Proofs.YtmaojnmnbpomeaaGreatDoor.Text
variable {P:Program} {ops:Array Oper} {I:World->Prop}
section
variable {cl:Nat->Nat} {Q:Act->World->Prop} {f:Nat} {fo:Oper} {w0:World}
end
end Go.Proofs.YtmaojnmnbpomeaaGreatDoor.TextI
namespace Go.Proofs.YtmaojnmnbpomeaaGreatDoor.TextI
open Go Go.RowKit Go.Proofs.YtmaojnmnbpomeaaGreatDoor.Text
variable {P:Program} {ops:Array Oper} {I:World->Prop}
end Go.Proofs.YtmaojnmnbpomeaaGreatDoor.TextI
namespace Go.Proofs.YtmaojnmnbpomeaaGreatDoor
open Go.RowKit
section
variable {P:Program} {ops:Array Oper} {I:World->Prop} {G:List Nat} {f:Nat} {fo:Oper}
end
end Go.Proofs.YtmaojnmnbpomeaaGreatDoor
