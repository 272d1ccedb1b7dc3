/- A part. -/
import Derived.Test.YtmaojnmnbpomeaaGreatDoorVO06
import Derived.Shelf.Spec.SlicesGrow
set_option maxRecDepth 100000
set_option maxHeartbeats 64000000
namespace Go.Proofs.YtmaojnmnbpomeaaGreatDoor
open Go.RowKit Go.Sort
def zdY(w:World)(e:Ending)(w':World):Prop:=∃ v,e=.returned v/\w'.ownsRow w.heap.size 9 1 v 0 []/\Below w.heap.size w w'
theorem qgU(n:Nat)(w:World)(hn:n*16<=140737488355328):Calls Tryz.prog 260 #[.slice none 0 0,.int .i64 n] w (zdY w):=by
 obtain⟨i0,hi,hz0,Sr,Fn⟩:=aM.info;rcases Nat.eq_zero_or_pos n with h0 | h0
 ·subst h0;refine Calls.mono (Any8.slices_Grow_room Tryz.growLay none 0 0 0 w (by omega) (by omega) (by omega) (by omega)) ?_;rintro e w' ⟨rfl,rfl⟩;exact⟨_,rfl,Yx _ _ _ _,Xr _ _⟩
 ·refine Calls.mono (Any8.slices_Grow_grow Tryz.growLay i0 _ hi hz0 (by rw[Sr];decide) none 0 0 n [] w (by omega) (by omega) (by rw[Fn];omega) (by omega) (by simp) (fun _=>rfl) (fun a h=>by cases h)) ?_;rintro e w' ⟨rfl,rfl⟩;refine⟨_,rfl,?_,(Xr _ _).drew.alloc (Xz _) _⟩;have h1:=grownCap_le_maxLen w (0+n) 0 (Tryz.growLay_ren.t 25) (by unfold maxLen;omega);have h2:=grownCap_ge w (0+n) 0 (Tryz.growLay_ren.t 25);rw[Yp] at h1 h2;exact World.ownsRow_made (base:=w.heap.size) (e:=9) (size:=1) w.drew _ _ (Xz _) (by rw[Yp];exact h1) (by
   rw[Array.size_append,Array.size_append,size_zeroCells,size_zeroCells]
   simp[Value.cells]
   omega)
def qrB(w:World)(ss:List (List Wd))(e:Ending)(w':World):Prop:=∃ v,e=.returned v/\w'.ownsRow w.heap.size 9 1 v ss.flatten.length (Zp ss.flatten)/\Below w.heap.size w w'
theorem bp{α:Type}(ss:List (List α)){i:Nat}(h:i<ss.length):(ss.take (i+1)).flatten=(ss.take i).flatten++ss[i]:=by
 rw[Qc h,Qs];simp
theorem ig{α:Type}(ss:List (List α))(i:Nat):(ss.take i).flatten.length<=ss.flatten.length:=by
 have:ss.flatten=(ss.take i).flatten++(ss.drop i).flatten:=by rw[<-Qs,Xm]
 rw[this,Qe];omega
theorem Jb.row1{w:World}{B:Nat}{A:Option Addr}{n c:Nat}{ss:List (List Wd)}(h:Jb (Ro eW) w B (.slice A n c) ss){k:Nat}(hk:k<ss.length):∃ b off A2 c2,A=some ⟨b,off,none⟩/\n<=c/\b<B/\w.cell? ⟨b,off+k,none⟩=some (.slice A2 ss[k].length c2)/\Jb eW w B (.slice A2 ss[k].length c2) ss[k]/\ss[k].length<=c2/\c2<=maxLen:=by
 obtain⟨b,off,cs,e,h1,h2,⟨v,rfl,hs⟩,h4⟩:=h.get hk (by show 0<1;omega);obtain⟨A2,c2,rfl,h5,h6⟩:=hs.form;have:=h4 0 _ rfl;simp only[show (Ro eW).size=1 from rfl,Yq,Yo] at this;exact⟨b,off,A2,c2,e,h1,h2,this,hs,h5,h6⟩
theorem H_(A:Option Addr)(c:Nat)(ss:List (List Wd))(w:World)(h:Jb (Ro eW) w w.heap.size (.slice A ss.length c) ss)(hb:ss.flatten.length*16<=140737488355328) :
  Calls Tryz.prog 218 #[.slice A ss.length c] w (qrB w ss):=by
 have HH:=Lh h;have hc:=h.n_le;have HBD:=Lh hb;obtain⟨m,hm⟩:=Xe ss.length;rw[<-hm] at hc HH |-;have HM:=Lh hm;clear h hb hm;go_enter Tryz.func218,Tryz.ntmps218;go_wp2_with fail;go_loopw [11,3] (fun v11 v3 wr=>∃ i t:Nat,i<=m/\v11=.int .i64 i/\v3=.int .i64 t/\Hid (t=(ss.take i).flatten.length)/\wr=w) (fun v11 _ _=>m - (intOf v11).toNat);exact⟨0,0,by omega,rfl,rfl,rfl,rfl⟩;obtain⟨i,t,hi,rfl,rfl,HT,rfl⟩:=hrel;have hle:t<=8796093022208:=by have h1:=HT.o;have h2:=ig ss i;have h3:=HBD.o;omega
 by_cases Jo:i<m
 ·have Nq:i<ss.length:=by rw[<-HM.o];exact Jo
  obtain⟨b,off,A2,c2,rfl,_,cX,Zj,hs,h5,h6⟩:=HH.o.row1 Nq;have HF:=Lh (bp ss Nq);have zrW:t+ss[i].length<=8796093022208:=by
   have h1:=HT.o;have h2:=ig ss (i+1);have h3:=HBD.o;rw[HF.o,Qe] at h2;omega
  have HLN:=Lh (show t+ss[i].length=(ss.take (i+1)).flatten.length by rw[HF.o,Qe,HT.o]);obtain⟨q,hq⟩:=Xe (ss[i].length);rw[<-hq] at zrW HLN Zj;clear hs HF h5 hq Nq;go_wp2_with fail;refine⟨⟨i+1,t+q,by omega,by go_num,by go_num,HLN.o,trivial⟩,by simp[intOf];omega⟩
 ·have pz:i=m:=by omega
  clear HT;go_wp2_with fail;refine (qgU t wr (by omega)).mono ?_;rintro e w1 ⟨v1,rfl,h1,hb1⟩;have HB1:=Lh hb1;have HO1:=Lh h1;obtain⟨A1,c1,rfl,_⟩:=Zk h1;clear h1 hb1;go_wp2_with fail;go_loopw [27,6] (fun v27 v6 wt=>∃ i s:Nat,i<=m/\v27=.int .i64 i/\Hid (s=(ss.take i).flatten.length)/\Hid (wt.ownsRow wr.heap.size 9 1 v6 s (Zp (ss.take i).flatten))/\Hid (Below wr.heap.size wr wt)) (fun v27 _ _=>m - (intOf v27).toNat);exact⟨0,0,by omega,rfl,rfl,HO1.o,HB1.o⟩;clear HO1 HB1;obtain⟨i,s,hi,rfl,HSI,HO,HB⟩:=hrel;obtain⟨A6,c6,rfl,_⟩:=Zk HO.o;by_cases Jo:i<m
  ·have Nq:i<ss.length:=by rw[<-HM.o];exact Jo
   obtain⟨b,off,A2,c2,rfl,_,cX,Zj,hs,h5,h6⟩:=(HH.o.below HB.o).row1 Nq;have HF:=Lh (bp ss Nq);have yM:=Lh hs.rdW;obtain⟨x,hx⟩:=Xe (ss[i]);rw[<-hx] at Zj HF yM;obtain⟨q,hq⟩:=Xe x.length;rw[<-hq] at Zj;have HQ:=Lh hq;have HSQ:=Lh (show s+q=(ss.take (i+1)).flatten.length by rw[HF.o,Qe,HSI.o,HQ.o]);have HLE:=Lh (show s+q<=8796093022208 by have h2:=ig ss (i+1);have h3:=HBD.o;rw[HSQ.o];omega);clear hs h5 hq hx Nq;go_wp2_with (at_builtin;refine Ja (m:=q) (n:=s) aM rfl rfl rfl rfl HO.o yM.o ?hl (fD _) ?h63 ?hby HB.o.size ?_)
   case hl=>rw[Fr,Yq];exact HQ.o.symm
   case h63=>have:=HLE.o;unfold maxLen;omega
   case hby=>have:=HLE.o;omega
   intro v' w' ho hg _ _;have HO2:Hid (w'.ownsRow _ 9 1 v' (s+q) (Zp (ss.take (i+1)).flatten)):=Lh (by
    rw[HF.o]
    simp only[Zp,Qt] at ho |-
    exact ho)
   have HB2:=Lh (Zr HB.o hg HO.o (Xz _) HB.o.size);obtain⟨A7,c7,rfl,_⟩:=Zk HO2.o;clear ho hg;go_wp2_with fail;exact⟨⟨i+1,s+q,by omega,by go_num,HSQ.o,HO2.o,HB2.o⟩,by simp[intOf];omega⟩
  ·have pz:i=m:=by omega
   have Vj:(ss.take i).flatten=ss.flatten:=by rw[pz,HM.o,Qd (Xz _)]
   rw[Vj] at HO HSI;clear Vj pz;go_wp2_with fail;go_ret;exact⟨_,rfl,by rw[<-HSI.o];exact HO.o,HB.o⟩
theorem yT(A:Option Addr)(c:Nat)(a b:List Wd)(w:World)(h:Jb (Ro eW) w w.heap.size (.slice A 2 c) [a,b])(hb:(a.length+b.length)*16<=140737488355328) :
  Calls Tryz.prog 144 #[.slice A 2 c] w (qyN w (a++b)):=by
 have jo:=Lh (show [a,b].flatten=a++b by simp);have HC:=Lh (H_ A c [a,b] w h (by rw[jo.o,Qe];exact hb));have HF:=Lh (show aB (a++b) by
  refine qoN ?_ ?_
  ·obtain⟨_,_,_,_,_,_,_,_,hs,_⟩:=h.row1 (k:=0) (by simp)
   exact hs.fits
  ·obtain⟨_,_,_,_,_,_,_,_,hs,_⟩:=h.row1 (k:=1) (by simp)
   exact hs.fits)
 rw[show [a,b].length=2 from rfl] at HC;have HBD:=Lh (show (a++b).length*16<=140737488355328 by rw[Qe];exact hb);clear h hb;obtain⟨l,hl⟩:=Xe ([a,b]);rw[<-hl] at jo HC;clear hl;obtain⟨r,hr⟩:=Xe (a++b);rw[<-hr] at jo HF HBD |-;clear hr;go_enter Tryz.func144,Tryz.ntmps144;go_wp2_with fail;refine HC.o.mono ?_;rintro e w1 ⟨v1,rfl,h1,hb1⟩;rw[jo.o] at h1;obtain⟨A1,c1,rfl,_⟩:=Zk h1;have HW:=Lh (qU A1 c1 r w1 (Tz HF.o h1) HBD.o);have HB1:=Lh hb1;clear h1 hb1 HC HF HBD jo;go_wp2_with fail;refine HW.o.mono ?_;rintro e w2 ⟨v2,rfl,h2,Zy⟩;have HB2:=Lh (HB1.o.trans (Zy.mono HB1.o.size));have HO2:=Lh (Nc h2 HB1.o.size);obtain⟨A2,c2,rfl,_⟩:=Zk h2;clear h2 Zy HW;go_wp2_with fail;go_ret;exact⟨_,rfl,HO2.o,HB2.o⟩
open Go.RowKit
theorem aK(x:Wd)(k:Nat)(w:World)(hx:x.length<=maxLen)(hk:k<=4611686018427387904) :
  Calls Tryz.prog 166 #[wv x,.int .i64 k] w fun e w'=>e=.returned (wv (x.take k))/\w'=w:=by
 unfold maxLen at hx;have hs:(⟨x.toArray⟩:ByteArray).size=x.length:=Sf x;go_enter Tryz.func166,Tryz.ntmps166;have Hx:x.take (max 0 (min (k:Int) (x.length:Int))).toNat=x.take k:=by
  rcases Nat.le_total k x.length with h | h
  ·rw[show (max 0 (min (k:Int) (x.length:Int))).toNat=k by omega]
  ·rw[Qd (by omega),Qd h]
 have HCL:=Lh Hx;clear Hx;go_wp2
 all_goals first
  |(go_ret;exact⟨Kd (qzM (by rw[pX,HCL.o])),rfl⟩)
  |(go_ret;exact⟨Kd (qzM (by rw[pX,Qd (Xz _),Qd (by omega)])),rfl⟩)
  |(go_ret;exact⟨Kd (qzM (pX x k)),rfl⟩)
  |(have e:x.take k=[]:=by
    rcases (by omega:x.length=0\/k=0) with h | h
    ·rw[Xv h,List.take_nil]
    ·rw[h];rfl
    rw[e]
    go_ret
    exact⟨rfl,rfl⟩)
def jS(x y:Wd)(i:Nat):Wd:=if i=0 then [] else if i=1 then x else x++y
theorem nD(x y:Wd)(k:Nat)(A:Option Addr)(c:Nat)(w:World)(h1:1<=k)(hk:k<=4611686018427387904)(hxy:x.length+y.length<=4611686018427387904)(h:Jb eW w w.heap.size (.slice A 2 c) [x,y]) :
  Calls Tryz.prog 221 #[.int .i64 k,.slice A 2 c] w fun e w'=>e=.returned (wv ((x++y).take k))/\w'=w:=by
 have HH:=Lh h;have hc2:=h.n_le;clear h;go_enter Tryz.func221,Tryz.ntmps221;go_wp2_with fail;go_loopw [10,5] (fun v10 v5 wr=>∃ i:Nat,i<=2/\v10=.int .i64 i/\v5=wv (jS x y i)/\wr=w/\Hid (i=2->x.length<k)) (fun v10 _ _=>2 - (intOf v10).toNat);exact⟨0,by omega,rfl,rfl,rfl,fun h=>by omega⟩;obtain⟨i,hi,rfl,rfl,rfl,HI⟩:=hrel;rcases (by omega:i=0\/i=1\/i=2) with rfl | rfl | rfl
 ·obtain⟨b,off,rfl,_,_,Zj⟩:=HH.o.wd (k:=0) (by simp);simp only[List.getElem_cons_zero,Yo] at Zj;have hs:(⟨(jS x y 0).toArray⟩:ByteArray).size=0:=rfl;have Le:(jS x y 0).length=0:=rfl;have e:(⟨(jS x y 0).toArray⟩:ByteArray)++⟨x.toArray⟩=⟨(jS x y 1).toArray⟩:=by rw[aI];rfl
  have E:=Lh e;clear e;go_wp2_with fail;rw[E.o];exact⟨⟨1,by omega,rfl,rfl,trivial,fun h=>by omega⟩,by decide⟩
 ·obtain⟨b,off,rfl,_,_,Zj⟩:=HH.o.wd (k:=1) (by simp);simp only[List.getElem_cons_succ,List.getElem_cons_zero] at Zj;have hs:(⟨(jS x y 1).toArray⟩:ByteArray).size=x.length:=Sf x;have Le:(jS x y 1).length=x.length:=rfl;have e:(⟨(jS x y 1).toArray⟩:ByteArray)++⟨y.toArray⟩=⟨(jS x y 2).toArray⟩:=aI x y;have E:=Lh e;clear e;by_cases Jo:x.length<k
  ·go_wp2_with fail;rw[E.o];exact⟨⟨2,by omega,rfl,rfl,trivial,fun _=>Jo⟩,by decide⟩
  ·go_wp2_with fail;refine (aK x k wr (by unfold maxLen;omega) hk).mono ?_;rintro e w2 ⟨rfl,rfl⟩;go_wp2_with fail;go_ret;exact⟨Kd (by rw[List.take_append_of_le_length (by omega)];rfl),rfl⟩
 ·go_wp2_with fail;refine (aK (x++y) k wr (by unfold maxLen;simp;omega) hk).mono ?_;rintro e w2 ⟨rfl,rfl⟩;go_wp2_with fail;go_ret;exact⟨rfl,rfl⟩
open Go.ChangeMaps (setBlock)
abbrev qoP(e:MapEntry):Value×Value:=(e.key,e.val)
def qpV(es:List MapEntry)(clock:Nat):Prop:=(∀ x∈es,x.born<clock)/\(es.map (·.born)).Nodup
def MapS{α:Type}(κ:α->Value)(w:World)(g:Nat)(l:List (α×Value)):Prop :=
 ∃(es:Array MapEntry)(clock:Nat),w.heap[g]? = some (.map es clock)/\es.toList.map qoP=l.map (fun p=>(κ p.1,p.2))/\qpV es.toList clock
def zoD{α:Type}(κ:α->Value)(w:World)(r g:Nat)(l out:List (α×Value)):Prop :=
 ∃(es:Array MapEntry)(clock:Nat)(seen:Array Nat)(rest:List (α×Value)),w.heap[r]? = some (.mapIter (some g) clock seen clock)/\w.heap[g]? = some (.map es clock) /\
  es.toList.map qoP=l.map (fun p=>(κ p.1,p.2))/\qpV es.toList clock/\(leftOf es seen).toList.map qoP=rest.map (fun p=>(κ p.1,p.2))/\(out++rest).Perm l
section
variable {α:Type} {κ:α->Value} {w:World} {g:Nat} {l:List (α×Value)}
end
section
variable {α:Type} [DecidableEq α] {P:Program} {mt kt et:TypeId} {κ:α->Value} {w:World} {g:Nat} {l:List (α×Value)}
end
section
variable {α:Type} {P:Program} {κ:α->Value} {w:World} {g:Nat} {l:List (α×Value)}
end
theorem pb{P:Program}{w:World}{ty kt et:TypeId}{v:Value}{p:Addr}(hu:P.underlying ty=some (.map kt et))(hc:w.cell? p=some v):(Instr.loadAt ty (.pointer (some p))).run P w=.ok v w:=by
 have gE:(isAgg ty).run P w=.ok false w:=by
  unfold isAgg;rw[Zd,run_underlying hu w];rfl
 simp[Instr.loadAt,Instr.sureAddr,loadVar,gE,hc]
abbrev K32:={ k:List UInt8×Int // k.1.length=32 }
instance:Inhabited K32:=⟨⟨(List.replicate 32 0,0),by simp⟩⟩
def kv(k:K32):Value:=hkv k.1.1 k.1.2
theorem Ke:Rv Tryz.prog 147 9 3 wv where
 und:=Tryz.underlying147
 check:=fun b a w=>by
  show (Instr.checkKey b (9999+1) 9 (.string _)).run Tryz.prog w=_;unfold Instr.checkKey;simp only[Zd,run_underlying Tryz.underlying9,Result.andThen,Sem.run_pure]
 find:=fun k l es w h=>by
  unfold Instr.findKey;have:=Ak (κ:=wv) (d:=.string) (fun a b:Wd=>(congrArg some ((qxF a b).trans (by rw[decide_eq_decide];exact eq_comm)):some ((⟨a.toArray⟩:ByteArray)==⟨b.toArray⟩)=some (decide (b=a)))) k l es 0 h;simp only[Zd,run_underlying Tryz.underlying9,Result.andThen,this,Yp,Sem.run_pure]
 stays:=fun a=>by
  rw[show (10000:Nat)=9999+1 from rfl];have:=Gh ⟨a.toArray⟩ ⟨a.toArray⟩;simp[Instr.sameBits,this]
theorem Dv(w:World):(zeroValue 3).run Tryz.prog w=.ok (.int .i64 0) w:=by kernel_rfl
theorem mS{α:Type}[DecidableEq α]:∀(l:List (α×Value))(k:α)(v:Value)(x:α),Ni (Wm l k v) x=if x=k then some v else Ni l x
 |[],k,v,x=>by
  unfold Ni Wm;by_cases h:k=x
  ·subst h;simp
  ·have h':¬ x=k:=fun e=>h e.symm;simp[h,h']
 |p::r,k,v,x=>by
  have ih:=mS r k v x;unfold Wm;by_cases hp:p.1=k
  ·rw[if_pos hp];unfold Ni at ih |-;rw[List.find?_cons,List.find?_cons];by_cases h:k=x
   ·subst h;simp
   ·have h2:p.1≠x:=by rw[hp];exact h
    have h':¬ x=k:=fun e=>h e.symm;simp[h,h2,h']
  ·rw[if_neg hp];unfold Ni at ih |-;rw[List.find?_cons,List.find?_cons];by_cases h:p.1=x
   ·have:x≠k:=by rw[<-h];exact hp
    simp[h,this]
   ·simp only[h,decide_false];exact ih
def Lz(l:List (Wd×Value))(L:List Wd)(N:Nat):Prop:=∀ x,∃ n:Nat,(Ni l x).getD (.int .i64 0)=.int .i64 n/\n<=N/\(n=0↔x∉L)
def dN(L:List Wd)(x:Wd):List Wd:=if x∈L then L else L++[x]
theorem iY{L:List Wd}{x y:Wd}:y∈dN L x↔y∈L\/y=x:=by
 unfold dN;split
 ·rename_i h;exact⟨.inl,fun h'=>h'.elim id fun e=>e ▸ h⟩
 ·simp
theorem Lz.nil:Lz [] [] 0:=fun x=>⟨0,rfl,Xz _,by simp⟩
theorem Lz.put{l:List (Wd×Value)}{L:List Wd}{N:Nat}(h:Lz l L N)(x:Wd){n:Nat}(hn:(Ni l x).getD (.int .i64 0)=.int .i64 n)(hle:n<=N):Lz (Wm l x (.int .i64 ((n+1:Nat):Int))) (dN L x) (N+1):=by
 intro y;by_cases e:y=x
 ·subst e;exact⟨n+1,by rw[mS,if_pos rfl];rfl,by omega,by simp[iY]⟩
 ·obtain⟨m,h1,h2,h3⟩:=h y;refine⟨m,by rw[mS,if_neg e];exact h1,by omega,?_⟩;rw[h3,iY];simp[e]
theorem sS{w w':World}{base:Nat}{e:TypeId}{size n:Nat}{v:Value}{xs:List Value}(h:w.ownsRow base e size v n xs)(hb:∀ k,v.ownBlock=some k->w'.heap[k]? = w.heap[k]?):w'.ownsRow base e size v n xs:=by
 refine⟨h.1,?_⟩;rcases h.2 with h' | ⟨g,cap,cur,rfl,h1,hh,r⟩
 ·exact .inl h'
 ·exact .inr ⟨g,cap,cur,rfl,h1,(hb g rfl).trans hh,r⟩
structure bZ(w:World)(g S O C B0:Nat)(L:List Wd)(N:Nat):Prop where
 map:∃ l,Uo wv w g l/\Lz l L N
 seen:w.heap[S]? = some (.cells #[.map (some g)] 147 (0,0))
 o:∃ v,w.heap[O]? = some (.cells #[v] 22 (0,0))/\w.ownsRow B0 9 1 v L.length (Zp L)
 le:C<=g/\C<=S/\C<=O/\g<B0/\S<B0/\O<B0/\S≠O/\g≠S/\g≠O/\B0<=w.heap.size
def zmJ(w:World)(g S O C B0:Nat)(L:List Wd)(N:Nat)(x:Wd)(e:Ending)(w':World):Prop :=
 e=.returned (.bool (decide ((dN L x).length<=4096)))/\bZ w' g S O C B0 (dN L x) (N+1)/\Below C w w'
theorem sc{w:World}{g S O C B0:Nat}{L:List Wd}{N:Nat}(h:bZ w g S O C B0 L N){v:Value}(ho:w.heap[O]? = some (.cells #[v] 22 (0,0)))(l:List (Wd×Value))(hm:Uo wv w g l)(hown:w.ownsRow B0 9 1 v L.length (Zp L)) :
  ∀(o:Obj)(w1:World)(v':Value)(w':World)(m:Nat)(ys:List Value),w1=w.alloc o->w'.ownsRow B0 9 1 v' m ys->w1.grownBy w' v.ownBlock->w'.heap[O]? = some (.cells #[v] 22 (0,0)) /\
   (w'.setCell ⟨O,0,none⟩ v').cell? ⟨S,0,none⟩=some (.map (some g))/\(w'.setCell ⟨O,0,none⟩ v').cell? ⟨O,0,none⟩=some v'/\Uo wv (w'.setCell ⟨O,0,none⟩ v') g l/\Below C w (w'.setCell ⟨O,0,none⟩ v') /\
   (w'.setCell ⟨O,0,none⟩ v').heap[S]? = some (.cells #[.map (some g)] 147 (0,0))/\(w'.setCell ⟨O,0,none⟩ v').heap[O]? = some (.cells #[v'] 22 (0,0))/\(w'.setCell ⟨O,0,none⟩ v').ownsRow B0 9 1 v' m ys:=by
 intro o w1 v' w' m ys e1 eK hg;obtain⟨l1,l2,l3,l4,l5,l6,l7,l8,l9,l10⟩:=h.le;subst e1;have hb:∀ k,k<B0->w'.heap[k]? = w.heap[k]? := fun k hk=>by
  rw[hg.block k (by rw[Xs];omega) (fun e=>by have:=(hown.lt k e.symm).1;omega),Zc w o k (by omega)]
 have hS:=(hb S l5).trans h.seen;have hO:=(hb O l6).trans ho;have hS2:(w'.setCell ⟨O,0,none⟩ v').heap[S]? = some (.cells #[.map (some g)] 147 (0,0)):=(Zb w' ⟨O,0,none⟩ v' S l7).trans hS;have hO2:(w'.setCell ⟨O,0,none⟩ v').heap[O]? = some (.cells #[v'] 22 (0,0)):=by
  simp only[World.setCell,Xx,if_true,hO,Option.map_some];rfl
 refine⟨hO,Vo hS2,Vo hO2,(hm.of_block (hb g l4)).setCell l9,?_,hS2,hO2,sS eK fun k hk=>Zb w' ⟨O,0,none⟩ v' k ?_⟩
 ·have b1:Below C w (w.alloc o):=(Xr _ _).alloc (by omega) _;have b2:Below C w w':=b1.grown hg (by rw[Xs];omega) (fun k hk=>by have:=(hown.lt k hk).1;omega);exact b2.setCell l3 _
 ·have:=(eK.lt k hk).1;show k≠O;omega
theorem uV(w:World)(g S O C B0:Nat)(L:List Wd)(N:Nat)(x:Wd)(h:bZ w g S O C B0 L N)(hL:L.length<=4096)(hN:N<=1152921504606846976) :
  Calls Tryz.prog 220 #[wv x,.pointer (some ⟨S,0,none⟩),.pointer (some ⟨O,0,none⟩)] w (zmJ w g S O C B0 L N x):=by
 obtain⟨l,hm,hs⟩:=h.map;obtain⟨v,ho,hown⟩:=h.o;obtain⟨n,hn,hnN,hn0⟩:=hs x;have c1:=Vo h.seen;have c2:=Vo ho;obtain⟨A,c,rfl,hc1,hc2⟩:=Zk hown;have ke:=pb (P:=Tryz.prog) Tryz.underlying147 c1;have hlk:=hm.lookup Ke Dv x;rw[hn] at hlk;have HS:=Lh hs;have HN0:=Lh hn0;have HO:=Lh hown;have HH:=Lh h;have HM:=Lh hm;have HN:=Lh hn;have HLE:=Lh hnN;have kc:(n:Int)<=1152921504606846976:=by omega
 clear hs hn0 hown h hm hn hnN hN;by_cases hz:n=0
 ·have hq:((n:Int)==0)=true:=by simp;exact hz
  have HZ:=Lh hz;clear hz;have HC:=Lh (sc HH.o ho l HM.o HO.o);go_enter Tryz.func220,Tryz.ntmps220;go_wp2_with (at_builtin;refine Ja (m:=1) (n:=L.length) aM rfl rfl rfl rfl (HO.o.alloc _) (Rd.row (B:=w.heap.size+1) (Xn w _) (by omega)) rfl (fun u hu=>by simp at hu;subst hu;rfl) (by unfold maxLen;omega) (by omega) (by rw[Xs];have:=HH.o.le;omega) ?_);intro v' w' wL pJ _ _;obtain⟨A9,c9,rfl,_,_⟩:=Zk wL;obtain⟨hO4,c4,c5,hm3,qyV⟩:=HC.o _ _ _ w' _ _ rfl wL pJ;have c6:=Vo hO4;have c7:w'.frozen? ⟨O,0,none⟩=false:=by simp[World.frozen?,hO4]
  have hld3:=pb (P:=Tryz.prog) Tryz.underlying147 c4;have zrU:=hm3.lookup Ke Dv x;rw[HN.o] at zrU;have HM3:=Lh hm3;have HR:=Lh qyV;clear wL pJ hm3 qyV ke hlk;generalize hw4:w'.setCell ⟨O,0,none⟩ (Value.slice A9 (L.length+1) c9)=w4 at *;go_wp2_with (at_mapUpdate;refine Sg Ke rfl rfl rfl rfl rfl HM3.o ?_);intro w5 zhK fZ hs5;obtain⟨r1,r2,r3,r4⟩:=HR.o;have jk:=Lh (show dN L x=L++[x] by unfold dN;rw[if_neg (HN0.o.1 HZ.o)]);have zrT:=(gl r3);obtain⟨l1,l2,l3,l4,l5,l6,l7,l8,l9,l10⟩:=HH.o.le;have ho5:=(fZ.block O zrT (fun e=>l9 (by injection e with e;exact e.symm))).trans r3;have zgT:=(fZ.block S (by have:=(gl r2);exact this) (fun e=>l8 (by injection e with e;exact e.symm))).trans r2;have Rt:=sS r4 fun k hk=>fZ.block k (r4.lt k hk).2 (fun e=>by have h9:=(r4.lt k hk).1;injection e with e;subst e;omega);have hb5:=r1.grown fZ (by omega) (fun k hk=>by injection hk with hk;subst hk;exact l1);have fv:bZ w5 g S O C B0 (dN L x) (N+1):=by
   rw[jk.o];refine⟨⟨_,zhK,?_⟩,zgT,⟨_,ho5,by rw[Qe];simpa[Zp] using Rt⟩,l1,l2,l3,l4,l5,l6,l7,l8,l9,by have:=r1.size;omega⟩;have:=HS.o.put x HN.o HLE.o;rw[jk.o] at this;exact this
  have c8:=Vo ho5;have Up:=Lh fv;have HB5:=Lh hb5;clear fv hb5 r1 r2 r3 r4 Rt zgT l1 l2 l3 l4 l5 l6 l7 l8 l9 l10 fZ zhK;go_wp2_with fail;go_ret;exact⟨Kd (Zm (by rw[jk.o,Qe,Qf,decide_eq_decide];omega)),Up.o,HB5.o⟩
 ·have hq:((n:Int)==0)=false:=by simp;exact hz
  have HZ:=Lh hz;clear hz;have HLT:=Lh (gl ho);have HGO:Hid (some O≠some g):=fun e=>HH.o.le.2.2.2.2.2.2.2.2.1 (by injection e with e;exact e.symm);have HX:=Lh (show dN L x=L by unfold dN;rw[if_pos];exact Decidable.not_not.1 fun hx=>HZ.o (HN0.o.2 hx));go_enter Tryz.func220,Tryz.ntmps220;go_wp2_with (at_mapUpdate;refine Sg Ke rfl rfl rfl rfl rfl HM.o ?_;intro w2 qgG aE Le;have c3:=Vo ((aE.block O HLT.o HGO.o).trans ho));go_ret;refine⟨Kd (Zm (by rw[HX.o,decide_eq_decide];omega)),?_,?_⟩
  ·rw[HX.o];obtain⟨l1,l2,l3,l4,l5,l6,l7,l8,l9,l10⟩:=HH.o.le;refine⟨⟨_,qgG,?_⟩,(aE.block S (by omega) (fun e=>l8 (by injection e with e;exact e.symm))).trans HH.o.seen,⟨_,(aE.block O HLT.o HGO.o).trans ho,sS HO.o fun k hk=>?_⟩,l1,l2,l3,l4,l5,l6,l7,l8,l9,by omega⟩
   ·have:=HS.o.put x HN.o HLE.o;rw[HX.o] at this;exact this
   ·have:=(HO.o.lt k hk);exact aE.block k this.2 (fun e=>by injection e with e;omega)
  ·exact (Xr _ _).grown aE (Ya HH.o.le.1 (Yf HM.o.lt)) (fun k hk=>by injection hk with hk;subst hk;exact HH.o.le.1)
def da(l:List Wd):Prop:=∀ x∈l,x.length<=4
def Ia(k:Nat)(x:Wd)(b:List Wd):List Wd:=if k<=x.length/\0<b.length then b.take 1 else b
def Vg(k:Nat)(x:Wd)(b:List Wd):List Wd:=b.map fun y=>(x++y).take k
def Wt(k:Nat)(a b:List Wd):List Wd:=a.flatMap fun x=>Vg k x (Ia k x b)
theorem nZ{k:Nat}{x:Wd}{b:List Wd}{z:Wd}:z∈Vg k x (Ia k x b)↔∃ y∈b,z=(x++y).take k:=by
 unfold Vg Ia;rw[Xa];split
 ·rename_i h;obtain⟨h1,h2⟩:=h;have ht:∀ y:Wd,(x++y).take k=x.take k:=fun y=>List.take_append_of_le_length h1;constructor
  ·rintro⟨y,hy,rfl⟩;exact⟨y,List.mem_of_mem_take hy,rfl⟩
  ·rintro⟨y,_,rfl⟩
   match b,h2 with
   |z::b,_=>exact⟨z,by simp,by rw[ht,ht]⟩
 ·constructor
  ·rintro⟨y,hy,rfl⟩;exact⟨y,hy,rfl⟩
  ·rintro⟨y,hy,rfl⟩;exact⟨y,hy,rfl⟩
theorem Ah{k:Nat}{a b:List Wd}{z:Wd}:z∈Wt k a b↔z∈Tp k a b:=by
 rw[Dz];unfold Wt;rw[Xt];constructor
 ·rintro⟨x,hx,h⟩;obtain⟨y,hy,rfl⟩:=nZ.1 h;exact⟨x,hx,y,hy,rfl⟩
 ·rintro⟨x,hx,y,hy,rfl⟩;exact⟨x,hx,nZ.2 ⟨y,hy,rfl⟩⟩
theorem xN{k:Nat}{a b:List Wd}{i:Nat}(h:i<a.length):Wt k (a.take (i+1)) b=Wt k (a.take i) b++Vg k a[i] (Ia k a[i] b):=by
 unfold Wt;rw[Qc h,List.flatMap_append];simp
def Ri(L P:List Wd):Prop:=L.Nodup/\∀ z,z∈L↔z∈P
theorem Ri.put{L P:List Wd}(h:Ri L P)(x:Wd):Ri (dN L x) (P++[x]):=by
 refine⟨?_,fun z=>by rw[iY,h.2,Qh,Qi]⟩;unfold dN;split
 ·exact h.1
 ·rename_i hn;rw[List.nodup_append];exact⟨h.1,by simp,fun a ha b hb e=>by rw[Qi] at hb;subst e hb;exact hn ha⟩
theorem Ri.over{L P:List Wd}(h:Ri L P){k:Int}{a b:List Wd}(hs:∀ z∈P,z∈Tp k a b)(hl:4096<L.length):Eb k a b=none:=by
 unfold Eb;rw[if_neg];have:=h.1.length_le_of_subset (fun z hz=>Dw.2 (hs z ((h.2 z).1 hz)):L ⊆ Uy (Tp k a b));omega
theorem Ri.full{L P:List Wd}(h:Ri L P){k:Int}{a b:List Wd}(hs:∀ z,z∈P↔z∈Tp k a b)(hl:L.length<=4096):Eb k a b=some (Uy L):=by
 have e:Uy L=Uy (Tp k a b):=ma fun z=>(h.2 z).trans (hs z);unfold Eb;rw[<-e,if_pos (Ya (rR L) hl)]
def zeA(w:World)(o:Option (List Wd))(e:Ending)(w':World):Prop :=
 Below w.heap.size w w'/\match o with
 |none=>e=.returned (.tuple #[.slice none 0 0,.bool false])
 |some l=>∃ v,e=.returned (.tuple #[v,.bool true])/\w'.ownsRow w.heap.size 9 1 v l.length (Zp l)
theorem rJ{α:Type}{l:List α}{j:Nat}(h:l.length<=j):l.take j=l:=Qd h
theorem aQ(k:Nat)(x:Wd)(b:List Wd):(Vg k x b).length=b.length:=by simp[Vg]
theorem dW{α:Type}(l:List α){j:Nat}(h:j<l.length):l.take (j+1)=l.take j++[l[j]]:=Qc h
theorem oS{w w':World}{g S O C B0:Nat}{L:List Wd}{N:Nat}(h:bZ w g S O C B0 L N)(hb:Below w.heap.size w w'):bZ w' g S O C B0 L N:=by
 obtain⟨l,hm,hs⟩:=h.map;obtain⟨v,ho,hown⟩:=h.o;obtain⟨l1,l2,l3,l4,l5,l6,l7,l8,l9,l10⟩:=h.le;exact⟨⟨l,hm.below hb hm.lt,hs⟩,(hb.block S (by omega)).trans h.seen,⟨v,(hb.block O (by omega)).trans ho,Jk hown hb⟩,l1,l2,l3,l4,l5,l6,l7,l8,l9,Ya l10 hb.size⟩
theorem aJ(k:Nat)(A B:Option Addr)(ca cb:Nat)(a b:List Wd)(w:World)(jH:1<=k)(oJ:k<=4)(ha:Jb eW w w.heap.size (.slice A a.length ca) a)(hb:Jb eW w w.heap.size (.slice B b.length cb) b)(sa:da a)(sb:da b)(hN:a.length*b.length<=1152921504606846000) :
  Calls Tryz.prog 147 #[.int .i64 k,.slice A a.length ca,.slice B b.length cb] w (zeA w (Eb k a b)):=by
 have hna:=ha.n_le;have kc:=hb.n_le;have HA:=Lh ha;have HB:=Lh hb;have ug:=Lh sa;have pA:=Lh sb;have bY:=Lh hN;obtain⟨na,hla⟩:∃ n,n=a.length:=⟨_,rfl⟩;obtain⟨nb,hlb⟩:∃ n,n=b.length:=⟨_,rfl⟩;rw[<-hla] at HA hna |-;rw[<-hlb] at HB kc |-;have HLA:=Lh hla;have HLB:=Lh hlb;clear ha hb sa sb hN hla hlb;have pu:=@run_makeMap Tryz.prog;go_enter Tryz.func147,Tryz.ntmps147;go_wp2_with fail;have HS1:=Lh (show bZ (((w.alloc (.map #[] 0)).alloc (.cells #[.map (some w.heap.size)] 147)).alloc (.cells #[.slice none 0 0] 22)) w.heap.size (w.heap.size+1) (w.heap.size+1+1) w.heap.size (w.heap.size+3) [] 0 by
  have z1:((w.alloc (.map #[] 0)).alloc (.cells #[.map (some w.heap.size)] 147)).heap.size=w.heap.size+1+1:=by rw[Xs,Xs]
  refine⟨⟨[],((Uo.made w).alloc _).alloc _,Lz.nil⟩,?_,⟨_,by rw[<-z1];exact Xn _ _,Yx _ _ _ _⟩,by omega,by omega,by omega,by omega,by omega,by omega,by omega,by omega,by omega,by rw[Xs,z1];omega⟩
  rw[Zc _ _ _ (by rw[z1];omega)]
  have:=Xn (w.alloc (.map #[] 0)) (.cells #[.map (some w.heap.size)] 147)
  rw[Xs] at this
  exact this)
 have HB1:=Lh (((((Xr w.heap.size w).alloc (Xz _) (.map #[] 0)).alloc (by rw[Xs];omega) (.cells #[.map (some w.heap.size)] 147)).alloc (by rw[Xs,Xs];omega) (.cells #[.slice none 0 0] 22)));generalize hw1:((w.alloc (.map #[] 0)).alloc (.cells #[.map (some w.heap.size)] 147)).alloc (.cells #[.slice none 0 0] 22)=w1 at *;clear hw1 pu;go_loopw [20] (fun v20 wr=>∃(i N:Nat)(L:List Wd),i<=na/\v20=.int .i64 i/\Hid (bZ wr w.heap.size (w.heap.size+1) (w.heap.size+1+1) w.heap.size (w.heap.size+3) L N)/\Hid (Ri L (Wt k (a.take i) b))/\Hid (L.length<=4096)/\Hid (N<=i*nb)/\Hid (Below w.heap.size w wr)) (fun v20 _=>na - (intOf v20).toNat);exact⟨0,0,[],by omega,rfl,HS1.o,⟨by simp,by simp[Wt]⟩,(by simp:([]:List Wd).length<=4096),Ye _,HB1.o⟩;clear HS1 HB1;obtain⟨i,N,L,hi,rfl,HST,pU,HL,HNI,HBR⟩:=hrel;by_cases Jo:i<na
 ·have Nq:i<a.length:=by rw[<-HLA.o];exact Jo
  obtain⟨b1,o1,rfl,_,hb1,hc1⟩:=(HA.o.below HBR.o).wd Nq;have HXP:=Lh (xN (k:=k) (b:=b) Nq);have HXM:=Lh (Qg Nq);obtain⟨x,hx⟩:=Xe (a[i]);rw[<-hx] at hc1 HXP HXM;clear hx Nq;have qP:=Lh (ug.o x HXM.o);have Fd:(⟨x.toArray⟩:ByteArray).size=x.length:=Sf x;by_cases qc:k<=x.length/\0<nb
  ·obtain⟨hge,Dh⟩:=qc;obtain⟨b0,o0,rfl,_,_,_⟩:=HB.o.wd (k:=0) (by rw[<-HLB.o];exact Dh);have Ch:=Lh (HB.o.take_ 1 (n':=1) (by rw[Qq,<-HLB.o];omega));have HXR:=Lh (show Vg k x (b.take 1)=Vg k x (Ia k x b) by unfold Ia;rw[if_pos ⟨hge,by rw[<-HLB.o];exact Dh⟩]);have HRL:=Lh (show 1=(b.take 1).length by rw[Qq,<-HLB.o];omega);have qqH:Hid (∀ y∈b.take 1,y∈b):=fun y hy=>List.mem_of_mem_take hy;have qiJ:Hid (1<=nb):=Dh;go_wp2_with fail;have HP0:=Lh (show Ri L (Wt k (a.take i) b++(Vg k x (b.take 1)).take 0) by rw[List.take_zero,List.append_nil];exact pU.o);have HN0:=Lh (show N<=i*nb+0 by rw[Yo];exact HNI.o);clear pU HNI;go_loopw [38] (fun v38 wt=>∃(j N:Nat)(L:List Wd),j<=1/\v38=.int .i64 j/\Hid (bZ wt w.heap.size (w.heap.size+1) (w.heap.size+1+1) w.heap.size (w.heap.size+3) L N)/\Hid (Ri L (Wt k (a.take i) b++(Vg k x (b.take 1)).take j))/\Hid (L.length<=4096)/\Hid (N<=i*nb+j)/\Hid (Below w.heap.size w wt)) (fun v38 _=>1 - (intOf v38).toNat);exact⟨0,N,L,by omega,rfl,HST.o,HP0.o,HL.o,HN0.o,HBR.o⟩;clear HST HP0 HL HN0 HBR;obtain⟨j,N,L,hj,rfl,HST,pU,HL,HNJ,HBR⟩:=hrel;by_cases fu:j<1
   ·have Uh:j<(b.take 1).length:=by rw[<-HRL.o];exact fu
    obtain⟨b2,o2,eB,_,Zy,hc2⟩:=(Ch.o.below HBR.o).wd Uh;injection eB with eB;injection eB with e1 e2;subst e1 e2;have HPS:=Lh (show (Vg k x (b.take 1)).take (j+1)=(Vg k x (b.take 1)).take j++[(x++(b.take 1)[j]).take k] by rw[dW _ (by unfold Vg;rw[Qk];exact Uh)];simp[Vg]);have HYM:Hid ((b.take 1)[j]∈b):=qqH.o _ (Qg Uh);obtain⟨y,hy⟩:=Xe ((b.take 1)[j]);rw[<-hy] at hc2 HPS HYM;clear Uh hy;have HSY:=Lh (pA.o y HYM.o);have HNB:=Lh (show N<=1152921504606846976 by
     have e1:=HNJ.o
     have e2:(i+1)*nb<=na*nb:=Nat.mul_le_mul_right nb (by omega)
     have e3:=bY.o
     rw[<-HLA.o,<-HLB.o] at e3
     rw[Nat.add_mul,Nat.one_mul] at e2
     have e4:=qiJ.o
     omega)
    go_wp2_with fail;have HCA:=Lh ((Xr _ _).alloc (Xz _) (.cells #[wv x,wv y] 9):Below wr.heap.size wr _);have HCS:=Lh (Xn wr (.cells #[wv x,wv y] 9));have HCZ:=Lh (Xs wr (.cells #[wv x,wv y] 9));generalize ka:wr.alloc (.cells #[wv x,wv y] 9)=w3 at *;clear ka;have Uv:Jb eW w3 w3.heap.size (.slice (some ⟨wr.heap.size,0,none⟩) 2 2) [x,y]:=In (xs:=[x,y]) (fun z hz=>by
     have:=qP.o;have:=HSY.o
     rw[List.mem_cons,Qi] at hz
     unfold maxLen
     rcases hz with rfl | rfl <;> omega) (Rd.row HCS.o (by rw[HCZ.o];omega)) (Xz _) (by unfold maxLen;omega)
    refine (nD x y k _ 2 w3 jH (by omega) (by have:=qP.o;have:=HSY.o;omega) Uv).mono ?_;rintro e w4 ⟨rfl,rfl⟩;have vZ:=Lh (oS HST.o HCA.o);have dU:=Lh (HBR.o.trans (HCA.o.mono HBR.o.size));obtain⟨z,hz⟩:=Xe ((x++y).take k);rw[<-hz] at HPS |-;have HZ:=Lh hz;clear Uv HCA HCS HCZ HST HBR hz;go_wp2_with fail;refine (uV _ _ _ _ _ _ L N z vZ.o HL.o HNB.o).mono ?_;rintro e w5 ⟨rfl,qmY,hb5⟩;have qqI:=Lh qmY;have qqV:=Lh (dU.o.trans hb5);have qaA:=Lh (show Ri (dN L z) (Wt k (a.take i) b++(Vg k x (b.take 1)).take (j+1)) by rw[HPS.o,<-Xd];exact pU.o.put z);clear qmY hb5 vZ dU HPS pU;obtain⟨M,hM⟩:=Xe (dN L z);rw[<-hM] at qqI qaA |-;clear hM;by_cases h4:M.length<=4096
    ·rw[Yt h4];have H4:=Lh h4;clear h4;go_wp2_with fail;exact⟨⟨j+1,N+1,M,by omega,by go_num,qqI.o,qaA.o,H4.o,(show N+1<=i*nb+(j+1) by have:=HNJ.o;omega),qqV.o⟩,by simp[intOf];omega⟩
    ·rw[Yu h4];have HOV:=Lh (show Eb (k:Int) a b=none from qaA.o.over (fun q hq=>by
      rw[Qh] at hq
      rcases hq with hq | hq
      ·obtain⟨p,hp,q',hq',rfl⟩:=Dz.1 (Ah.1 hq)
       exact Dz.2 ⟨p,List.mem_of_mem_take hp,q',hq',rfl⟩
      ·have:=List.mem_of_mem_take hq
       obtain⟨y',hy',rfl⟩:=Xa.1 this
       exact Dz.2 ⟨x,HXM.o,y',qqH.o y' hy',by simp⟩) (by omega))
     clear h4;go_wp2_with fail
     go_ret2
     exact⟨qqV.o,by rw[HOV.o];rfl⟩
   ·have py:j=1:=by omega
    have qqK:=Lh (show Ri L (Wt k (a.take (i+1)) b) by
     have:=pU.o
     rw[rJ (l:=Vg k x (b.take 1)) (by rw[aQ,py];exact Yh HRL.o.symm),HXR.o,<-HXP.o] at this
     exact this)
    have HNE:=Lh (show N<=(i+1)*nb by have:=HNJ.o;have:=qiJ.o;rw[Nat.add_mul,Nat.one_mul];omega);clear py pU;go_wp2_with fail;exact⟨⟨i+1,N,L,by omega,by go_num,HST.o,qqK.o,HL.o,HNE.o,HBR.o⟩,by simp[intOf];omega⟩
  ·have HXR:=Lh (show Vg k x b=Vg k x (Ia k x b) by unfold Ia;rw[if_neg (by rw[<-HLB.o];exact qc)]);have Ch:=HB;have HRL:=HLB;have qqH:Hid (∀ y∈b,y∈b):=fun y hy=>hy;have qiJ:Hid (nb<=nb):=Xz _;by_cases hge:k<=x.length
   ·have Dh:¬ 0<nb:=fun h=>qc ⟨hge,h⟩;clear qc;go_wp2_with fail;have HP0:=Lh (show Ri L (Wt k (a.take i) b++(Vg k x b).take 0) by rw[List.take_zero,List.append_nil];exact pU.o);have HN0:=Lh (show N<=i*nb+0 by rw[Yo];exact HNI.o);clear pU HNI;go_loopw [38] (fun v38 wt=>∃(j N:Nat)(L:List Wd),j<=nb/\v38=.int .i64 j/\Hid (bZ wt w.heap.size (w.heap.size+1) (w.heap.size+1+1) w.heap.size (w.heap.size+3) L N)/\Hid (Ri L (Wt k (a.take i) b++(Vg k x b).take j))/\Hid (L.length<=4096)/\Hid (N<=i*nb+j)/\Hid (Below w.heap.size w wt)) (fun v38 _=>nb - (intOf v38).toNat);exact⟨0,N,L,by omega,rfl,HST.o,HP0.o,HL.o,HN0.o,HBR.o⟩;clear HST HP0 HL HN0 HBR;obtain⟨j,N,L,hj,rfl,HST,pU,HL,HNJ,HBR⟩:=hrel;by_cases fu:j<nb
    ·exact absurd (Nat.lt_of_le_of_lt (Ye _) fu) Dh
    ·have py:j=nb:=by omega
     have qqK:=Lh (show Ri L (Wt k (a.take (i+1)) b) by
      have:=pU.o
      rw[rJ (l:=Vg k x b) (by rw[aQ,py];exact Yh HRL.o.symm),HXR.o,<-HXP.o] at this
      exact this)
     have HNE:=Lh (show N<=(i+1)*nb by have:=HNJ.o;have:=qiJ.o;rw[Nat.add_mul,Nat.one_mul];omega);clear py pU;go_wp2_with fail;exact⟨⟨i+1,N,L,by omega,by go_num,HST.o,qqK.o,HL.o,HNE.o,HBR.o⟩,by simp[intOf];omega⟩
   ·clear qc;go_wp2_with fail;have HP0:=Lh (show Ri L (Wt k (a.take i) b++(Vg k x b).take 0) by rw[List.take_zero,List.append_nil];exact pU.o);have HN0:=Lh (show N<=i*nb+0 by rw[Yo];exact HNI.o);clear pU HNI;go_loopw [38] (fun v38 wt=>∃(j N:Nat)(L:List Wd),j<=nb/\v38=.int .i64 j/\Hid (bZ wt w.heap.size (w.heap.size+1) (w.heap.size+1+1) w.heap.size (w.heap.size+3) L N)/\Hid (Ri L (Wt k (a.take i) b++(Vg k x b).take j))/\Hid (L.length<=4096)/\Hid (N<=i*nb+j)/\Hid (Below w.heap.size w wt)) (fun v38 _=>nb - (intOf v38).toNat);exact⟨0,N,L,by omega,rfl,HST.o,HP0.o,HL.o,HN0.o,HBR.o⟩;clear HST HP0 HL HN0 HBR;obtain⟨j,N,L,hj,rfl,HST,pU,HL,HNJ,HBR⟩:=hrel;by_cases fu:j<nb
    ·have Uh:j<b.length:=by rw[<-HRL.o];exact fu
     obtain⟨b2,o2,eB,_,Zy,hc2⟩:=(Ch.o.below HBR.o).wd Uh;subst eB;have HPS:=Lh (show (Vg k x b).take (j+1)=(Vg k x b).take j++[(x++b[j]).take k] by rw[dW _ (by unfold Vg;rw[Qk];exact Uh)];simp[Vg]);have HYM:Hid (b[j]∈b):=qqH.o _ (Qg Uh);obtain⟨y,hy⟩:=Xe (b[j]);rw[<-hy] at hc2 HPS HYM;clear Uh hy;have HSY:=Lh (pA.o y HYM.o);have HNB:=Lh (show N<=1152921504606846976 by
      have e1:=HNJ.o
      have e2:(i+1)*nb<=na*nb:=Nat.mul_le_mul_right nb (by omega)
      have e3:=bY.o
      rw[<-HLA.o,<-HLB.o] at e3
      rw[Nat.add_mul,Nat.one_mul] at e2
      have e4:=qiJ.o
      omega)
     go_wp2_with fail;have HCA:=Lh ((Xr _ _).alloc (Xz _) (.cells #[wv x,wv y] 9):Below wr.heap.size wr _);have HCS:=Lh (Xn wr (.cells #[wv x,wv y] 9));have HCZ:=Lh (Xs wr (.cells #[wv x,wv y] 9));generalize ka:wr.alloc (.cells #[wv x,wv y] 9)=w3 at *;clear ka;have Uv:Jb eW w3 w3.heap.size (.slice (some ⟨wr.heap.size,0,none⟩) 2 2) [x,y]:=In (xs:=[x,y]) (fun z hz=>by
      have:=qP.o;have:=HSY.o
      rw[List.mem_cons,Qi] at hz
      unfold maxLen
      rcases hz with rfl | rfl <;> omega) (Rd.row HCS.o (by rw[HCZ.o];omega)) (Xz _) (by unfold maxLen;omega)
     refine (nD x y k _ 2 w3 jH (by omega) (by have:=qP.o;have:=HSY.o;omega) Uv).mono ?_;rintro e w4 ⟨rfl,rfl⟩;have vZ:=Lh (oS HST.o HCA.o);have dU:=Lh (HBR.o.trans (HCA.o.mono HBR.o.size));obtain⟨z,hz⟩:=Xe ((x++y).take k);rw[<-hz] at HPS |-;have HZ:=Lh hz;clear Uv HCA HCS HCZ HST HBR hz;go_wp2_with fail;refine (uV _ _ _ _ _ _ L N z vZ.o HL.o HNB.o).mono ?_;rintro e w5 ⟨rfl,qmY,hb5⟩;have qqI:=Lh qmY;have qqV:=Lh (dU.o.trans hb5);have qaA:=Lh (show Ri (dN L z) (Wt k (a.take i) b++(Vg k x b).take (j+1)) by rw[HPS.o,<-Xd];exact pU.o.put z);clear qmY hb5 vZ dU HPS pU;obtain⟨M,hM⟩:=Xe (dN L z);rw[<-hM] at qqI qaA |-;clear hM;by_cases h4:M.length<=4096
     ·rw[Yt h4];have H4:=Lh h4;clear h4;go_wp2_with fail;exact⟨⟨j+1,N+1,M,by omega,by go_num,qqI.o,qaA.o,H4.o,(show N+1<=i*nb+(j+1) by have:=HNJ.o;omega),qqV.o⟩,by simp[intOf];omega⟩
     ·rw[Yu h4];have HOV:=Lh (show Eb (k:Int) a b=none from qaA.o.over (fun q hq=>by
       rw[Qh] at hq
       rcases hq with hq | hq
       ·obtain⟨p,hp,q',hq',rfl⟩:=Dz.1 (Ah.1 hq)
        exact Dz.2 ⟨p,List.mem_of_mem_take hp,q',hq',rfl⟩
       ·have:=List.mem_of_mem_take hq
        obtain⟨y',hy',rfl⟩:=Xa.1 this
        exact Dz.2 ⟨x,HXM.o,y',qqH.o y' hy',by simp⟩) (by omega))
      clear h4;go_wp2_with fail
      go_ret2
      exact⟨qqV.o,by rw[HOV.o];rfl⟩
    ·have py:j=nb:=by omega
     have qqK:=Lh (show Ri L (Wt k (a.take (i+1)) b) by
      have:=pU.o
      rw[rJ (l:=Vg k x b) (by rw[aQ,py];exact Yh HRL.o.symm),HXR.o,<-HXP.o] at this
      exact this)
     have HNE:=Lh (show N<=(i+1)*nb by have:=HNJ.o;have:=qiJ.o;rw[Nat.add_mul,Nat.one_mul];omega);clear py pU;go_wp2_with fail;exact⟨⟨i+1,N,L,by omega,by go_num,HST.o,qqK.o,HL.o,HNE.o,HBR.o⟩,by simp[intOf];omega⟩
 ·have pz:i=na:=by omega
  have mZ:=Lh (show Eb (k:Int) a b=some (Uy L) by
   have:=pU.o
   rw[pz,HLA.o,Qd (Xz _)] at this
   exact this.full (fun z=>Ah) HL.o)
  obtain⟨v,ho,hown⟩:=HST.o.o;have c9:=Vo ho;obtain⟨A9,c8,rfl,_,_⟩:=Zk hown;have HFT:=Lh (show aB L from fun z hz=>by
   obtain⟨p,hp,q,hq,rfl⟩:=Dz.1 (Ah.1 ((pU.o.2 z).1 hz))
   rw[Qq]
   unfold maxLen
   simp
   omega)
  have HO:=Lh hown;clear ho hown;go_wp2_with fail;refine (qU _ _ L _ (Tz HFT.o HO.o) (by have:=HL.o;omega)).mono ?_;rintro e w5 ⟨v5,rfl,h5,hb5⟩;have HO5:=Lh (Nc h5 HBR.o.size);have HB5:=Lh (HBR.o.trans (hb5.mono HBR.o.size));obtain⟨A5,c5,rfl,_,_⟩:=Zk h5;clear h5 hb5;go_wp2_with fail
  go_ret2
  refine⟨HB5.o,?_⟩;rw[mZ.o];exact⟨_,rfl,HO5.o⟩
def zcD(w:World)(o:Option (List Wd))(e:Ending)(w':World):Prop :=
 Below w.heap.size w w'/\match o with
 |none=>∃ v,e=.returned (.tuple #[v,.bool false])
 |some x=>∃ A c,e=.returned (.tuple #[.slice A x.length c,.bool true])/\Jb eW w' w'.heap.size (.slice A x.length c) x
theorem qtQ(A:Option Addr)(c:Nat)(ss:Zu)(s:Int)(w:World)(h:Jb (Ro eW) w w.heap.size (.slice A ss.length c) ss)(h1:-9223372036854775808<=s)(h2:s<=9223372036854775807) :
  Calls Tryz.prog 219 #[.slice A ss.length c,.int .i64 s] w (zcD w (Rn ss s)):=by
 have HH:=Lh h;have hn:=h.n_le;obtain⟨n,hl⟩:=Xe ss.length;rw[<-hl] at HH hn |-;have HL:=Lh hl;clear h hl;by_cases hs:s<0
 ·have hd:decide (s<0)=true:=by simpa using hs
  have Zj:(Value.int .u8 ((-1 - s)%256))=sq (tb s):=by
   unfold sq tb;rw[UInt8.toNat_ofNat'];congr 1;omega
  have hcv:(convert 114 9 (.slice (some ⟨w.heap.size,0,none⟩) 1 1)).run Tryz.prog (w.alloc (.cells #[.int .u8 ((-1 - s)%256)] 5))=.ok (wv [tb s]) (w.alloc (.cells #[.int .u8 ((-1 - s)%256)] 5)):=by
   rw[Zj];exact O_ (l:=[tb s]) (B:=w.heap.size+1) (Rd.row (Xn w _) (by omega)) Tryz.underlying114 Tryz.underlying5 Tryz.underlying9 1 rfl 1
  clear Zj;by_cases hm:-256<=s
  ·have hmd:decide (-256<=s)=true:=by simpa using hm
   rw[show (-1 - s)%256=-1 - s by omega] at hcv;have HO:=Lh (show Rn ss s=some [[tb s]] by unfold Rn;rw[if_pos hs,if_pos hm]);go_enter Tryz.func219,Tryz.ntmps219;go_wp2_with fail;refine (Zz s w).mono ?_;rintro e w1 ⟨rfl,rfl⟩;go_wp2_with fail
   go_ret2
   refine⟨by go_grown,?_⟩;rw[HO.o];refine⟨_,_,rfl,In (xs:=[[tb s]]) (fun x hx=>by rw[Qi] at hx;subst hx;unfold maxLen;simp) (Rd.row (Fo w _ _) (by rw[Xs,Xs];omega)) (Xz _) (by unfold maxLen;omega)⟩
  ·have hmd:decide (-256<=s)=false:=by simpa using hm
   have HO:=Lh (show Rn ss s=none by unfold Rn;rw[if_pos hs,if_neg hm]);go_enter Tryz.func219,Tryz.ntmps219;go_wp2_with fail;refine (Zz s w).mono ?_;rintro e w1 ⟨rfl,rfl⟩;go_wp2_with fail
   go_ret2
   refine⟨by go_grown,?_⟩;rw[HO.o];exact⟨_,rfl⟩
 ·have hd:decide (s<0)=false:=by simpa using hs
  obtain⟨k,rfl⟩:∃ k:Nat,s=(k:Int):=⟨s.toNat,by omega⟩;by_cases hk:k<n
  ·have oK:k<ss.length:=by rw[<-HL.o];exact hk
   have HO:=Lh (show Rn ss (k:Int)=some ss[k] by unfold Rn;rw[if_neg (by omega)];exact Qa oK);obtain⟨b,off,A2,c2,rfl,_,cX,Zj,Uv,h5,h6⟩:=HH.o.row1 oK;have HSL:=Lh Uv;obtain⟨x,hx⟩:=Xe (ss[k]);rw[<-hx] at Zj HSL HO;clear Uv h5 hx oK;go_enter Tryz.func219,Tryz.ntmps219;go_wp2_with fail;refine (Zz _ w).mono ?_;rintro e w1 ⟨rfl,rfl⟩;rw[hd];go_wp2_with fail
   go_ret2
   refine⟨Xr _ _,?_⟩;rw[HO.o];exact⟨_,_,rfl,HSL.o⟩
  ·have HO:=Lh (show Rn ss (k:Int)=none by unfold Rn;rw[if_neg (by omega)];exact Xf (by rw[<-HL.o];omega));go_enter Tryz.func219,Tryz.ntmps219;go_wp2_with fail;refine (Zz _ w).mono ?_;rintro e w1 ⟨rfl,rfl⟩;rw[hd];go_wp2_with fail
   go_ret2
   refine⟨Xr _ _,?_⟩;rw[HO.o];exact⟨_,rfl⟩
def qcG(ss:Zu):Prop:=∀(i:Nat)(x:List Wd),ss[i]? = some x->da x/\x.length<=1099511627776
theorem oe{sets:Zu}{k:Int}{acc:List Wd}{s:Int}{l:List Int}:Ng sets k acc (s::l)=(Rn sets s).bind fun x=>(Eb k acc x).bind fun o=>Ng sets k o l:=rfl
theorem qhN{α:Type}(l:List α){i:Nat}(h:i<l.length):l.drop i=l[i]::l.drop (i+1):=Ql h
theorem d_{k:Nat}(hk:k<=4){a b o:List Wd}(h:Eb k a b=some o):da o/\o.length<=4096:=by
 refine⟨fun z hz=>?_,?_⟩
 ·obtain⟨x,_,y,_,rfl⟩:=(Fm h).1 hz;rw[Qq];simp;omega
 ·unfold Eb at h;split at h
  ·injection h with h;subst h;assumption
  ·cases h
theorem yh{ss:Zu}(h:qcG ss){s:Int}{x:List Wd}(hx:Rn ss s=some x):da x/\x.length<=1099511627776:=by
 unfold Rn at hx;split at hx
 ·split at hx
  ·injection hx with hx;subst hx;exact⟨fun z hz=>by rw[Qi] at hz;subst hz;simp,by simp⟩
  ·cases hx
 ·exact h _ _ hx
def zjZ(w:World)(o:Option (List Wd))(e:Ending)(w':World):Prop :=
 Below w.heap.size w w'/\match o with
 |none=>e=.returned (.tuple #[.slice none 0 0,.bool false])
 |some x=>∃ A c,e=.returned (.tuple #[.slice A x.length c,.bool true])/\Jb eW w' w'.heap.size (.slice A x.length c) x
theorem oP(A B:Option Addr)(c d k:Nat)(ss:Zu)(syms:List Int)(w:World)(jH:1<=k)(oJ:k<=4)(h:Jb (Ro eW) w w.heap.size (.slice A ss.length c) ss)(hs:Jb Vh w w.heap.size (.slice B syms.length d) syms)(hz:qcG ss) :
  Calls Tryz.prog 146 #[.slice A ss.length c,.int .i64 k,.slice B syms.length d] w (zjZ w (lM ss k syms)):=by
 have HH:=Lh h;have HS:=Lh hs;have HZ:=Lh hz;have hn:=h.n_le;have hm:=hs.n_le;obtain⟨n,hl⟩:=Xe ss.length;obtain⟨m,Pj⟩:∃ n,n=syms.length:=⟨_,rfl⟩;rw[<-hl] at HH hn |-;rw[<-Pj] at HS hm |-;have HL:=Lh hl;have HL2:=Lh Pj;clear h hl hs Pj hz;obtain⟨o,ho⟩:=Xe (lM ss k syms);rw[<-ho];have HO:=Lh ho;clear ho;go_enter Tryz.func146,Tryz.ntmps146;go_wp2_with fail;have HB1:=Lh ((Xr w.heap.size w).alloc (Xz _) (.cells #[.string ⟨#[]⟩] 9));have HS1:Hid (Jb eW (w.alloc (.cells #[.string ⟨#[]⟩] 9)) (w.alloc (.cells #[.string ⟨#[]⟩] 9)).heap.size (.slice (some ⟨w.heap.size,0,none⟩) 1 1) [[]]):=In (xs:=[[]]) (fun x hx=>by rw[Qi] at hx;subst hx;unfold maxLen;simp) (Rd.row (Xn w _) (by rw[Xs];omega)) (Xz _) (by unfold maxLen;omega);generalize w.alloc (.cells #[.string ⟨#[]⟩] 9)=w1 at *;go_loopw [16,8] (fun kr v8 wr=>∃(i q:Nat)(acc:List Wd)(A8:Option Addr)(c8:Nat),i<=m/\kr=.int .i64 i/\v8=.slice A8 q c8/\Hid (q=acc.length)/\Hid (o=Ng ss k acc (syms.drop i))/\Hid (Jb eW wr wr.heap.size (.slice A8 acc.length c8) acc)/\Hid (da acc/\acc.length<=4096)/\Hid (Below w.heap.size w wr)) (fun kr _ _=>m - (intOf kr).toNat);exact⟨0,1,[[]],_,1,by omega,rfl,rfl,rfl,HO.o,HS1.o,⟨fun x hx=>by rw[Qi] at hx;subst hx;simp,by simp⟩,HB1.o⟩;clear HS1 HB1;obtain⟨i,q,acc,A8,c8,hi,rfl,rfl,HQ,mY,ug,HSH,HBR⟩:=hrel;by_cases Jo:i<m
 ·have Nq:i<syms.length:=by rw[<-HL2.o];exact Jo
  obtain⟨b,off,cs,rfl,_,cX,Zt,Zj⟩:=(HS.o.below HBR.o).get (k:=i) Nq (by decide);obtain⟨rfl,Ta,Hn⟩:=Zt;have Vi:=Zj 0 _ rfl;simp only[show Vh.size=1 from rfl,Yq,Yo] at Vi;have HD:=Lh (qhN syms Nq);obtain⟨s,hse⟩:=Xe (syms[i]);rw[<-hse] at Vi Ta Hn HD;clear Zj hse Nq;have zdC:=Lh (show o=(Rn ss s).bind fun x=>(Eb k acc x).bind fun o=>Ng ss k o (syms.drop (i+1)) by rw[mY.o,HD.o,oe]);clear mY HD;go_wp2_with fail;have xW:=qtQ A c ss s wr (by rw[<-HL.o];exact HH.o.next HBR.o HBR.o.size) Ta Hn;rw[<-HL.o] at xW;refine xW.mono ?_;rintro e w2 ⟨Zy,he⟩;have HB2:=Lh (HBR.o.trans (Zy.mono HBR.o.size));have zvV:=Lh (ug.o.next Zy Zy.size);cases h1:Rn ss s with
  |none =>
   rw[h1] at he;obtain⟨v,rfl⟩:=he;have HN:=Lh (show o=none by rw[zdC.o,h1];rfl);clear h1 Zy xW;go_wp2_with fail
   go_ret2
   refine⟨HB2.o,?_⟩;rw[HN.o];rfl
  |some x =>
   rw[h1] at he;obtain⟨A3,c3,rfl,Ld⟩:=he;have qQ:=Lh (yh HZ.o h1);have zdB:=Lh (show o=(Eb k acc x).bind fun o=>Ng ss k o (syms.drop (i+1)) by rw[zdC.o,h1];rfl);have qP:=Lh Ld;obtain⟨r,hr⟩:=Xe x.length;rw[<-hr];have HR:=Lh hr;clear h1 Zy xW Ld zdC hr;go_wp2_with fail;have pL:=aJ k A8 A3 c8 c3 acc x w2 jH oJ zvV.o qP.o HSH.o.1 qQ.o.1 (by
    have e1:=HSH.o.2;have e2:=qQ.o.2
    exact Ya (Nat.mul_le_mul e1 e2) (by decide))
   rw[<-HQ.o,<-HR.o] at pL;refine pL.mono ?_;rintro e w3 ⟨hb3,he⟩;have HB3:=Lh (HB2.o.trans (hb3.mono HB2.o.size));cases h2:Eb (k:Int) acc x with
   |none =>
    rw[h2] at he;subst he;have HN:=Lh (show o=none by rw[zdB.o,h2];rfl);clear h2 hb3 pL;go_wp2_with fail
    go_ret2
    refine⟨HB3.o,?_⟩;rw[HN.o];rfl
   |some z =>
    rw[h2] at he;obtain⟨v,rfl,hown⟩:=he;have HZ2:=Lh (d_ oJ h2);have zwH:=Lh (show o=Ng ss k z (syms.drop (i+1)) by rw[zdB.o,h2];rfl);have qO:=Lh (Tz (fun y hy=>by have:=HZ2.o.1 y hy;unfold maxLen;omega) hown);obtain⟨A9,c9,rfl,_,_⟩:=Zk hown;obtain⟨t,ht⟩:=Xe z.length;have HT:=Lh ht;rw[<-ht];clear h2 hb3 pL hown zdB ht;go_wp2_with fail;exact⟨⟨i+1,t,z,A9,c9,by omega,by go_num,rfl,HT.o,zwH.o,qO.o,HZ2.o,HB3.o⟩,by simp[intOf];omega⟩
 ·have pz:i=m:=by omega
  have Up:=Lh (show o=some acc by rw[mY.o,pz,HL2.o,List.drop_length];rfl);clear mY pz;go_wp2_with fail
  go_ret2
  refine⟨HBR.o,?_⟩;rw[Up.o];refine⟨A8,c8,?_,ug.o⟩;rw[HQ.o];rfl
structure Tl where
 E:Nat->Nat->Nat->Bool
 F:Nat->Nat->Bool
def zqI(w:Wd)(s:Int)(p:Nat):Bool:=decide (p<w.length)&&decide (((w.getD p 0).toNat:Int)=-1 - s)
def zgA(w:Wd)(E:Nat->Nat->Nat->Bool)(s:Int)(p q:Nat):Bool:=if s<0 then zqI w s p&&decide (q=p+1) else decide (p<=q)&&E s.toNat p q
def qzU(w:Wd)(E:Nat->Nat->Nat->Bool)(s:Int)(now:List Bool)(P:Nat):List Bool:=(List.range (w.length+1)).map fun q=>(List.range P).any fun p=>now.getD p false&&zgA w E s p q
def qxI(w:Wd)(E:Nat->Nat->Nat->Bool)(now:List Bool)(s:Int):List Bool:=qzU w E s now (w.length+1)
def qxH(n at_:Nat):List Bool:=(List.replicate (n+1) false).set at_ true
def qbW(w:Wd)(E:Nat->Nat->Nat->Bool)(right:List Int)(at_:Nat):List Bool:=right.foldl (qxI w E) (qxH w.length at_)
def vD(w:Wd)(T:Tl):List Bool->List Int->Bool
 |now,[]=>now.getD w.length false
 |now,s::l=>now.getD w.length false||((decide (0<=s)&&(List.range (w.length+1)).any fun p=>now.getD p false&&T.F s.toNat p)||vD w T (qxI w T.E now s) l)
def qK(w:Wd)(T:Tl)(right:List Int)(at_:Nat):Bool:=vD w T (qxH w.length at_) right
def zpZ(T:Tl)(a p:Nat)(ends:List Bool)(m:Nat):Tl:=⟨fun a' p' q=>T.E a' p' q||(decide (a'=a)&&decide (p'=p)&&decide (q<m)&&ends.getD q false),T.F⟩
def zpY(T:Tl)(a p:Nat):Tl:=⟨T.E,fun a' p'=>T.F a' p'||(decide (a'=a)&&decide (p'=p))⟩
def zqD(T:Tl)(a p:Nat)(ends:List Bool)(m:Nat):Bool:=(List.range m).any fun q=>ends.getD q false&&!T.E a p q
def qzT(w:Wd)(r:Int×List Int)(t:Tl×Bool)(p:Nat):Tl×Bool :=
 let ends:=qbW w t.1.E r.2 p
 let T1:=zpZ t.1 r.1.toNat p ends (w.length+1)
 let m1:=t.2||zqD t.1 r.1.toNat p ends (w.length+1)
 if T1.F r.1.toNat p=false/\qK w T1 r.2 p=true then (zpY T1 r.1.toNat p,true) else (T1,m1)
def zfN(w:Wd)(t:Tl×Bool)(r:Int×List Int):Tl×Bool:=(List.range (w.length+1)).foldl (qzT w r) t
def zfR(w:Wd)(rs:Zq)(T:Tl):Option (Tl×Bool):=some (rs.foldl (zfN w) (T,false))
def qkL(w:Wd)(n:Nat):Tl:=⟨fun _ _ _=>false,fun a p=>decide (a<n)&&decide (p=w.length)⟩
def jbN(w:Wd)(rs:Zq)(n:Nat)(T:Tl):Prop:=RoundsTo (zfR w rs) (qkL w n) (some T)
def qbX(w:Wd)(T:Tl)(k:Int)(right:List Int)(fol:Nat->Bool)(at_:Nat):Bool :=
 (decide ((w.length:Int)=k)&&qK w T right at_)||(List.range (w.length+1)).any fun q=>(qbW w T.E right at_).getD q false&&fol q
def zqA(O:Nat->Nat->Bool)(a p:Nat):Nat->Nat->Bool:=fun a' p'=>O a' p'||(decide (a'=a)&&decide (p'=p))
def zuI(w:Wd)(T:Tl)(k:Int)(a:Nat)(left:Int)(right:List Int)(o:(Nat->Nat->Bool)×Bool)(p:Nat):(Nat->Nat->Bool)×Bool :=
 if o.1 a p=false/\qbX w T k right (o.1 left.toNat) p=true then (zqA o.1 a p,true) else o
def zuG(w:Wd)(T:Tl)(k:Int)(r:Int×List Int)(o:(Nat->Nat->Bool)×Bool)(s:Nat):(Nat->Nat->Bool)×Bool :=
 if r.2.getD s 0<0 then o else (List.range (w.length+1)).foldl (zuI w T k (r.2.getD s 0).toNat r.1 (r.2.drop (s+1))) o
def zuH(w:Wd)(T:Tl)(k:Int)(o:(Nat->Nat->Bool)×Bool)(r:Int×List Int):(Nat->Nat->Bool)×Bool:=(List.range r.2.length).foldl (zuG w T k r) o
def zfS(w:Wd)(T:Tl)(k:Int)(rs:Zq)(O:Nat->Nat->Bool):Option ((Nat->Nat->Bool)×Bool):=some (rs.foldl (zuH w T k) (O,false))
def qoL(w:Wd)(k:Int)(n:Nat):Nat->Nat->Bool:=fun a p=>decide (a<n)&&decide (p=w.length)&&(decide ((w.length:Int)=k)||decide (a=0))
def jdU(w:Wd)(T:Tl)(k:Int)(rs:Zq)(n:Nat)(O:Nat->Nat->Bool):Prop:=RoundsTo (zfS w T k rs) (qoL w k n) (some O)
def sub(w:Wd)(p q:Nat):Wd:=(w.drop p).take (q - p)
def jbM(rs:Zq):Prop:=∀ a r,(a,r)∈rs->∀ s∈r,-256<=s
theorem zfK{s:Int}(h1:s<0)(h2:-256<=s):((tb s).toNat:Int)=-1 - s:=by
 unfold tb;rw[UInt8.toNat_ofNat'];omega
structure zuU(rs:Zq)(w:Wd)(T:Tl):Prop where
 exact_:∀ a p q,T.E a p q=true->p<=q/\q<=w.length/\∃ r,((a:Int),r)∈rs/\Der rs r (sub w p q)
 qbT:∀ a p,T.F a p=true->p<=w.length/\∃ r u,((a:Int),r)∈rs/\Der rs r u/\w.drop p <+: u
structure zpI(rs:Zq)(w:Wd)(T:Tl):Prop where
 exact_:∀ a r,(a,r)∈rs->∀ p,p<=w.length->∀ q,q<=w.length->(qbW w T.E r p).getD q false=true->T.E a.toNat p q=true
 qbT:∀ a r,(a,r)∈rs->∀ p,p<=w.length->qK w T r p=true->T.F a.toNat p=true
def zmI(w:Wd)(r:Int×List Int)(T:Tl)(p:Nat):Prop:=(∀ q,q<=w.length->(qbW w T.E r.2 p).getD q false=true->T.E r.1.toNat p q=true)/\(qK w T r.2 p=true->T.F r.1.toNat p=true)
def Mt(w:Wd)(k:Int)(x v:Wd):Prop:=if (w.length:Int)=k then x <+: v else x=v
def zuT(rs:Zq)(w:Wd)(k:Int)(O:Nat->Nat->Bool):Prop:=∀ a p,O a p=true->p<=w.length/\∃ v,Fol rs (a:Int) v/\Mt w k (w.drop p) v
def zpJ(w:Wd)(T:Tl)(k:Int)(r:Int×List Int)(O:Nat->Nat->Bool)(s:Nat):Prop:=0<=r.2.getD s 0->∀ p,p<=w.length->qbX w T k (r.2.drop (s+1)) (O r.1.toNat) p=true->O (r.2.getD s 0).toNat p=true
abbrev Wr:=Int×Wd×Int
abbrev We:=Int×Wd×Int×Int
def Vf:Nat->Zq->Zu->List Wr
 |i,r::rs,s::ss=>s.map (fun w=>(r.1,w,(i:Int)))++Vf (i+1) rs ss
 |_,_,_=>[]
def Mh(a b:Wr):Prop:=a.1<b.1\/a.1=b.1/\a.2.1<b.2.1
def Wc(rs:Zq)(left:Int):List Nat:=(List.range rs.length).filter fun i=>decide ((rs.getD i (0,[])).1=left)
def Di(a b:List Wd):Option Wd:=(a.filter fun w=>decide (w∈b)).head?
def Hl(left:Int)(sets:Zu)(a b:Nat):List We :=
 match Di (sets.getD a []) (sets.getD b []) with
 |none=>[]
 |some w=>[(left,w,(a:Int),(b:Int))]
def Bo(left:Int)(sets:Zu):List Nat->List We
 |[]=>[]
 |a::l=>l.flatMap (Hl left sets a)++Bo left sets l
def Uk(rs:Zq)(n:Nat)(sets:Zu):List We:=(List.range n).flatMap fun left:Nat=>Bo (left:Int) sets (Wc rs left)
theorem Pd:∀(i:Nat)(rs:Zq)(ss:Zu),ss.length=rs.length->∀ x:Wr,x∈Vf i rs ss↔∃(j:Nat)(r:Int×List Int)(s:List Wd),rs[j]? = some r/\ss[j]? = some s/\x.1=r.1/\x.2.1∈s/\x.2.2=((i+j:Nat):Int)
 |i,[],[],_,x=>by simp[Vf]
 |i,r::rs,s::ss,h,x=>by
  have ih:=Pd (i+1) rs ss (by simpa using h) x;simp only[Vf,Qh,Xa];rw[ih];constructor
  ·rintro (⟨w,hw,rfl⟩ | ⟨j,r',s',h1,h2,h3,h4,h5⟩)
   ·exact⟨0,r,s,by simp,by simp,rfl,hw,by simp⟩
   ·exact⟨j+1,r',s',by simpa using h1,by simpa using h2,h3,h4,by rw[h5];congr 1;omega⟩
  ·rintro⟨j,r',s',h1,h2,h3,h4,h5⟩;cases j with
   |zero =>
    simp only[List.getElem?_cons_zero,Option.some.injEq] at h1 h2;subst h1 h2;left;exact⟨x.2.1,h4,by rw[<-h3];obtain⟨a,b,c⟩:=x;simp only at h5 |-;rw[h5];simp⟩
   |succ j =>
    right;exact⟨j,r',s',by simpa using h1,by simpa using h2,h3,h4,by rw[h5];congr 1;omega⟩
theorem So{rs:Zq}{left:Int}{i:Nat}:i∈Wc rs left↔∃ r,rs[i]? = some r/\r.1=left:=by
 unfold Wc;simp only[Qw,Xy,Yi,Qb];constructor
 ·rintro⟨h1,h2⟩;rw[Qa h1] at h2 |-;exact⟨_,rfl,h2⟩
 ·rintro⟨r,h1,h2⟩;have:=(Qj.1 h1).1;rw[h1];exact⟨this,h2⟩
theorem rV(rs:Zq)(left:Int):(Wc rs left).Pairwise (·<·):=List.Pairwise.filter _ List.pairwise_lt_range
theorem ik{a b:List Wd}{w:Wd}(h:Di a b=some w):w∈a/\w∈b:=by
 have:=List.mem_of_head? h;simpa using this
theorem il{a b:List Wd}(h:Di a b=none):∀ w,w∈a->w∉b:=by
 unfold Di at h;rw[List.head?_eq_none_iff,List.filter_eq_nil_iff] at h;intro w ha hb;exact h w ha (by simpa using hb)
theorem fU{left:Int}{sets:Zu}:∀(l:List Nat),l.Pairwise (·<·)->∀ c:We,c∈Bo left sets l↔∃ a b:Nat,a∈l/\b∈l/\a<b/\∃ w,Di (sets.getD a []) (sets.getD b [])=some w/\c=(left,w,(a:Int),(b:Int))
 |[],_,c=>by simp[Bo]
 |x::l,hp,c=>by
  obtain⟨h1,h2⟩:=Qx.1 hp;have ih:=fU (left:=left) (sets:=sets) l h2 c;simp only[Bo,Qh,Xt];rw[ih];have wJ:∀ b,c∈Hl left sets x b↔∃ w,Di (sets.getD x []) (sets.getD b [])=some w/\c=(left,w,(x:Int),(b:Int)):=by
   intro b;unfold Hl;cases Di (sets.getD x []) (sets.getD b []) with
   |none=>simp
   |some w=>simp
  constructor
  ·rintro (⟨b,hb,hc⟩ | ⟨a,b,ha,hb,Aj,h⟩)
   ·exact⟨x,b,by simp,by simp[hb],h1 b hb,(wJ b).1 hc⟩
   ·exact⟨a,b,by simp[ha],by simp[hb],Aj,h⟩
  ·rintro⟨a,b,ha,hb,Aj,h⟩;rw[List.mem_cons] at ha hb;rcases ha with rfl | ha
   ·rcases hb with rfl | hb
    ·omega
    ·exact .inl ⟨b,hb,(wJ b).2 h⟩
   ·rcases hb with rfl | hb
    ·have:=h1 a ha;omega
    ·exact .inr ⟨a,b,ha,hb,Aj,h⟩
theorem yq{rs:Zq}{n:Nat}{sets:Zu}{c:We}:c∈Uk rs n sets↔∃(a b:Nat)(ra rb:Int×List Int)(w:Wd),rs[a]? = some ra/\rs[b]? = some rb/\a<b/\ra.1=c.1/\rb.1=c.1/\0<=c.1/\c.1<n/\Di (sets.getD a []) (sets.getD b [])=some w/\c=(c.1,w,(a:Int),(b:Int)):=by
 unfold Uk;rw[Xt];constructor
 ·rintro⟨left,hl,hc⟩;obtain⟨a,b,ha,hb,Aj,w,hw,rfl⟩:=(fU _ (rV rs left) c).1 hc;obtain⟨ra,hra,ea⟩:=So.1 ha;obtain⟨rb,hrb,eb⟩:=So.1 hb;have:=Xy.1 hl;exact⟨a,b,ra,rb,w,hra,hrb,Aj,ea,eb,by simp only;omega,by simp only;omega,hw,rfl⟩
 ·rintro⟨a,b,ra,rb,w,hra,hrb,Aj,ea,eb,h0,hn,hw,e⟩;have e1:((c.1.toNat:Nat):Int)=c.1:=Int.toNat_of_nonneg h0;refine⟨c.1.toNat,Xy.2 (by omega),(fU _ (rV rs _) c).2 ⟨a,b,So.2 ⟨ra,hra,by rw[ea,e1]⟩,So.2 ⟨rb,hrb,by rw[eb,e1]⟩,Aj,w,hw,by rw[e1];exact e⟩⟩
def lvl(t:Nat):Nat->List Wd
 |0=>[[]]
 |n+1=>(lvl t n).flatMap fun w=>(List.range t).map fun c=>w++[UInt8.ofNat c]
def fC(t:Nat):Nat->List Wd
 |0=>[[]]
 |n+1=>fC t n++lvl t (n+1)
def ta(t:Nat)(w:Wd):Prop:=∀ c∈w,c.toNat<t
theorem qbF{t:Nat}(ht:t<=256):∀(n:Nat)(w:Wd),w∈lvl t n↔w.length=n/\ta t w
 |0,w=>by
  simp only[lvl,Qi,List.length_eq_zero_iff];exact⟨fun h=>⟨h,by subst h;intro c hc;cases hc⟩,fun h=>h.1⟩
 |n+1,w=>by
  have ih:=qbF ht n;simp only[lvl,Xt,Xa,Xy];constructor
  ·rintro⟨v,hv,c,hc,rfl⟩;obtain⟨h1,h2⟩:=(ih v).1 hv;refine⟨by simp[h1],fun d hd=>?_⟩;rcases Qh.1 hd with hd | hd
   ·exact h2 d hd
   ·rw[Qi] at hd;subst hd;rw[UInt8.toNat_ofNat'];omega
  ·rintro⟨h1,h2⟩;have hne:w≠[]:=by intro e;subst e;simp at h1
   refine⟨w.dropLast,(ih _).2 ⟨by rw[List.length_dropLast];omega,fun c hc=>h2 c (List.dropLast_subset w hc)⟩,(w.getLast hne).toNat,h2 _ (List.getLast_mem hne),?_⟩;rw[UInt8.ofNat_toNat,List.dropLast_concat_getLast]
theorem Pc{t:Nat}(ht:t<=256):∀(n:Nat)(w:Wd),w∈fC t n↔w.length<=n/\ta t w
 |0,w=>by
  simp only[fC,Qi,Nat.le_zero,List.length_eq_zero_iff];exact⟨fun h=>⟨h,by subst h;intro c hc;cases hc⟩,fun h=>h.1⟩
 |n+1,w=>by
  simp only[fC,Qh];rw[Pc ht n w,qbF ht (n+1) w];constructor
  ·rintro (⟨h1,h2⟩ | ⟨h1,h2⟩)
   ·exact⟨by omega,h2⟩
   ·exact⟨by omega,h2⟩
  ·rintro⟨h1,h2⟩;rcases Nat.lt_or_ge w.length (n+1) with h | h
   ·exact .inl ⟨by omega,h2⟩
   ·exact .inr ⟨by omega,h2⟩
def sy(rs:Zq)(m:Nat):Prop:=∀ a r,(a,r)∈rs->∀ s∈r,-(m:Int)<=s
theorem ri{rs:Zq}{m:Nat}(hm:m<=256)(hT:sy rs m){l:List Int}{u:Wd}(h:Der rs l u):(∀ s∈l,-(m:Int)<=s)->ta m u:=by
 induction h with
 |nil=>intro _ c hc;cases hc
 |@term s l w hs hd ih =>
  intro hl c hc;rcases List.mem_cons.1 hc with rfl | hc
  ·have:=zfK hs (by have:=hl s (by simp);omega);have h2:=hl s (by simp);omega
  ·exact ih (fun s h=>hl s (by simp[h])) c hc
 |@nont a l r u v ha hr h1 h2 ih1 ih2 =>
  intro hl c hc;rcases Qh.1 hc with hc | hc
  ·exact ih1 (hT a r hr) c hc
  ·exact ih2 (fun s h=>hl s (by simp[h])) c hc
theorem qoK{rs:Zq}{m:Nat}(hm:m<=256)(hT:sy rs m){a:Int}{v:Wd}(h:Fol rs a v):ta m v:=by
 induction h with
 |start=>intro c hc;cases hc
 |@step a r l1 b l2 u v hr e hb hd hf ih =>
  intro c hc;rcases Qh.1 hc with hc | hc
  ·exact ri hm hT hd (fun s hs=>hT a r hr s (by rw[e];simp[hs])) c hc
  ·exact ih c hc
theorem o_{rs:Zq}{m k:Nat}(hm:m<=256)(hT:sy rs m){r:Int×List Int}(hr:r∈rs){z:Wd}(h:jw rs k r z):z.length<=k/\ta m z:=by
 obtain⟨u,v,hu,hv,rfl⟩:=h;refine⟨by rw[Qq];omega,fun c hc=>?_⟩;rcases Qh.1 (List.mem_of_mem_take hc) with hc | hc
 ·exact ri hm hT hu (fun s hs=>hT r.1 r.2 hr s hs) c hc
 ·exact qoK hm hT hv c hc
def yr(rs:Zq)(ah:Nat->Bool)(a:Int):List Nat:=(List.range rs.length).filter fun i=>decide ((rs.getD i (0,[])).1=a)&&ah i
theorem fV{rs:Zq}{ah:Nat->Bool}{a:Int}{i:Nat}:i∈yr rs ah a↔∃ r,rs[i]? = some r/\r.1=a/\ah i=true:=by
 unfold yr;simp only[Qw,Xy,Yk,Yi,Qb];constructor
 ·rintro⟨h1,h2,h3⟩;rw[Qa h1] at h2 |-;exact⟨_,rfl,h2,h3⟩
 ·rintro⟨r,h1,h2,h3⟩;have:=(Qj.1 h1).1;rw[h1];exact⟨this,h2,h3⟩
def zmL(rs:Zq)(k:Nat)(ah:Wd->Nat->Bool)(w:Wd):Prop:=∀(i:Nat)(r:Int×List Int),rs[i]? = some r->(ah w i=true↔jw rs k r w)
section
variable {rs:Zq} {n m k:Nat} {sets:Zu} {ah:Wd->Nat->Bool}
theorem pZ(hm:m<=256)(hT:sy rs m)(hM:vQ rs n k sets)(hah:∀ w∈fC m k,zmL rs k ah w){x:Wr}:x∈Vf 0 rs sets↔∃ i:Nat,x.2.2=(i:Int)/\x.2.1∈fC m k/\i∈yr rs (ah x.2.1) x.1:=by
 rw[Pd 0 rs sets hM.len];constructor
 ·rintro⟨j,r,s,h1,h2,h3,h4,h5⟩;have d:=((hM.mean j r s h1 h2).2 x.2.1).1 h4;have hwd:x.2.1∈fC m k:=(Pc hm k _).2 (o_ hm hT (Qp h1) d);exact⟨j,by simpa using h5,hwd,fV.2 ⟨r,h1,h3.symm,(hah _ hwd j r h1).2 d⟩⟩
 ·rintro⟨i,h1,h2,h3⟩;obtain⟨r,g1,g2,g3⟩:=fV.1 h3;have Vq:=(Qj.1 g1).1;have s1:sets[i]? = some (sets[i]'(by rw[hM.len];exact Vq)):=Qa _;exact⟨i,r,_,g1,s1,g2.symm,((hM.mean i r _ g1 s1).2 _).2 ((hah _ h2 i r g1).1 g3),by simpa using h1⟩
end
def Wk(x:Wr):Int×Wd:=(x.1,x.2.1)
theorem qzK(a b:Wd):a<b\/a=b\/b<a:=by
 rcases List.le_total a b with h | h
 ·rcases List.le_iff_lt_or_eq.1 h with h | h
  ·exact .inl h
  ·exact .inr (.inl h)
 ·rcases List.le_iff_lt_or_eq.1 h with h | h
  ·exact .inr (.inr h)
  ·exact .inr (.inl h.symm)
theorem zG(a b:Wr):Mh a b\/Wk a=Wk b\/Mh b a:=by
 unfold Mh Wk;rcases Int.lt_trichotomy a.1 b.1 with h | h | h
 ·exact .inl (.inl h)
 ·rcases qzK a.2.1 b.2.1 with h2 | h2 | h2
  ·exact .inl (.inr ⟨h,h2⟩)
  ·exact .inr (.inl (by rw[h,h2]))
  ·exact .inr (.inr (.inr ⟨h.symm,h2⟩))
 ·exact .inr (.inr (.inl h))
theorem iP{a b:Wr}(h:Mh a b):Wk a≠Wk b:=by
 intro e;unfold Wk at e;injection e with e1 e2;rcases h with h | ⟨_,h⟩
 ·omega
 ·rw[e2] at h;exact List.lt_irrefl _ h
theorem aR{a b c:Wr}(h1:Mh a b)(h2:Mh b c):Mh a c:=by
 rcases h1 with h1 | ⟨e1,h1⟩
 ·rcases h2 with h2 | ⟨e2,_⟩
  ·exact .inl (by omega)
  ·exact .inl (by omega)
 ·rcases h2 with h2 | ⟨e2,h2⟩
  ·exact .inl (by omega)
  ·exact .inr ⟨by omega,List.lt_trans h1 h2⟩
theorem nN{a b:Wr}(h1:Mh a b):¬ Mh b a:=fun h2=>iP (aR h1 h2) rfl
theorem zE:∀(i:Nat)(rs:Zq)(ss:Zu),ss.length=rs.length->(∀(j:Nat)(x:List Wd),ss[j]? = some x->pW x)->(∀(j l:Nat)(a b:Int×List Int)(x y:List Wd),j<l->rs[j]? = some a->rs[l]? = some b->ss[j]? = some x->ss[l]? = some y->a.1=b.1->∀ w,w∈x->w∉y) ->
  (Vf i rs ss).Pairwise fun a b=>Wk a≠Wk b
 |i,[],[],_,_,_=>List.Pairwise.nil
 |i,r::rs,s::ss,hl,ha,hd=>by
  simp only[Vf];rw[List.pairwise_append];refine⟨?_,zE (i+1) rs ss (by simpa using hl) (fun j x h=>ha (j+1) x (by simpa using h)) (fun j l a b x y h h1 h2 h3 h4=>hd (j+1) (l+1) a b x y (by omega) (by simpa using h1) (by simpa using h2) (by simpa using h3) (by simpa using h4)),fun a hx b hy e=>?_⟩
  ·rw[List.pairwise_map];refine (ha 0 s (by simp)).imp fun{a b} Aj e=>?_;unfold Wk at e;injection e with _ e;simp only at e;subst e;exact List.lt_irrefl _ Aj
  ·obtain⟨w,hw,rfl⟩:=Xa.1 hx;obtain⟨j,r',s',h1,h2,h3,h4,h5⟩:=(Pd (i+1) rs ss (by simpa using hl) b).1 hy;unfold Wk at e;injection e with e1 e2;simp only at e1 e2;rw[<-e2] at h4;exact hd 0 (j+1) r r' s s' (by omega) (by simp) (by simpa using h1) (by simp) (by simpa using h2) (by rw[e1,h3]) w hw h4
theorem eI{rs:Zq}{n k:Nat}{sets:Zu}(hw:Rg rs n)(hM:vQ rs n k sets)(hc:Uk rs n sets=[]):(Vf 0 rs sets).Pairwise fun a b=>Wk a≠Wk b:=by
 refine zE 0 rs sets hM.len (fun j x h=>?_) fun j l a b x y h h1 h2 h3 h4 e w hx hy=>?_
 ·have hl:=(Qj.1 h).1;rw[hM.len] at hl;exact (hM.mean j _ x (Qa hl) h).1
 ·cases hcw:Di (sets.getD j []) (sets.getD l []) with
  |none=>exact il hcw w (by rw[Qb,h3];exact hx) (by rw[Qb,h4];exact hy)
  |some z =>
   have g:=hw a.1 a.2 (Qp h1);have:(a.1,z,(j:Int),(l:Int))∈Uk rs n sets:=yq.2 ⟨j,l,a,b,z,h1,h2,h,rfl,e.symm,g.1,g.2.1,hcw,rfl⟩;rw[hc] at this;cases this
theorem nK{l l':List Wr}(hp:l'.Perm l)(hk:l.Pairwise fun a b=>Wk a≠Wk b)(hs:l'.Pairwise fun a b=>¬ Mh b a):l'.Pairwise Mh:=by
 have oK:l'.Pairwise fun a b=>Wk a≠Wk b:=(hp.pairwise_iff (fun h=>h.symm)).2 hk;exact (hs.and oK).imp fun{a b} ⟨h1,h2⟩=>by
  rcases zG a b with h | h | h
  ·exact h
  ·exact absurd h h2
  ·exact absurd h h1
section
variable {rs:Zq} {n m k:Nat} {sets:Zu} {ah:Wd->Nat->Bool} {rows:List Wr}
end
def Dj(l:List Wd):Prop:=∀ x∈l,x.length<=4
def Ds(s:Zu):Prop:=∀(i:Nat)(x:List Wd),s[i]? = some x->Dj x/\x.length<=4096
def Sz:Zu->Nat
 |[]=>0
 |x::s=>x.length+Sz s
theorem dm:∀(s:Zu)(a:Nat)(u:List Wd),a<s.length->Sz (s.set a u)+(s.getD a []).length=Sz s+u.length
 |[],a,u,h=>by simp at h
 |x::s,0,u,_=>by simp[Sz];omega
 |x::s,a+1,u,h=>by
  have:=dm s a u (by simpa using h);simp only[List.set_cons_succ,Sz,List.getD_cons_succ];omega
theorem vd:∀(s:Zu),Ds s->Sz s<=4096*s.length
 |[],_=>by simp[Sz]
 |x::s,h=>by
  have ih:=vd s (fun i y hy=>h (i+1) y (by simpa using hy));have:=(h 0 x (by simp)).2;simp only[Sz,Qu];omega
theorem e_{k:Nat}(hk:k<=4){a b o:List Wd}(h:Eb k a b=some o):Dj o/\o.length<=4096:=by
 refine⟨fun z hz=>?_,?_⟩
 ·obtain⟨x,_,y,_,rfl⟩:=(Fm h).1 hz;rw[Qq];simp;omega
 ·unfold Eb at h;split at h
  ·injection h with h;subst h;assumption
  ·cases h
theorem oh{k:Nat}(hk:k<=4){sets:Zu}:∀(syms:List Int)(acc out:List Wd),Dj acc/\acc.length<=4096->Ng sets k acc syms=some out->Dj out/\out.length<=4096
 |[],acc,out,ha,h=>by injection h with h;subst h;exact ha
 |s::l,acc,out,_,h=>by
  simp only[Ng] at h;cases h1:Rn sets s with
  |none=>rw[h1] at h;cases h
  |some x =>
   rw[h1,Option.bind_some] at h;cases h2:Eb (k:Int) acc x with
   |none=>rw[h2] at h;cases h
   |some o =>
    rw[h2,Option.bind_some] at h;exact oh hk l o out (e_ hk h2) h
theorem qaY{k:Nat}(hk:k<=4){sets:Zu}{syms:List Int}{out:List Wd}(h:lM sets k syms=some out):Dj out/\out.length<=4096 :=
 oh hk syms [[]] out ⟨fun x hx=>by rw[Qi] at hx;subst hx;simp,by simp⟩ h
theorem Ds.getD{s:Zu}(h:Ds s)(a:Nat):Dj (s.getD a [])/\(s.getD a []).length<=4096:=by
 rw[Qb];cases e:s[a]? with
 |none=>exact⟨fun x hx=>(by cases hx),by simp⟩
 |some x=>exact h a x e
theorem Ds.set{s:Zu}(h:Ds s)(a:Nat){u:List Wd}(hu:Dj u/\u.length<=4096):Ds (s.set a u):=by
 intro b y hy;rw[Xu] at hy;split at hy
 ·split at hy
  ·injection hy with hy;subst hy;exact hu
  ·cases hy
 ·exact h b y hy
theorem Ds.replicate(n:Nat):Ds (List.replicate n []):=by
 intro b y hy;rw[Xg] at hy;split at hy
 ·injection hy with hy;subst hy;exact⟨fun x hx=>(by cases hx),by simp⟩
 ·cases hy
theorem Cx{a b:List Wd}(ha:Dj a)(hb:Dj b):Dj (Kt a b):=fun x hx=>(Bt.1 hx).elim (ha x) (hb x)
theorem qvM{k:Nat}(hk:k<=4){s s':Zu}{g:Bool}{r:Int×List Int}(hs:Ds s)(ha:Ux s)(hr:r.1.toNat<s.length)(e:Et k s r=some (s',g)) :
  Ds s'/\Ux s'/\s'.length=s.length/\Sz s<=Sz s'/\(g=true->Sz s<Sz s'):=by
 unfold Et at e;cases h1:lM s k r.2 with
 |none=>rw[h1] at e;cases e
 |some x =>
  rw[h1,Option.bind_some] at e;split at e
  ·rename_i hle;injection e with e;injection e with e e2;subst e e2;have h3:=dm s r.1.toNat (Kt (s.getD r.1.toNat []) x) hr;have h4:=(cD (b:=x) (ha.getD r.1.toNat)).1;change (s.getD r.1.toNat []).length<=(Kt (s.getD r.1.toNat []) x).length at h4;refine⟨hs.set _ ⟨Cx (hs.getD _).1 (qaY hk h1).1,hle⟩,ha.set _ (Fu _ _),by simp,by omega,fun h=>?_⟩;have:=of_decide_eq_true h;omega
  ·cases e
def Hi(lo e0:Nat)(w:World)(v:Value)(x:List Wd):Prop:=∀ w':World,(∀ p:Addr,(lo<=p.block\/p.block=e0)->p.block<w.heap.size->w'.cell? p=w.cell? p)->Jb eW w' w.heap.size v x
theorem Hi.nil(lo e0:Nat)(w:World):Hi lo e0 w (.slice none 0 0) []:=fun _ _=>Jb.nil_
theorem Hi.sl{lo e0:Nat}{w:World}{v:Value}{x:List Wd}(h:Hi lo e0 w v x):Jb eW w w.heap.size v x:=h w fun _ _ _=>rfl
theorem Hi.keep{lo e0:Nat}{w w1:World}{v:Value}{x:List Wd}(h:Hi lo e0 w v x)(hs:w.heap.size<=w1.heap.size)(hk:∀ p:Addr,(lo<=p.block\/p.block=e0)->p.block<w.heap.size->w1.cell? p=w.cell? p):Hi lo e0 w1 v x:=fun w' hw =>
 (h w' fun p h1 h2=>(hw p h1 (Yb h2 hs)).trans (hk p h1 h2)).more hs
theorem Hi.own{lo e0 base:Nat}{t:TypeId}{w:World}{v:Value}{x:List Wd}(hf:aB x)(h:w.ownsRow base t 1 v x.length (Zp x))(hb:lo<=base\/(base<=e0/\∀ b,v.ownBlock=some b->b=e0)):Hi lo e0 w v x:=fun w' hw=>by
 obtain⟨A,c,rfl,h1,h2⟩:=Zk h;refine In hf (fun hne=>?_) h1 h2;obtain⟨b,off,e,Jo,hc⟩:=Rd.of_own h hne;subst e;have hge:base<=b:=by
  rcases h.2 with ⟨hn,_⟩ | ⟨g,cap,cur,hv,hg,_⟩
  ·injection hn with e1;cases e1
  ·injection hv with e1 _ _;injection e1 with e1;injection e1 with e1 _;omega
 refine⟨b,off,rfl,Jo,fun j u hu=>(hw _ (by
  show lo<=b\/b=e0
  rcases hb with hb | ⟨_,hb⟩
  ·omega
  ·rcases h.2 with ⟨hn,_⟩ | ⟨g,cap,cur,hv,hg,_⟩
   ·injection hn with e1;cases e1
   ·injection hv with e1 _ _
    injection e1 with e1
    injection e1 with e1 e2
    subst e1 e2
    exact .inr (hb _ rfl)) Jo).trans (hc j u hu)⟩
def Eh(t:TypeId)(g lo e0:Nat)(w:World)(sets:Zu):Prop :=
 ∃ vs:List Value,w.heap[g]? = some (.cells vs.toArray t (0,0))/\vs.length=sets.length/\∀(i:Nat)(v:Value)(x:List Wd),vs[i]? = some v->sets[i]? = some x->Hi lo e0 w v x
theorem Eh.lt{t:TypeId}{g lo e0:Nat}{w:World}{sets:Zu}(h:Eh t g lo e0 w sets):g<w.heap.size:=by
 obtain⟨vs,h1,_⟩:=h;exact (gl h1)
theorem Eh.keep{t:TypeId}{g lo e0:Nat}{w w1:World}{sets:Zu}(h:Eh t g lo e0 w sets)(hs:w.heap.size<=w1.heap.size)(hg:w1.heap[g]? = w.heap[g]?)(hk:∀ b,(lo<=b\/b=e0)->b<w.heap.size->w1.heap[b]? = w.heap[b]?):Eh t g lo e0 w1 sets:=by
 obtain⟨vs,h1,h2,h3⟩:=h;exact⟨vs,hg.trans h1,h2,fun i v x hv hx=>(h3 i v x hv hx).keep hs fun p hp hl=>World.cell?_of_block (hk p.block hp hl)⟩
theorem Eh.below{t:TypeId}{g lo e0:Nat}{w w1:World}{sets:Zu}(h:Eh t g lo e0 w sets)(hb:Below w.heap.size w w1):Eh t g lo e0 w1 sets:=h.keep hb.size (hb.block g h.lt) fun b _ hl=>hb.block b hl
theorem Eh.other{t:TypeId}{g lo e0:Nat}{w:World}{sets:Zu}(h:Eh t g lo e0 w sets){p:Addr}(v:Value)(h1:g≠p.block)(h2:p.block<lo)(h3:p.block≠e0):Eh t g lo e0 (w.setCell p v) sets :=
 h.keep (by simp[World.setCell]) (Zb _ _ _ _ h1) fun b hb _=>Zb _ _ _ _ (by rcases hb with hb | hb <;> omega)
theorem Eh.set{t:TypeId}{g lo e0:Nat}{w:World}{sets:Zu}(h:Eh t g lo e0 w sets)(hlo:g<lo)(hge:g≠e0){k:Nat}{v:Value}{x:List Wd}(hv:Hi lo e0 w v x):Eh t g lo e0 (w.setCell ⟨g,k,none⟩ v) (sets.set k x):=by
 obtain⟨vs,h1,h2,h3⟩:=h;have oI:∀ p:Addr,(lo<=p.block\/p.block=e0)->p.block<w.heap.size->(w.setCell ⟨g,k,none⟩ v).cell? p=w.cell? p:=fun p hp _=>World.cell?_of_block (Zb _ _ _ _ (by show p.block≠g;rcases hp with hp | hp <;> omega));refine⟨vs.set k v,?_,by rw[Qm,Qm,h2],fun i u y hu hy=>?_⟩
 ·simp only[World.setCell,Xx,if_true,h1,Option.map_some];congr 2;simp
 ·rw[Xu] at hu hy;by_cases e:k=i
  ·rw[if_pos e] at hu hy;split at hu
   ·split at hy
    ·injection hu with hu;injection hy with hy;subst hu hy;exact hv.keep (by simp[World.setCell]) oI
    ·cases hy
   ·cases hu
  ·rw[if_neg e] at hu hy;exact (h3 i u y hu hy).keep (by simp[World.setCell]) oI
theorem Eh.get{t:TypeId}{g lo e0:Nat}{w:World}{sets:Zu}(h:Eh t g lo e0 w sets){k:Nat}(hk:k<sets.length):∃ A c,w.cell? ⟨g,k,none⟩=some (.slice A sets[k].length c)/\sets[k].length<=c/\c<=maxLen/\Hi lo e0 w (.slice A sets[k].length c) sets[k]/\w.frozen? ⟨g,k,none⟩=false:=by
 obtain⟨vs,h1,h2,h3⟩:=h;have hkv:k<vs.length:=by omega
 have hh:=h3 k _ _ (Qa hkv) (Qa hk);obtain⟨A,c,e,h4,h5⟩:=hh.sl.form;refine⟨A,c,?_,h4,h5,by rw[<-e];exact hh,by simp[World.frozen?,h1]⟩;rw[Za w g k _ _ _ h1,<-e];simp[hkv]
theorem Eh.sl{t:TypeId}{g lo e0:Nat}{w:World}{sets:Zu}(h:Eh t g lo e0 w sets)(hl:sets.length<=maxLen):Jb (Ro eW) w w.heap.size (.slice (some ⟨g,0,none⟩) sets.length sets.length) sets:=by
 have Jo:=h.lt;obtain⟨vs,h1,h2,h3⟩:=h;have hfl:(vs.map fun v=>[v]).flatten=vs:=by
  clear h1 h2 h3
  induction vs with
  |nil=>rfl
  |cons v l ih=>rw[List.map_cons,List.flatten_cons,ih];rfl
 refine⟨some ⟨g,0,none⟩,sets.length,vs.map fun v=>[v],rfl,Xz _,hl,by simp[h2],?_,fun i cs x hc hx=>?_⟩
 ·rw[hfl];exact Rd.row h1 Jo
 ·rw[Qv] at hc;cases e:vs[i]? with
  |none=>rw[e] at hc;cases hc
  |some v =>
   rw[e] at hc;injection hc with hc;subst hc;exact⟨v,rfl,(h3 i v x e hx).sl⟩
theorem Eh.start{t:TypeId}{g lo e0:Nat}{w:World}{n:Nat}(h:w.heap[g]? = some (.cells (List.replicate n (Value.slice none 0 0)).toArray t (0,0))):Eh t g lo e0 w (List.replicate n []) :=
 ⟨_,h,by simp,fun i v x hv hx=>by
  rw[Xg] at hv hx
  split at hv
  ·rename_i hi
   rw[if_pos hi] at hx
   injection hv with hv
   injection hx with hx
   subst hv hx
   exact Hi.nil lo e0 w
  ·cases hv⟩
theorem qaP{w:World}{g:Nat}{v1 v2:Value}{t:TypeId}{a b:List Wd}(h:w.heap[g]? = some (.cells #[v1,v2] t (0,0)))(h1:Jb eW w w.heap.size v1 a)(h2:Jb eW w w.heap.size v2 b):Jb (Ro eW) w w.heap.size (.slice (some ⟨g,0,none⟩) 2 2) [a,b]:=by
 refine⟨some ⟨g,0,none⟩,2,[[v1],[v2]],rfl,by simp,by unfold maxLen;omega,rfl,?_,fun i cs x hc hx=>?_⟩
 ·exact Rd.row h (gl h)
 ·match i,hc,hx with
  |0,hc,hx=>injection hc with hc;injection hx with hx;subst hc hx;exact⟨v1,rfl,h1⟩
  |1,hc,hx=>injection hc with hc;injection hx with hx;subst hc hx;exact⟨v2,rfl,h2⟩
  |i+2,hc,hx=>simp at hc
def Km(l:List Bool):List Value:=l.map Value.bool
theorem Rd.bool{w:World}{B:Nat}{A:Option Addr}{l:List Bool}(h:Rd w B A (Km l)){k:Nat}(hk:k<l.length):∃ b off,A=some ⟨b,off,none⟩/\b<B/\w.cell? ⟨b,off+k,none⟩=some (.bool l[k]):=by
 obtain⟨b,off,e,hb,hc⟩:=h.at_ (k:=k) (by simpa[Km] using hk);exact⟨b,off,e,hb,by rw[hc];simp[Km]⟩
theorem Rd.int_{w:World}{B:Nat}{A:Option Addr}{l:List Int}(h:Rd w B A (Ks l)){k:Nat}(hk:k<l.length):∃ b off,A=some ⟨b,off,none⟩/\b<B/\w.cell? ⟨b,off+k,none⟩=some (.int .i64 l[k]):=by
 obtain⟨b,off,e,hb,hc⟩:=h.at_ (k:=k) (by simpa[Ks] using hk);exact⟨b,off,e,hb,by rw[hc];simp[Ks]⟩
theorem eR(A:Option Addr)(c:Nat)(l:List Bool)(w:World)(h:Rd w w.heap.size A (Km l))(hn:l.length<=1048576) :
  Calls Tryz.prog 70 #[.slice A l.length c,.bool false] w fun e w'=>e=.returned (.bool (!l.all id))/\w'=w:=by
 have Ge:Calls Tryz.prog 132 #[.slice A l.length c,.bool false] w fun e w'=>(∃ i:Int,e=.returned (.int .i64 i)/\decide (0<=i)=!l.all id)/\w'=w:=by
  have HR:=Lh h;obtain⟨n,hl⟩:=Xe l.length;rw[<-hl];have HL:=Lh hl;rw[<-hl] at hn;clear h hl;go_enter Tryz.func132,Tryz.ntmps132;go_wp2_with fail;go_loopw [8] (fun v8 wr=>∃ i:Nat,i<=n/\v8=.int .i64 i/\wr=w/\Hid ((l.take i).all id=true)) (fun v8 _=>n - (intOf v8).toNat);exact⟨0,by omega,rfl,rfl,by simp[Hid]⟩;obtain⟨i,hi,rfl,rfl,HI⟩:=hrel;by_cases Jo:i<n
  ·have Nq:i<l.length:=by rw[<-HL.o];exact Jo
   obtain⟨b,off,rfl,_,hc⟩:=HR.o.bool Nq;have HT:=Lh (Qc Nq);have HM:=Lh (Qg Nq);obtain⟨x,hx⟩:=Xe (l[i]);rw[<-hx] at hc HT HM;clear hx Nq;cases x with
   |true =>
    have HI2:=Lh (show (l.take (i+1)).all id=true by rw[HT.o,List.all_append,HI.o];rfl);go_wp2_with fail;exact⟨⟨i+1,by omega,by go_num,trivial,HI2.o⟩,by simp[intOf];omega⟩
   |false =>
    go_wp2_with fail;go_ret;refine⟨⟨i,rfl,?_⟩,rfl⟩;have:l.all id=false:=by
     rw[<-Bool.not_eq_true,Xp];intro h;have:=h _ HM.o;cases this
    rw[this];simp
  ·have pz:i=n:=by omega
   have Hb:=Lh (show l.all id=true by have:=HI.o;rwa [pz,HL.o,Qd (Xz _)] at this);go_wp2_with fail;go_ret;exact⟨⟨-1,rfl,by rw[Hb.o];rfl⟩,rfl⟩
 have HX:=Lh Ge;obtain⟨r,hr⟩:=Xe (!l.all id);rw[<-hr] at HX |-;clear Ge h hr;go_enter Tryz.func70,Tryz.ntmps70;go_wp2_with fail;refine HX.o.mono ?_;rintro e w1 ⟨⟨i,rfl,hi⟩,rfl⟩;have HI:=Lh hi;clear hi HX;go_wp2_with fail;go_ret;exact⟨Kd (Zm HI.o),rfl⟩
structure bU(Mk:List Int)(P:List Bool):Prop where
 len:Mk.length=P.length
 val:∀(i:Nat)(x:Int),Mk[i]? = some x->-1<=x/\x<=1000000/\P[i]? = some (decide (0<=x))
def Li(P:List Bool)(r:List Int):Bool:=r.all fun s=>decide (s<0)||P.getD s.toNat false
def zjT(w:World)(P:List Bool)(r:List Int)(e:Ending)(w':World):Prop:=∃ x:Int,e=.returned (.int .i64 x)/\-1<=x/\x<=1000000/\decide (0<=x)=Li P r/\w'=w
theorem qsX(A B:Option Addr)(c d:Nat)(r Mk:List Int)(P:List Bool)(w:World)(h:Jb Vh w w.heap.size (.slice A r.length c) r)(hv:Rd w w.heap.size B (Ks Mk))(hP:bU Mk P)(hr:∀ s∈r,s<(P.length:Int))(hl:r.length<=64) :
  Calls Tryz.prog 198 #[.slice A r.length c,.slice B Mk.length d] w (zjT w P r):=by
 have HH:=Lh h;have HV:=Lh hv;have HP:=Lh hP;have HR:=Lh hr;obtain⟨n,hn⟩:=Xe r.length;obtain⟨m,hm⟩:=Xe Mk.length;rw[<-hn] at HH hl |-;rw[<-hm];have HN:=Lh hn;have HM:=Lh hm;clear h hv hP hr hn hm;go_enter Tryz.func198,Tryz.ntmps198;go_wp2_with fail;go_loopw [10,5] (fun v10 v5 wr=>∃(i:Nat)(t:Int),i<=n/\v10=.int .i64 i/\v5=.int .i64 t/\0<=t/\t<=1000000*i/\wr=w/\Hid (Li P (r.take i)=true)) (fun v10 _ _=>n - (intOf v10).toNat);exact⟨0,0,by omega,rfl,rfl,by omega,by omega,rfl,by simp[Hid,Li]⟩;obtain⟨i,t,hi,rfl,rfl,ht0,ht1,rfl,HI⟩:=hrel;by_cases Jo:i<n
 ·have Nq:i<r.length:=by rw[<-HN.o];exact Jo
  obtain⟨b,off,cs,rfl,_,cX,Zt,Zj⟩:=HH.o.get (k:=i) Nq (by decide);obtain⟨rfl,Ta,Hn⟩:=Zt;have Vi:=Zj 0 _ rfl;simp only[show Vh.size=1 from rfl,Yq,Yo] at Vi;have HT:=Lh (Qc Nq);have Ha:=Lh (Qg Nq);obtain⟨s,hse⟩:=Xe (r[i]);rw[<-hse] at Vi Ta Hn HT Ha;have qE:=HR.o s Ha.o;rw[<-HP.o.len,<-HM.o] at qE;have hti:t<=64000000:=by omega
  clear Zj hse Nq;by_cases hs:s<0
  ·have hd:decide (s<0)=true:=by simpa using hs
   have HI2:=Lh (show Li P (r.take (i+1))=true by rw[HT.o];unfold Li;rw[List.all_append];have:=HI.o;unfold Li at this;rw[this];simp[hs]);go_wp2_with fail;refine (Zz s wr).mono ?_;rintro e w1 ⟨rfl,rfl⟩;rw[hd];go_wp2_with fail;exact⟨⟨i+1,t+1,by omega,by go_num,rfl,by omega,by omega,trivial,HI2.o⟩,by simp[intOf];omega⟩
  ·have hd:decide (s<0)=false:=by simpa using hs
   obtain⟨k,rfl⟩:∃ k:Nat,s=(k:Int):=⟨s.toNat,by omega⟩;have hk:k<Mk.length:=by rw[<-HM.o];omega
   obtain⟨b2,o2,rfl,_,hc2⟩:=HV.o.int_ hk;obtain⟨g1,g2,g3⟩:=HP.o.val k _ (Qa hk);obtain⟨y,hy⟩:=Xe (Mk[k]);rw[<-hy] at hc2 g1 g2 g3;have kH:=Lh g3;have hkm:k<m:=by rw[HM.o];exact hk
   clear hy g3 hk;by_cases hy0:y<0
   ·have HF:=Lh (show Li P r=false by
     rw[<-Bool.not_eq_true]
     intro h
     unfold Li at h
     have:=Xp.1 h _ Ha.o
     rw[Qb,Yw,kH.o] at this
     simp at this
     omega)
    go_wp2_with fail;refine (Zz _ wr).mono ?_;rintro e w1 ⟨rfl,rfl⟩;rw[hd];go_wp2_with fail;go_ret;exact⟨-1,rfl,by omega,by omega,by rw[HF.o];rfl,rfl⟩
   ·have HI2:=Lh (show Li P (r.take (i+1))=true by
     rw[HT.o];unfold Li;rw[List.all_append];have:=HI.o;unfold Li at this;rw[this]
     simp only[List.all_cons,List.all_nil,Bool.and_true,Bool.true_and,Ys,Yi]
     right
     rw[Qb,Yw,kH.o]
     simp
     omega)
    go_wp2_with fail;refine (Zz _ wr).mono ?_;rintro e w1 ⟨rfl,rfl⟩;rw[hd];go_wp2_with fail;exact⟨⟨i+1,t+y,by omega,by go_num,rfl,by omega,by omega,trivial,HI2.o⟩,by simp[intOf];omega⟩
 ·have pz:i=n:=by omega
  have HF:=Lh (show Li P r=true by have:=HI.o;rwa [pz,HN.o,Qd (Xz _)] at this);have hti:t<=64000000:=by omega
  clear pz;go_wp2_with fail
  all_goals
   go_ret;refine⟨_,rfl,?_,?_,?_,rfl⟩
   ·omega
   ·omega
   ·rw[HF.o,Yi];omega
theorem tX{w w':World}(h:Below w.heap.size w w')(row:Option Nat):w.grownBy w' row:=⟨h.os,h.tape,h.output,h.size,fun k hk _=>h.block k hk⟩
theorem Ns{w w':World}{g N:Nat}(h:w.grownBy w' (some g))(hN:N<=g)(hw:N<=w.heap.size):Below N w w':=(Xr N w).grown h hw fun k hk=>by injection hk with hk;omega
theorem cZ(w:World)(g k:Nat)(v:Value):w.grownBy (w.setCell ⟨g,k,none⟩ v) (some g):=⟨rfl,rfl,rfl,by simp[World.setCell],fun j _ hne=>Zb _ _ _ _ fun e=>hne (congrArg some e)⟩
abbrev zD(l:Int)(A:Option Addr)(n c:Nat):Value:=.agg #[.int .i64 l,.slice A n c]
def zjU{σ:Type}(F:FuncId)(cap:Array Value)(rs:Zq)(N g:Nat)(f:σ->Int×List Int->σ)(I:σ->World->Prop):Prop :=
 ∀(s:σ)(w1:World)(r:Int×List Int)(A:Option Addr)(n c:Nat),r∈rs->I s w1->g<w1.heap.size->n=r.2.length->Jb Vh w1 N (.slice A n c) r.2 ->
  Calls Tryz.prog F (#[zD r.1 A n c]++cap) w1 fun e w2=>e=.returned (.tuple #[])/\I (f s r) w2/\w1.grownBy w2 (some g)
theorem gH{σ:Type}{f:σ->Int×List Int->σ}{rs:Zq}{j:Nat}(h:j<rs.length)(s:σ):(rs.drop j).foldl f s=(rs.drop (j+1)).foldl f (f s rs[j]):=by
 rw[Ql h,List.foldl_cons]
theorem sC{σ:Type}(F:FuncId)(cap:Array Value)(hF:∀(args:Array Value)(w:World),(callFunc F args).run Tryz.prog w=.ok (.enter F args) w)(f:σ->Int×List Int->σ)(I:σ->World->Prop)(v2:Value)(A1 A3:Option Addr)(n c1 c3 N g:Nat)(rs:Zq)(s0:σ)(w:World)
  (hn:n<=256) (h3:Jb Kx w N (.slice A3 rs.length c3) rs) (hN:N<=g) (hg:g<w.heap.size) (hI:∀ s w1 w2,I s w1->Below w1.heap.size w1 w2->I s w2) (h0:I s0 w) (eJ:zjU F cap rs N g f I) :
  Calls Tryz.prog 134 #[.agg #[.slice A1 n c1,v2,.slice A3 rs.length c3],.func (.func F) #[] cap] w fun e w'=>e=.returned (.tuple #[])/\I (Kq f rs (n+1) s0) w'/\w.grownBy w' (some g):=by
 have HF:=Lh hF;have H3:=Lh h3;have HI:=Lh hI;have H0:=Lh h0;have HS:=Lh eJ;have hm9:=h3.n_le;obtain⟨m,hm⟩:=Xe rs.length;rw[<-hm] at H3 hm9 |-;have HM:=Lh hm;obtain⟨Sz,dO⟩:=Xe (Kq f rs (n+1) s0);rw[<-dO];have HT:=Lh dO;clear hF h3 hI h0 eJ hm dO;go_enter Tryz.func134,Tryz.ntmps134;go_wp2_with fail;have k0:(w.alloc (.cells #[.slice A1 n c1,v2,.slice A3 m c3] 25)).heap[w.heap.size]? = some (.cells #[.slice A1 n c1,v2,.slice A3 m c3] 25 (0,0)):=Xn w _;have hb1:=(Xr w.heap.size w).alloc (Xz _) (.cells #[.slice A1 n c1,v2,.slice A3 m c3] 25);have HI1:=Lh (HI.o _ _ _ H0.o hb1);have HG1:=Lh (tX hb1 (some g));have qO:=Lh (Xs w (.cells #[.slice A1 n c1,v2,.slice A3 m c3] 25));have HK0:=Lh k0;have H31:=Lh (H3.o.below (hb1.mono (by omega:N<=w.heap.size)));clear k0 hb1;generalize w.alloc (.cells #[.slice A1 n c1,v2,.slice A3 m c3] 25)=w1 at *;go_loopw [10] (fun v10 wr=>∃(i:Nat)(s:σ),i<=n+1/\v10=.int .i64 i/\Hid (Sz=Kq f rs (n+1 - i) s)/\Hid (I s wr)/\Hid (w1.grownBy wr (some g))) (fun v10 _=>n+1 - (intOf v10).toNat);exact⟨0,s0,by omega,rfl,HT.o,HI1.o,World.grownBy.refl _ _⟩;clear HI1;obtain⟨i,s,hi,rfl,HTI,HIS,HGR⟩:=hrel;have k1:=(HGR.o.block w.heap.size (by rw[qO.o];omega) (fun e=>by injection e with e;omega)).trans HK0.o;have c0:wr.cell? ⟨w.heap.size,0,none⟩=some (.slice A1 n c1):=Xc k1 rfl;have c2:wr.cell? ⟨w.heap.size,2,none⟩=some (.slice A3 m c3):=Xc k1 rfl;by_cases Jo:i<n+1
 ·have HTI2:=Lh (show Sz=Kq f rs (n - i) (rs.foldl f s) by rw[HTI.o,show n+1 - i=(n - i)+1 by omega];rfl);have hdi:decide ((i:Int)<(n:Int)+1)=true:=by rw[Yi];omega
  clear HTI k1;go_wp2_with fail;go_loopw [15] (fun v15 wt=>∃(j:Nat)(t:σ),j<=m/\v15=.int .i64 j/\Hid (rs.foldl f s=(rs.drop j).foldl f t)/\Hid (I t wt)/\Hid (w1.grownBy wt (some g))) (fun v15 _=>m - (intOf v15).toNat);exact⟨0,s,by omega,rfl,rfl,HIS.o,HGR.o⟩;clear HIS HGR c0 c2;obtain⟨j,t,hj,rfl,HFD,HIT,HGT⟩:=hrel;have yB:=Lh (Ns HGT.o hN (by rw[qO.o];omega));by_cases hjm:j<m
  ·have Uh:j<rs.length:=by rw[<-HM.o];exact hjm
   obtain⟨b,off,cs,rfl,_,cX,Zt,Zj⟩:=(H31.o.below yB.o).get (k:=j) Uh (by decide);obtain⟨v,rfl,Uv,Sr,Fn⟩:=Jv Zt;obtain⟨A5,c5,rfl,Tc,fY⟩:=Uv.form;have Vi:=Zj 0 _ rfl;have hc1:=Zj 1 _ rfl;simp only[show Kx.size=2 from rfl,Yo,<-Yv] at Vi hc1;have HFD2:=Lh (show rs.foldl f s=(rs.drop (j+1)).foldl f (f t rs[j]) by rw[HFD.o,gH Uh]);have Tn:=Lh (Qg Uh);obtain⟨r,hr⟩:=Xe (rs[j]);rw[<-hr] at Vi hc1 HFD2 Tn Uv Sr Fn Tc;obtain⟨q,hq⟩:=Xe r.2.length;rw[<-hq] at hc1 Uv Tc;have HQ:=Lh hq;have HSL:=Lh Uv;clear Zj Zt hr hq Uv Uh HFD;go_wp2_with fail;have zlF:=Lh (HI.o _ _ _ HIT.o ((Xr wr.heap.size wr).alloc (Xz _) (.cells #[.int .i64 r.1,.slice A5 q c5] 63)));have HG2:=Lh (HGT.o.trans (World.grownBy_alloc wr (.cells #[.int .i64 r.1,.slice A5 q c5] 63) (some g)));have HB2:=Lh (((Xr wr.heap.size wr).alloc (Xz _) (.cells #[.int .i64 r.1,.slice A5 q c5] 63)));have zlJ:Hid (g<wr.heap.size):=Yb (by rw[qO.o];omega) HGT.o.size;rw[HF.o];refine (HS.o t _ r A5 q c5 Tn.o zlF.o (by rw[Xs];have:=zlJ.o;omega) HQ.o (HSL.o.below (HB2.o.mono (by have:=zlJ.o;omega)))).mono ?_;rintro e w5 ⟨rfl,hi5,fZ⟩;have HI5:=Lh hi5;have HG5:=Lh (HG2.o.trans fZ);clear hi5 fZ zlF HG2 HIT HGT;go_wp2_with fail;go_roundw
   case rel =>
    exact⟨j+1,f t r,by omega,by go_num,HFD2.o,HI5.o,HG5.o⟩
   case measure=>simp[intOf];omega
  ·have zhV:j=m:=by omega
   have HTI3:=Lh (show Sz=Kq f rs (n+1 - (i+1)) t by
    rw[HTI2.o,HFD.o,zhV,HM.o,List.drop_length,show n+1 - (i+1)=n - i by omega];rfl)
   clear zhV HFD;go_wp2_with fail;exact⟨⟨i+1,t,by omega,by go_num,HTI3.o,HIT.o,HGT.o⟩,by simp[intOf];omega⟩
 ·have Up:=Lh (show I Sz wr by
   have:=HTI.o
   rw[show n+1 - i=0 by omega] at this
   rw[this]
   exact HIS.o)
  go_wp2_with fail
  go_end0
  exact⟨rfl,Up.o,HG1.o.trans HGR.o⟩
end Go.Proofs.YtmaojnmnbpomeaaGreatDoor
