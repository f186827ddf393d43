import Derived.Test.YtkcbaokljkalcaaGreatAp3A3
import Derived.Test.YtkcbaokljkalcaaGreatProg
import Derived.Test.YtkcbaokljkalcaaGreatAp3A2
import Derived.Test.YtkcbaokljkalcaaGreatAp3B1
set_option linter.unusedVariables false
set_option linter.unusedSimpArgs false
set_option linter.defProp false
namespace Go.AX
open Go.Proofs Go.RowKit
noncomputable def TE:Env:=qxo Tryz.prog
theorem qA (s:St) (x o:Nat):Q1 TE s 9 (.ptr x o)=ldC s x o:=J4 (by kernel_rfl)
theorem JS (s:St) (x o:Nat) (v:AV) (h1:v.cells=[v]) (h2:v.one=true):QZ TE s 9 (.ptr x o) v=stC s x o v:=KJ (by kernel_rfl) h1 h2
theorem qD (s:St) (x o:Nat):Q1 TE s 3 (.ptr x o)=ldC s x o:=J4 (by kernel_rfl)
theorem Yo (s:St) (x o:Nat) (v:AV) (h1:v.cells=[v]) (h2:v.one=true):QZ TE s 3 (.ptr x o) v=stC s x o v:=KJ (by kernel_rfl) h1 h2
theorem qtl (s:St) (x o:Nat):Q1 TE s 4 (.ptr x o)=ldC s x o:=J4 (by kernel_rfl)
theorem qsp (s:St) (x o:Nat) (v:AV) (h1:v.cells=[v]) (h2:v.one=true):QZ TE s 4 (.ptr x o) v=stC s x o v:=KJ (by kernel_rfl) h1 h2
theorem ZR (s:St) (x o:Nat):Q1 TE s 36 (.ptr x o)=ldC s x o:=J4 (by kernel_rfl)
theorem qcy (s:St) (x o:Nat) (v:AV) (h1:v.cells=[v]) (h2:v.one=true):QZ TE s 36 (.ptr x o) v=stC s x o v:=KJ (by kernel_rfl) h1 h2
theorem J7 (s:St) (x o:Nat):Q1 TE s 57 (.ptr x o)=ldC s x o:=J4 (by kernel_rfl)
theorem X5 (s:St) (x o:Nat) (v:AV) (h1:v.cells=[v]) (h2:v.one=true):QZ TE s 57 (.ptr x o) v=stC s x o v:=KJ (by kernel_rfl) h1 h2
theorem qK (s:St) (x o:Nat):Q1 TE s 112 (.ptr x o)=ldC s x o:=J4 (by kernel_rfl)
theorem qh1 (s:St) (x o:Nat) (v:AV) (h1:v.cells=[v]) (h2:v.one=true):QZ TE s 112 (.ptr x o) v=stC s x o v:=KJ (by kernel_rfl) h1 h2
theorem q0q (s:St) (x o:Nat):Q1 TE s 72 (.ptr x o)=ldC s x o:=J4 (by kernel_rfl)
theorem qI (s:St) (x o:Nat):Q1 TE s 115 (.ptr x o)=ldC s x o:=J4 (by kernel_rfl)
theorem qkg (s:St) (x o:Nat):Q1 TE s 29 (.ptr x o)=ldC s x o:=J4 (by kernel_rfl)
theorem q33 (s:St) (x o:Nat) (v:AV) (h1:v.cells=[v]) (h2:v.one=true):QZ TE s 29 (.ptr x o) v=stC s x o v:=KJ (by kernel_rfl) h1 h2
theorem fn_6:TE.fn.get 6=some Tryz.f6:=by kernel_rfl
theorem q58:TE.fn.get 10=some Tryz.f10:=by kernel_rfl
theorem q37:TE.fn.get 17=some Tryz.f17:=by kernel_rfl
theorem q42:TE.fn.get 21=some Tryz.f21:=by kernel_rfl
theorem q43:TE.fn.get 23=some Tryz.f23:=by kernel_rfl
theorem q4z:TE.fn.get 24=some Tryz.f24:=by kernel_rfl
theorem q4b:TE.fn.get 27=some Tryz.f27:=by kernel_rfl
theorem qdm:TE.fn.get 31=some Tryz.f31:=by kernel_rfl
theorem q3z:TE.fn.get 47=some Tryz.f47:=by kernel_rfl
theorem q31:TE.fn.get 49=some Tryz.f49:=by kernel_rfl
theorem q6s:TE.fn.get 50=some Tryz.f50:=by kernel_rfl
theorem q40:TE.fn.get 51=some Tryz.f51:=by kernel_rfl
theorem q2c:TE.fn.get 58=some Tryz.f58:=by kernel_rfl
theorem qq8:TE.fn.get 59=some Tryz.f59:=by kernel_rfl
theorem qws:TE.fn.get 60=some Tryz.f60:=by kernel_rfl
theorem qu8:TE.fn.get 61=some Tryz.f61:=by kernel_rfl
theorem q36:TE.fn.get 62=some Tryz.f62:=by kernel_rfl
theorem q6f:TE.fn.get 63=some Tryz.f63:=by kernel_rfl
theorem q5t:TE.fn.get 64=some Tryz.f64:=by kernel_rfl
theorem q2b:TE.fn.get 65=some Tryz.f65:=by kernel_rfl
theorem qos:TE.fn.get 66=some Tryz.f66:=by kernel_rfl
theorem q6t:TE.fn.get 82=some Tryz.f82:=by kernel_rfl
theorem qz0:TE.fn.get 85=some Tryz.f85:=by kernel_rfl
theorem q53:TE.fn.get 86=some Tryz.f86:=by kernel_rfl
theorem q6o:TE.fn.get 88=some Tryz.f88:=by kernel_rfl
theorem q5v:TE.fn.get 89=some Tryz.f89:=by kernel_rfl
theorem q4q:TE.fn.get 90=some Tryz.f90:=by kernel_rfl
theorem q5d:TE.fn.get 91=some Tryz.f91:=by kernel_rfl
theorem q6l:TE.fn.get 92=some Tryz.f92:=by kernel_rfl
theorem q5o:TE.fn.get 93=some Tryz.f93:=by kernel_rfl
theorem q5z:TE.fn.get 94=some Tryz.f94:=by kernel_rfl
theorem q5f:TE.fn.get 97=some Tryz.f97:=by kernel_rfl
theorem q6y:TE.fn.get 98=some Tryz.f98:=by kernel_rfl
theorem q6k:TE.fn.get 99=some Tryz.f99:=by kernel_rfl
theorem q2r:TE.fn.get 100=some Tryz.f100:=by kernel_rfl
theorem q1l:TE.fn.get 101=some Tryz.f101:=by kernel_rfl
theorem qzh:TE.fn.get 102=some Tryz.f102:=by kernel_rfl
theorem q3c:TE.fn.get 103=some Tryz.f103:=by kernel_rfl
theorem q0d:TE.fn.get 104=some Tryz.f104:=by kernel_rfl
theorem q0p:TE.fn.get 105=some Tryz.f105:=by kernel_rfl
theorem q0s:TE.fn.get 106=some Tryz.f106:=by kernel_rfl
theorem q02:TE.fn.get 107=some Tryz.f107:=by kernel_rfl
theorem qyv:TE.fn.get 108=some Tryz.f108:=by kernel_rfl
theorem qs6:TE.fn.get 109=some Tryz.f109:=by kernel_rfl
theorem q1u:TE.fn.get 110=some Tryz.f110:=by kernel_rfl
theorem q0v:TE.fn.get 111=some Tryz.f111:=by kernel_rfl
theorem q0n:TE.fn.get 112=some Tryz.f112:=by kernel_rfl
theorem q1p:TE.fn.get 121=some Tryz.f121:=by kernel_rfl
theorem qyd:TE.fn.get 123=some Tryz.f123:=by kernel_rfl
theorem qzi:TE.fn.get 124=some Tryz.f124:=by kernel_rfl
theorem qy8:TE.fn.get 125=some Tryz.f125:=by kernel_rfl
theorem q0a:TE.fn.get 126=some Tryz.f126:=by kernel_rfl
theorem qx7:TE.fn.get 127=some Tryz.f127:=by kernel_rfl
theorem qz1:TE.fn.get 128=some Tryz.f128:=by kernel_rfl
theorem q1c:TE.fn.get 129=some Tryz.f129:=by kernel_rfl
theorem q01:TE.fn.get 130=some Tryz.f130:=by kernel_rfl
theorem q0t:TE.fn.get 134=some Tryz.f134:=by kernel_rfl
theorem qza:TE.fn.get 135=some Tryz.f135:=by kernel_rfl
theorem qzk:TE.fn.get 137=some Tryz.f137:=by kernel_rfl
theorem q1w:TE.fn.get 138=some Tryz.f138:=by kernel_rfl
theorem qzp:TE.fn.get 140=some Tryz.f140:=by kernel_rfl
theorem q0h:TE.fn.get 141=some Tryz.f141:=by kernel_rfl
theorem q0w:TE.fn.get 142=some Tryz.f142:=by kernel_rfl
theorem q0y:TE.fn.get 143=some Tryz.f143:=by kernel_rfl
theorem q2y:TE.fn.get 144=some Tryz.f144:=by kernel_rfl
theorem q13:TE.fn.get 146=some Tryz.f146:=by kernel_rfl
theorem q2n:TE.fn.get 147=some Tryz.f147:=by kernel_rfl
theorem q2a:TE.fn.get 148=some Tryz.f148:=by kernel_rfl
theorem q0l:TE.fn.get 150=some Tryz.f150:=by kernel_rfl
theorem q29:TE.fn.get 154=some Tryz.f154:=by kernel_rfl
theorem q3b:TE.fn.get 156=some Tryz.f156:=by kernel_rfl
theorem q1o:TE.fn.get 161=some Tryz.f161:=by kernel_rfl
theorem q2v:TE.fn.get 162=some Tryz.f162:=by kernel_rfl
theorem qyu:TE.fn.get 163=some Tryz.f163:=by kernel_rfl
theorem qyf:TE.fn.get 164=some Tryz.f164:=by kernel_rfl
theorem q0c:TE.fn.get 165=some Tryz.f165:=by kernel_rfl
theorem qzy:TE.fn.get 166=some Tryz.f166:=by kernel_rfl
theorem qz4:TE.fn.get 167=some Tryz.f167:=by kernel_rfl
theorem qzx:TE.fn.get 168=some Tryz.f168:=by kernel_rfl
theorem qym:TE.fn.get 174=some Tryz.f174:=by kernel_rfl
theorem qsi:TE.fn.get 179=some Tryz.f179:=by kernel_rfl
theorem qzn:TE.fn.get 180=some Tryz.f180:=by kernel_rfl
theorem qz9:TE.fn.get 181=some Tryz.f181:=by kernel_rfl
theorem q3f:TE.fn.get 202=some Tryz.f202:=by kernel_rfl
end Go.AX
namespace Go.Proofs
open Go.RowKit Go.Maps Go.Sort Go.Shelf Go.AX
def pn:PN:={ indexByte:=220,join:=149,rep:=136,sorted:=133,keys:=153,tyStr:=9,anyOf:=171 }
theorem Tryz.sorts120 (m:Nat):AnyZ.SortsIn Tryz.prog Tryz.sorted120_ren Fence.wide m :=
  ⟨fun blk off cap ss W hH hblk hsz=>callsIn_wide.2 (AnyM.slices_Sort_string Tryz.sort133 blk off cap ss W hH hblk hsz),
   fun p cap W=>callsIn_wide.2 (AnyM.slices_Sort_string_none Tryz.sort133 p cap W)⟩
set_option maxHeartbeats 1000000 in
theorem Tryz.sortedKeys (c b nn:Nat) (D0:DataW Unit) (R:Value→Option (DataW Unit × List MemPlace)) (W:World) (hc:c < W.heap.size) (hm:W.cell? ⟨c,0,none⟩=some (.map (some b))) (hown:W.ownsMap Tryz.prog 9 R b nn D0) (hmax:Maps.size D0≤maxLen) (hbytes:Maps.size D0 * 16≤140737488355328) :
    CallsIn Fence.wide 5 Tryz.prog 133 #[.func (.func 153) #[] #[.pointer (some ⟨c,0,none⟩)]] W fun e w'=>∃ (v:Value) (ss:List (List UInt8)),e=.returned v∧ss.Perm (strKeys D0) ∧
      w'.ownsRow W.heap.size 9 1 v ss.length ((ss.mergeSort (fun x y=>decide (x≤y))).map encStr)∧(v=.slice none 0 0↔ss=[])∧Go.RowKit.Below W.heap.size W w':=by
  have hseq:SeqGives Fence.wide 2 Tryz.prog 153 #[.pointer (some ⟨c,0,none⟩)] encStr (fun ss=>ss.Perm (strKeys D0)) (Maps.size D0) W :=
    AnyZ.keys_gives (ρ:=Tryz.keys121_ren) { Tryz.keys121 with } Fence.wide _ trivial rfl (by omega) c b nn D0 _ hc hm hown
  exact AnyZ.sorted_in Tryz.sorted120 Fence.wide 5 trivial trivial trivial trivial rfl (by omega) (Tryz.sorts120 _) (enters_of Tryz.func152 (by kernel_rfl) rfl) 153 #[.pointer (some ⟨c,0,none⟩)] trivial (enters_of Tryz.func153 (by kernel_rfl) rfl) _ _ hmax hbytes _ hseq
theorem Tryz.libOk:LibOk Tryz.prog pn:={
  byte:=fun args w=>run_callFunc_indexByte Tryz.func220 (by kernel_rfl) (by kernel_rfl) (by kernel_rfl) (by kernel_rfl) args w
  joinE:=enters_of Tryz.func149 (by kernel_rfl) rfl
  join0:=fun a c sep w=>Any.strings_Join_none Tryz.lays156 Tryz.Builder_Extra_156 a c sep w
  join:=fun bk o c xs sep w h1 h2 h3 h4 h5=>Any.strings_Join Tryz.lays156 Tryz.Builder_Extra_156 bk o c xs sep w h1 h2 h3 h4 h5
  repE:=enters_of Tryz.func136 (by kernel_rfl) rfl
  rep:=fun s c w h1 h2=>Any.strings_Repeat Tryz.lays105 Tryz.Builder_Extra_105 s c w h1 h2
  anyE:=enters_of Tryz.func171 (by kernel_rfl) rfl
  any:=fun s w h1=>Any.ContainsAny_sl Tryz.lays150 (by kernel_rfl) s w h1
  sortE:=enters_of Tryz.func133 (by kernel_rfl) rfl
  tyS:=Tryz.underlying9
  sorted:=fun c b nn D0 R W h1 h2 h3 h4 h5=>callsIn_wide.1 (Tryz.sortedKeys c b nn D0 R W h1 h2 h3 h4 h5) }
theorem Tryz.progOk:ProgOk (qxo Tryz.prog) Tryz.prog:=Go.AX.progOk (by kernel_rfl) (by kernel_rfl) (by kernel_rfl)
end Go.Proofs
namespace Go.AX
open Go.Proofs Go.RowKit
set_option maxRecDepth 100000
set_option linter.unusedSimpArgs false
theorem qq3 {g:Nat} {args:List AV} {s:St} (h:g≠220):(zk pn).ext g args s=none:=by
  have:Nat.beq g 220=false:=by
    cases hb:Nat.beq g 220 with
    | false=>rfl
    | true=>exact absurd (Nat.eq_of_beq_eq_true hb) h
  simp[zk,qrg,pn,this]
theorem Qk {g j:Nat} (h:g≠j):Nat.beq g j=false:=by
  cases hb:Nat.beq g j with
  | false=>rfl
  | true=>exact absurd (Nat.eq_of_beq_eq_true hb) h
theorem q25 {g:Nat} {args:List AV} {s:St} (h1:g≠149) (h2:g≠136) (h3:g≠133) (h4:g≠171):(zk pn).fn g args s=none:=by
  simp[zk,qxs,pn,Qk h1,Qk h2,Qk h3,Qk h4]
theorem Ym {a b:List Nat}:qN .eql (.str a) (.str b)=some (q8 (eqB a b)):=(rfl)
theorem Ka {a b:List Nat} (h:a.length+b.length≤1048576):qN .add (.str a) (.str b)=some (.str (a++b)):=by
  have:Nat.ble (a.length+b.length) 1048576=true:=Nat.ble_eq.mpr h
  simp[qN,this]
theorem qh {k:IntKind} {a b:Int}:qN .eql (.raw (.int k a)) (.raw (.int k b))=some (q8 (a==b)):=by simp[qN]
theorem qB {k:IntKind} {a b:Int}:qN .neq (.raw (.int k a)) (.raw (.int k b))=some (q8 (a != b)):=by simp[qN]
theorem zX {k:IntKind} {a b:Int}:qN .lss (.raw (.int k a)) (.raw (.int k b))=some (q8 (decide (a < b))):=by simp[qN]
theorem J9 {k:IntKind} {a b:Int}:qN .leq (.raw (.int k a)) (.raw (.int k b))=some (q8 (decide (a≤b))):=by simp[qN]
theorem zv {k:IntKind} {a b:Int}:qN .gtr (.raw (.int k a)) (.raw (.int k b))=some (q8 (decide (a > b))):=by simp[qN]
theorem Zl {k:IntKind} {a b:Int}:qN .geq (.raw (.int k a)) (.raw (.int k b))=some (q8 (decide (a ≥ b))):=by simp[qN]
theorem qO {k:IntKind} {a b:Int}:qN .add (.raw (.int k a)) (.raw (.int k b))=some (.raw (.int k (k.wrap (a+b)))):=by simp[qN]
theorem zj {k:IntKind} {a b:Int}:qN .sub (.raw (.int k a)) (.raw (.int k b))=some (.raw (.int k (k.wrap (a - b)))):=by simp[qN]
theorem qx {s:St} {l:List Nat}:Qv TE s [9] [.str l]=some (qf l.length):=by kernel_rfl
theorem Kz {a b:List Nat}:eqB a b=decide (a=b):=qG a b
theorem QQ {a b:List Nat} (h:a≠b):eqB a b=false:=by rw[Kz];simpa using h
theorem qU {a:List Nat}:eqB a a=true:=by rw[Kz];simp
def unF (e:Env) (u:UnOp) (v:AV):Option AV:=K7 (qz e ⟨Tr.e.set 0 v,1,[]⟩ ⟨none,.unOp u 0 (.tmp 0),0,default,#[],none⟩)
theorem q1g {e:Env} {b:Bool}:unF e .not (.raw (.bool b))=some (.raw (.bool !b)):=(rfl)
theorem q4y {e:Env} {a:Ac} {dst:Option Tmp} {u:UnOp} {t:TypeId} {x:Operand} {ty:TypeId} {pos:String} {after:Array Edge}:K7 (qz e a ⟨dst,.unOp u t x,ty,pos,after,none⟩)=unF e u (a.eval x):=by
  have h:Ac.eval ⟨Tr.e.set 0 (a.eval x),1,[]⟩ (.tmp 0)=a.eval x:=by simp[Ac.eval,Tr.get_set]
  have hv:zO ⟨Tr.e.set 0 (a.eval x),1,[]⟩ (.tmp 0)=zO a x:=by simp only[zO,h]
  simp only[unF,qz,execOp,hv]
  simp[Op.operands,h]
def K0:AV→Bool
  | .raw (.int _ _)=>true
  | _=>false
def q66:AV→AV→Option AV
  | .raw (.int k x),.raw (.int _ y)=>some (.raw (.int k (if y > x then y else x)))
  | _,_=>none
def q60:AV→AV→Option AV
  | .raw (.int k x),.raw (.int _ y)=>some (.raw (.int k (if y < x then y else x)))
  | _,_=>none
theorem q2p {k:IntKind} {z:Int}:K0 (.raw (.int k z))=true:=(rfl)
theorem qsb {k l:IntKind} {x y:Int}:q66 (.raw (.int k x)) (.raw (.int l y))=some (.raw (.int k (if y > x then y else x))):=(rfl)
theorem qqu {k l:IntKind} {x y:Int}:q60 (.raw (.int k x)) (.raw (.int l y))=some (.raw (.int k (if y < x then y else x))):=(rfl)
theorem Kg {v:AV} (h:K0 v=true):∃ k z,v=.raw (.int k z):=by
  cases v with
  | raw w=>cases w <;> first|(simp[K0] at h;done)|exact⟨_,_,rfl⟩
  | _=>simp[K0] at h
theorem q6b {e:Env} {a:Ac} {dst:Option Tmp} {x y:Operand} {tys:Array TypeId} {ty:TypeId} {pos:String} {after:Array Edge} (hx:K0 (a.eval x)=true) (hy:K0 (a.eval y)=true) :
    K7 (qz e a ⟨dst,.call { callee:=.builtin .max,args:=#[x,y],argTypes:=tys },ty,pos,after,none⟩)=q66 (a.eval x) (a.eval y):=by
  obtain⟨k,u,hx⟩:=Kg hx
  obtain⟨l,v,hy⟩:=Kg hy
  have h1:zO a x=.int k u:=by simp[zO,hx,Q9]
  have h2:zO a y=.int l v:=by simp[zO,hy,Q9]
  have hall:(Op.operands (.call { callee:=.builtin .max,args:=#[x,y],argTypes:=tys })).toList.all (fun x=>(Q9 (a.eval x)).isSome)=true:=by
    show (List.all [x,y] (fun x=>(Q9 (a.eval x)).isSome))=true
    simp[hx,hy,Q9]
  simp only[qz,hall,cond_true]
  have hr:zp e.P (execOp (zO a) ⟨dst,.call { callee:=.builtin .max,args:=#[x,y],argTypes:=tys },ty,pos,after,none⟩)=some (.value (.int k (if v > u then v else u))):=by
    have:execOp (zO a) ⟨dst,.call { callee:=.builtin .max,args:=#[x,y],argTypes:=tys },ty,pos,after,none⟩=.pure (.value (.int k (if v > u then v else u))):=by
      simp only[execOp,resolve]
      simp[h1,h2]
      rfl
    rw[this];rfl
  rw[hr,hx,hy]
  rfl
theorem q4p {e:Env} {a:Ac} {dst:Option Tmp} {x y:Operand} {tys:Array TypeId} {ty:TypeId} {pos:String} {after:Array Edge} (hx:K0 (a.eval x)=true) (hy:K0 (a.eval y)=true) :
    K7 (qz e a ⟨dst,.call { callee:=.builtin .min,args:=#[x,y],argTypes:=tys },ty,pos,after,none⟩)=q60 (a.eval x) (a.eval y):=by
  obtain⟨k,u,hx⟩:=Kg hx
  obtain⟨l,v,hy⟩:=Kg hy
  have h1:zO a x=.int k u:=by simp[zO,hx,Q9]
  have h2:zO a y=.int l v:=by simp[zO,hy,Q9]
  have hall:(Op.operands (.call { callee:=.builtin .min,args:=#[x,y],argTypes:=tys })).toList.all (fun x=>(Q9 (a.eval x)).isSome)=true:=by
    show (List.all [x,y] (fun x=>(Q9 (a.eval x)).isSome))=true
    simp[hx,hy,Q9]
  simp only[qz,hall,cond_true]
  have hr:zp e.P (execOp (zO a) ⟨dst,.call { callee:=.builtin .min,args:=#[x,y],argTypes:=tys },ty,pos,after,none⟩)=some (.value (.int k (if v < u then v else u))):=by
    have:execOp (zO a) ⟨dst,.call { callee:=.builtin .min,args:=#[x,y],argTypes:=tys },ty,pos,after,none⟩=.pure (.value (.int k (if v < u then v else u))):=by
      simp only[execOp,resolve]
      simp[h1,h2]
      rfl
    rw[this];rfl
  rw[hr,hx,hy]
  rfl
def rQ:=(And.intro (And.intro (And.intro @Ym @q4y) (And.intro @q1g (And.intro @q6b @q4p))) (And.intro (And.intro @q2p @qsb) (And.intro @qqu (And.intro @qq3 @q25))))
def qf8 (b:List Nat) (c:Nat):Int:=match qR b c 0 with|some i=>(i:Int)|none=>-1
theorem qvi {r:Tasks} {a:Ac} {dst:Option Tmp} {s:St} {k:Ac→St→Bool} {kp:AV→St→Bool} {b:List Nat} {c:Nat} (hc:c < 256) :
    YQ (zk pn) r (.fn 220 []) [.str b,.raw (.int .u8 (.ofNat c))] a dst s k kp=Q2 a dst (.raw (.int .i64 (qf8 b c))) s k:=by
  have:Nat.blt c 256=true:=Nat.blt_eq.mpr hc
  have h:(zk pn).ext 220 ([.str b,.raw (.int .u8 (.ofNat c))]++[]) s=some (.raw (.int .i64 (qf8 b c)),s):=by
    show (bif true then (bif Nat.blt c 256 then some (match qR b c 0 with|some i=>qf i|none=>qf (-1),s) else none) else none)=_
    rw[this]
    simp only[cond_true,qf8]
    cases qR b c 0 <;> rfl
  simp only[YQ,h]
theorem qhu {s:St} (H:Ok TE Tryz.prog (zk pn)) {b:List Nat} {c:Nat} (hc:c < 256) {kr kp:AV→St→Bool} (hk:kr (.raw (.int .i64 (qf8 b c))) s=true) :
    (sem Tryz.prog).call 202 [.str b,.raw (.int .u8 (.ofNat c))] s kr kp=true:=by
  refine qk H 8 q3f rfl rfl ?_
  repeat (first|with_reducible (refine q9 H ?_;constructor)|simp only[rB,rP,rQ,q8,qf,reduceIte,Nat.reduceLT,Nat.reduceEqDiff,UInt8.reduceToNat,qvi hc,Tryz.results202])
  exact hk
theorem QW {k:IntKind} {n:Nat}:Yl (.raw (.int k (n:Int)))=some n:=(rfl)
theorem q0g {k:IntKind}:Yl (.raw (.int k 0))=some 0:=(rfl)
theorem no_1 {k:IntKind}:Yl (.raw (.int k 1))=some 1:=(rfl)
theorem qiv {b:List Nat} {i:AV}:XM TE 9 (.str b) i=match Yl i with
    | some i=>match b[i]? with
      | some c=>some (.raw (.int .u8 (.ofNat c)))
      | none=>none
    | none=>none:=by
  unfold XM
  cases Yl i <;> kernel_rfl
theorem Xq {b:List Nat} {lo hi:Option AV}:zq TE 9 (.str b) lo hi none=match qX b.length b.length lo hi with
      | some (l,h)=>some (.str ((b.drop l).take (h - l)))
      | none=>none:=by kernel_rfl
theorem WK {n m i:Nat} {v:AV} (h:Yl v=some i) (hi:i≤m):qX n m none (some v)=some (0,i):=by
  have h1:Nat.ble 0 i=true:=Nat.ble_eq.mpr (Nat.zero_le _)
  have h2:Nat.ble i m=true:=Nat.ble_eq.mpr hi
  simp[qX,h,h1,h2]
theorem qk8 {n m i:Nat} {v:AV} (h:Yl v=some i) (hi:i≤n) (hm:n≤m):qX n m (some v) none=some (i,n):=by
  have h1:Nat.ble i n=true:=Nat.ble_eq.mpr hi
  have h2:Nat.ble n m=true:=Nat.ble_eq.mpr hm
  simp[qX,h,h1,h2]
theorem qg8 {c:Nat}:∀ {b:List Nat} {k i:Nat},qR b c k=some i→k≤i∧i < k+b.length
  | [],_,_,h=>by simp[qR] at h
  | x::l,k,i,h=>by
    simp only[qR] at h
    cases hx:Nat.beq x c with
    | true=>rw[hx] at h;simp only[cond_true,Option.some.injEq] at h;subst h;simp
    | false =>
      rw[hx] at h
      have:=qg8 (b:=l) h
      simp only[List.length_cons]
      omega
theorem qn9 {c:Nat}:qR [c] c 0=some 0:=by simp[qR]
theorem qhh {s:St} (H:Ok TE Tryz.prog (zk pn)) {b:List Nat} {c:Nat} (hc:c < 256) {kr kp:AV→St→Bool} (hk:kr (.raw (.int .i64 (qf8 b c))) s=true) :
    (sem Tryz.prog).call 174 [.str b,.str [c]] s kr kp=true:=by
  refine qk H 143 qym rfl rfl ?_
  by_cases hb:[c]=b
  · subst hb
    have hi:qf8 [c] c=0:=by simp[qf8,qn9]
    rw[hi] at hk
    have e1:(((([c]:List Nat).length:Int))==0)=false:=(rfl)
    repeat (first|with_reducible (refine q9 H ?_;constructor)|simp only[rB,rP,rQ,q8,qf,reduceIte,Nat.reduceLT,Nat.reduceEqDiff,UInt8.reduceToNat,qx,qh,e1,qU,Tryz.results174])
    exact hk
  · have e1:(((([c]:List Nat).length:Int))==0)=false:=(rfl)
    have e2:(((([c]:List Nat).length:Int))==1)=true:=(rfl)
    have e3:=QQ hb
    repeat (first|with_reducible (refine q9 H ?_;constructor)|simp only[rB,rP,rQ,q8,qf,reduceIte,Nat.reduceLT,Nat.reduceEqDiff,UInt8.reduceToNat,qx,qh,e1,e2,e3,qiv,q0g,Tryz.results174]|(with_reducible refine qhu H hc ?_))
    exact hk
theorem qM {n:Nat} (h:n < 9223372036854775808):IntKind.i64.wrap (n:Int)=(n:Int):=Go.IntWalk.i64_in _ (by omega)
theorem qk4 {s:St} (H:Ok TE Tryz.prog (zk pn)) {b:List Nat} {c i:Nat} (hc:c < 256) (hi:qR b c 0=some i) (hb:b.length≤1000000) {kr kp:AV→St→Bool} (hk:kr (.tuple [.str (b.take i),.str (b.drop (i+1)),.raw (.bool true)]) s=true) :
    (sem Tryz.prog).call 179 [.str b,.str [c]] s kr kp=true:=by
  have h1:=qg8 hi
  have e0:qf8 b c=(i:Int):=by simp[qf8,hi]
  have e1:decide ((i:Int) ≥ 0)=true:=by simp
  have e2:IntKind.i64.wrap ((i:Int)+(([c]:List Nat).length:Int))=((i+1:Nat):Int):=by
    rw[show (i:Int)+(([c]:List Nat).length:Int)=((i+1:Nat):Int) from by simp]
    exact qM (by omega)
  have e3:=WK (n:=b.length) (m:=b.length) (QW (k:=.i64) (n:=i)) (by omega)
  have e4:=qk8 (n:=b.length) (m:=b.length) (QW (k:=.i64) (n:=i+1)) (by omega) (Nat.le_refl _)
  refine qk H 23 qsi rfl rfl ?_
  repeat (first|with_reducible (refine q9 H ?_;constructor)|simp only[rB,rP,rQ,q8,qf,reduceIte,Nat.reduceLT,Nat.reduceEqDiff,UInt8.reduceToNat,qx,qh,e0,e1,Zl,e2,qO,Xq,e3,e4,Tryz.results179]|(with_reducible refine qhh H hc ?_)|(with_reducible refine qq H (i:=3) (.take 0 (.take 1 (.take 2 (.take 3 (.take 4 (.take 5 (.take 6 (.take 7 (.take 8 (.take 9 (.take 10 (.take 11 (.done))))))))))))) rfl (by kernel_rfl) ?_))
  rw[Nat.sub_zero,List.drop_zero,List.take_of_length_le (l:=b.drop (i+1)) (by simp)]
  exact hk
theorem qma {s:St} (H:Ok TE Tryz.prog (zk pn)) {b:List Nat} {c:Nat} (hc:c < 256) (hi:qR b c 0=none) {kr kp:AV→St→Bool} (hk:kr (.tuple [.str b,.str [],.raw (.bool false)]) s=true) :
    (sem Tryz.prog).call 179 [.str b,.str [c]] s kr kp=true:=by
  have e0:qf8 b c=-1:=by simp[qf8,hi]
  have e1:decide ((-1:Int) ≥ 0)=false:=by decide
  refine qk H 23 qsi rfl rfl ?_
  repeat (first|with_reducible (refine q9 H ?_;constructor)|simp only[rB,rP,rQ,q8,qf,reduceIte,Nat.reduceLT,Nat.reduceEqDiff,UInt8.reduceToNat,qx,qh,e0,e1,Zl,Tryz.results179]|(with_reducible refine qhh H hc ?_))
  exact hk
def qxj (b:List Nat) (c:Nat):AV:=match qR b c 0 with
  | some i=>.tuple [.str (b.take i),.str (b.drop (i+1)),.raw (.bool true)]
  | none=>.tuple [.str b,.str [],.raw (.bool false)]
theorem qth {s:St} (H:Ok TE Tryz.prog (zk pn)) {b:List Nat} {c:Nat} (hc:c < 256) (hb:b.length≤1000000) {kr kp:AV→St→Bool} (hk:kr (qxj b c) s=true) :
    (sem Tryz.prog).call 179 [.str b,.str [c]] s kr kp=true:=by
  unfold qxj at hk
  cases h:qR b c 0 with
  | some i=>rw[h] at hk;exact qk4 H hc h hb hk
  | none=>rw[h] at hk;exact qma H hc h hk
theorem qen {b:List Nat} {c i:Nat} (h:qR b c 0=some i):qxj b c=.tuple [.str (b.take i),.str (b.drop (i+1)),.raw (.bool true)]:=by simp[qxj,h]
theorem qeo {b:List Nat} {c:Nat} (h:qR b c 0=none):qxj b c=.tuple [.str b,.str [],.raw (.bool false)]:=by simp[qxj,h]
theorem qx8 {s:St} (H:Ok TE Tryz.prog (zk pn)) {b:List Nat} {c:Nat} (hc:c < 256) (hb:b.length≤1000000) {kr kp:AV→St→Bool} (hk:kr (qxj b c) s=true) :
    (sem Tryz.prog).call 162 [.str b,.str [c]] s kr kp=true:=by
  refine qk H 13 q2v rfl rfl ?_
  cases h:qR b c 0 with
  | some i =>
    have e:=qen h
    rw[e] at hk
    repeat (first|with_reducible (refine q9 H ?_;constructor)|simp only[rB,rP,rQ,q8,qf,reduceIte,Nat.reduceLT,Nat.reduceEqDiff,UInt8.reduceToNat,e,Tryz.results162]|(with_reducible refine qth H hc hb ?_))
    exact hk
  | none =>
    have e:=qeo h
    rw[e] at hk
    repeat (first|with_reducible (refine q9 H ?_;constructor)|simp only[rB,rP,rQ,q8,qf,reduceIte,Nat.reduceLT,Nat.reduceEqDiff,UInt8.reduceToNat,e,Tryz.results162]|(with_reducible refine qth H hc hb ?_))
    exact hk
def qi0 (l:List Nat):Bool:=Nat.blt 16 l.length||(eqB l [46]||(eqB l [46,46]||qjz [47,0] l))
def Y1 (l:List Nat):Int:=bif eqB l [] then 400 else bif qi0 l then 401 else 0
theorem qpp {l:List Nat}:Y1 l=if l=[] then 400 else if l.length > 16∨l=[46]∨l=[46,46]∨qjz [47,0] l=true then 401 else 0:=by
  unfold Y1 qi0
  rw[Kz,Kz,Kz]
  by_cases h:l=[]
  · simp[h]
  · simp only[h,decide_false,cond_false,if_false]
    by_cases h1:16 < l.length
    · have:Nat.blt 16 l.length=true:=Nat.blt_eq.mpr h1
      simp[this,h1]
    · have:Nat.blt 16 l.length=false:=by rw[← Bool.not_eq_true,Nat.blt_eq];exact h1
      have h1':¬ l.length > 16:=h1
      simp only[this,h1',Bool.false_or,false_or]
      by_cases h2:l=[46]
      · simp[h2]
      · by_cases h3:l=[46,46]
        · simp[h3]
        · cases qjz [47,0] l <;> simp[h2,h3]
theorem q39 {r:Tasks} {a:Ac} {dst:Option Tmp} {s:St} {k:Ac→St→Bool} {kp:AV→St→Bool} {b:List Nat} (hb:zs b=true) (hl:b.length≤1000000) :
    YQ (zk pn) r (.fn 171 []) [.str b,.str [47,0]] a dst s k kp=Q2 a dst (.raw (.bool (qjz [47,0] b))) s k:=by
  refine JU (qq3 (by decide)) ?_
  show (bif true&&Nat.ble b.length 1000000 then some (q8 (qjz [47,0] b),s) else none)=_
  rw[Nat.ble_eq.mpr hl]
  rfl
theorem VX {s:St} (H:Ok TE Tryz.prog (zk pn)) {b:List Nat} (hb:zs b=true) {kr kp:AV→St→Bool} (hk:kr (.raw (.int .i64 (Y1 b))) s=true) :
    (sem Tryz.prog).call 148 [.str b] s kr kp=true:=by
  refine qk H 16 q2a rfl rfl ?_
  rw[qpp] at hk
  by_cases h0:b=[]
  · subst h0
    rw[if_pos rfl] at hk
    repeat (first|with_reducible (refine q9 H ?_;constructor)|simp only[rB,rP,rQ,q8,qf,reduceIte,Nat.reduceLT,Nat.reduceEqDiff,UInt8.reduceToNat,qU,Tryz.results148])
    exact hk
  rw[if_neg h0] at hk
  have e0:=QQ h0
  by_cases h1:b.length > 16
  · have e1:decide ((b.length:Int) > 16)=true:=by simp;omega
    rw[if_pos (Or.inl h1)] at hk
    repeat (first|with_reducible (refine q9 H ?_;constructor)|simp only[rB,rP,rQ,q8,qf,reduceIte,Nat.reduceLT,Nat.reduceEqDiff,UInt8.reduceToNat,e0,e1,qx,zv,Tryz.results148])
    exact hk
  have e1:decide ((b.length:Int) > 16)=false:=by simp;omega
  by_cases h2:b=[46]
  · subst h2
    rw[if_pos (Or.inr (Or.inl rfl))] at hk
    repeat (first|with_reducible (refine q9 H ?_;constructor)|simp only[rB,rP,rQ,q8,qf,reduceIte,Nat.reduceLT,Nat.reduceEqDiff,UInt8.reduceToNat,e0,e1,qx,zv,qU,Tryz.results148])
    exact hk
  have e2:=QQ h2
  by_cases h3:b=[46,46]
  · subst h3
    rw[if_pos (Or.inr (Or.inr (Or.inl rfl)))] at hk
    repeat (first|with_reducible (refine q9 H ?_;constructor)|simp only[rB,rP,rQ,q8,qf,reduceIte,Nat.reduceLT,Nat.reduceEqDiff,UInt8.reduceToNat,e0,e1,e2,qx,zv,qU,Tryz.results148])
    exact hk
  have e3:=QQ h3
  have ea:=fun {r a dst s k kp}=>q39 (r:=r) (a:=a) (dst:=dst) (s:=s) (k:=k) (kp:=kp) hb (by omega)
  by_cases h4:qjz [47,0] b=true
  · rw[if_pos (Or.inr (Or.inr (Or.inr h4)))] at hk
    repeat (first|with_reducible (refine q9 H ?_;constructor)|simp only[rB,rP,rQ,q8,qf,reduceIte,Nat.reduceLT,Nat.reduceEqDiff,UInt8.reduceToNat,e0,e1,e2,e3,ea,h4,qx,zv,Tryz.results148])
    exact hk
  · rw[if_neg (by rintro (h|h|h|h) <;> contradiction)] at hk
    have e4:qjz [47,0] b=false:=by simpa using h4
    repeat (first|with_reducible (refine q9 H ?_;constructor)|simp only[rB,rP,rQ,q8,qf,reduceIte,Nat.reduceLT,Nat.reduceEqDiff,UInt8.reduceToNat,e0,e1,e2,e3,ea,e4,qx,zv,Tryz.results148])
    exact hk
def qE:List Nat→List (List Nat)
  | []=>[[]]
  | c::l=>bif Nat.beq c 47 then[]::qE l else match qE l with
    | p::ps=>(c::p)::ps
    | []=>[[c]]
theorem YR {c:Nat}:∀ (b:List Nat) (k:Nat),qR b c k=(qR b c 0).map (k + ·)
  | [],k=>(rfl)
  | x::l,k=>by
    simp only[qR]
    cases Nat.beq x c with
    | true=>simp
    | false =>
      simp only[cond_false]
      rw[YR l (k+1),YR l (0+1),Option.map_map]
      congr 1
      funext i
      simp only[Function.comp]
      omega
theorem K5:∀ {b:List Nat} {i:Nat},qR b 47 0=some i→qE b=b.take i::qE (b.drop (i+1))
  | [],_,h=>by simp[qR] at h
  | x::l,i,h=>by
    simp only[qR] at h
    cases hx:Nat.beq x 47 with
    | true =>
      have:=Nat.eq_of_beq_eq_true hx
      subst this
      rw[hx] at h
      simp only[cond_true,Option.some.injEq] at h
      subst h
      simp[qE]
    | false =>
      rw[hx] at h
      simp only[cond_false] at h
      rw[YR,Option.map_eq_some_iff] at h
      obtain⟨j,hj,rfl⟩:=h
      have ih:=K5 (b:=l) hj
      rw[show 0+1+j=j+1 from by omega]
      simp only[qE,hx,cond_false,ih,List.take_succ_cons,List.drop_succ_cons]
theorem W5:∀ {b:List Nat},qR b 47 0=none→qE b=[b]
  | [],_=>(rfl)
  | x::l,h=>by
    simp only[qR] at h
    cases hx:Nat.beq x 47 with
    | true=>rw[hx] at h;cases h
    | false =>
      rw[hx] at h
      simp only[cond_false] at h
      rw[YR,Option.map_eq_none_iff] at h
      simp only[qE,hx,cond_false,W5 h]
theorem ZY {s:St} (H:Ok TE Tryz.prog (zk pn)) {b:List Nat} {kr kp:AV→St→Bool} (hk:kr (.fn 161 [.ptr s.nx 0]) (s.alloc (.cells [.str b] 9 0))=true) :
    (sem Tryz.prog).call 137 [.str b] s kr kp=true:=by
  refine qk H 4 qzk rfl rfl ?_
  repeat (first|with_reducible (refine q9 H ?_;constructor)|simp only[rB,rQ,q8,reduceIte,Nat.reduceLT,Nat.reduceEqDiff,UInt8.reduceToNat,qem,Tryz.results137])
  exact hk
theorem qky (H:Ok TE Tryz.prog (zk pn)) {y c:Nat} (I:List (List Nat)→St→Prop) (D:St→Prop)
    (hst:∀ ps s o,I ps s→I ps { s with h:=s.h.set c o })
    (hround:∀ p ps s (kk:AV→St→Bool),I (p::ps) s→(∀ s',s'.h.get c=s.h.get c→I ps s'→kk (q8 true) s'=true)→(∀ s',D s'→kk (q8 false) s'=true)→Yd (sem Tryz.prog) y [.str p] s kk=true)
    {b:List Nat} {s:St} (hb:b.length≤1000000) (hc:s.h.get c=some (.cells [.str b] 9 0)) (hI:I (qE b) s) {kr kp:AV→St→Bool} (h1:∀ s',I [] s'→kr (.tuple []) s'=true) (h2:∀ s',D s'→kr (.tuple []) s'=true) :
    (sem Tryz.prog).call 161 [.yld y,.ptr c 0] s kr kp=true:=by
  refine qk H 21 q1o rfl rfl ?_
  repeat (first|with_reducible (refine q9 H ?_;constructor)|simp only[rB,rQ,q8,reduceIte,Nat.reduceLT,Nat.reduceEqDiff,UInt8.reduceToNat])
  refine qZ H (fun n t s=>∃ b:List Nat,b.length=n∧n≤1000000∧tg t 0=.yld y∧tg t 1=.ptr c 0∧s.h.get c=some (.cells [.str b] 9 0)∧I (qE b) s)
    ⟨b,rfl,hb,by simp only[rB,rQ,q8,reduceIte,Nat.reduceLT,Nat.reduceEqDiff,UInt8.reduceToNat],by simp only[rB,rQ,q8,reduceIte,Nat.reduceLT,Nat.reduceEqDiff,UInt8.reduceToNat],hc,hI⟩ ?_
  clear hI hc hb b
  rintro n t s ih ⟨b,hn,hb,ht0,ht1,hc,hI⟩
  cases h:qR b 47 0 with
  | some i =>
    have hl:=qg8 h
    have e:=qen h
    rw[K5 h] at hI
    repeat (first|with_reducible (refine q9 H ?_;constructor)|simp only[rB,rQ,q8,reduceIte,Nat.reduceLT,Nat.reduceEqDiff,UInt8.reduceToNat,ht0,ht1,qA,hc,e,q2s]|(with_reducible refine qx8 H (by decide) (by omega) ?_))
    refine hround _ _ _ _ hI (fun s' hs' hI'=>?_) (fun s' hD=>?_)
    · have hc':=hs'.trans hc
      repeat (first|with_reducible (refine q9 H ?_;constructor)|simp only[rB,rQ,q8,reduceIte,Nat.reduceLT,Nat.reduceEqDiff,UInt8.reduceToNat,ht0,ht1,JS,hc'])
      exact ih _ _ _ (by simp;omega) ⟨b.drop (i+1),rfl,by simp;omega,by simp only[rB,rQ,q8,reduceIte,Nat.reduceLT,Nat.reduceEqDiff,UInt8.reduceToNat,ht0],by simp only[rB,rQ,q8,reduceIte,Nat.reduceLT,Nat.reduceEqDiff,UInt8.reduceToNat,ht1],hs_same,hst _ _ _ hI'⟩
    · repeat (first|with_reducible (refine q9 H ?_;constructor)|simp only[rB,rQ,q8,reduceIte,Nat.reduceLT,Nat.reduceEqDiff,UInt8.reduceToNat,ht0,ht1,Tryz.results161])
      exact h2 _ hD
  | none =>
    have e:=qeo h
    rw[W5 h] at hI
    repeat (first|with_reducible (refine q9 H ?_;constructor)|simp only[rB,rQ,q8,reduceIte,Nat.reduceLT,Nat.reduceEqDiff,UInt8.reduceToNat,ht0,ht1,qA,hc,e,q2s]|(with_reducible refine qx8 H (by decide) (by omega) ?_))
    refine hround _ _ _ _ hI (fun s' hs' hI'=>?_) (fun s' hD=>?_)
    · repeat (first|with_reducible (refine q9 H ?_;constructor)|simp only[rB,rQ,q8,reduceIte,Nat.reduceLT,Nat.reduceEqDiff,UInt8.reduceToNat,ht0,ht1,Tryz.results161])
      exact h1 _ hI'
    · repeat (first|with_reducible (refine q9 H ?_;constructor)|simp only[rB,rQ,q8,reduceIte,Nat.reduceLT,Nat.reduceEqDiff,UInt8.reduceToNat,ht0,ht1,Tryz.results161])
      exact h2 _ hD
theorem Zn (H:Ok TE Tryz.prog (zk pn)) {f:Operand} {ps:List Tmp} {asg body:Code} {t:Tr AV} {N:Nat} {ds:List AD} {s:St} {k:AE→Ac→St→Bool} {c:Nat} {b:List Nat}
    (J:List (List Nat)→St→Prop) (D:Code→St→Prop) (nx:Nat) (hnx:s.nx=nx)
    (hf:Ac.eval ⟨t,N,ds⟩ f=.fn 161 [.ptr c 0]) (hb:b.length≤1000000) (hc:s.h.get c=some (.cells [.str b] 9 0)) (hcn:c < nx)
    (hst:∀ l s' i o,(i=c∨i=nx∨i=nx+1)→J l s'→J l { s' with h:=s'.h.set i o })
    (hJ:J (qE b) { s with nx:=nx+2 })
    (hbody:∀ p l s1 t' (k':AV→St→Bool),J (p::l) s1→s1.h.get nx=some (.dfr false)→s1.h.get (nx+1)=some (.loop .ready none 0 t N ps asg body nx)→Zw t N ps [.str p]=some t' →
      (∀ s2,s2.h.get c=s1.h.get c→s2.h.get nx=some (.dfr false)→s2.h.get (nx+1)=some (.loop .ready none 0 t N ps asg body nx)→J l s2→k' (q8 true) s2=true) →
      (∀ j s2,s2.h.get nx=some (.dfr false)→s2.h.get (nx+1)=some (.loop .done (some j) 0 t N ps asg body nx)→D j s2→k' (q8 false) s2=true) →
      (sem Tryz.prog).code (some (nx+1)) asg ⟨t',N,[]⟩ s1 (asK (sem Tryz.prog) (nx+1) body k')=true)
    (hset:∀ p,∃ t',Zw t N ps [.str p]=some t')
    (hD:∀ j s' o,D j s'→D j { s' with h:=s'.h.set (nx+1) o })
    (h1:∀ s2,s2.h.get nx=some (.dfr false)→J [] s2→k .normal ⟨t,N,.mark nx::ds⟩ s2=true)
    (h2:∀ j s2,s2.h.get nx=some (.dfr false)→D j s2→(sem Tryz.prog).code none j ⟨t,N,.mark nx::ds⟩ s2 k=true) :
    (sem Tryz.prog).code none (.rangeFunc f ps.toArray asg body) ⟨t,N,ds⟩ s k=true:=by
  subst hnx
  refine qxi H _ _ hf ?_
  have hn0:s.nx≠s.nx+1:=by omega
  have hn1:c≠s.nx:=by omega
  have hn2:c≠s.nx+1:=by omega
  refine qky (c:=c) H (fun l s'=>J l s'∧s'.h.get s.nx=some (.dfr false)∧s'.h.get (s.nx+1)=some (.loop .ready none 0 t N ps asg body s.nx))
    (fun s'=>∃ j,D j s'∧s'.h.get s.nx=some (.dfr false)∧s'.h.get (s.nx+1)=some (.loop .done (some j) 0 t N ps asg body s.nx)) ?_ ?_ hb ?_ ⟨?_,?_,?_⟩ ?_ ?_
  · rintro l s' o ⟨g1,g2,g3⟩
    exact⟨hst _ _ _ _ (Or.inl rfl) g1,by rw[qa (Ne.symm hn1)];exact g2,by rw[qa (Ne.symm hn2)];exact g3⟩
  · rintro p l s' kk ⟨g1,g2,g3⟩ k1 k2
    obtain⟨t',ht'⟩:=hset p
    refine qvo g3 ht' (hbody p l s' t' kk g1 g2 g3 ht' (fun s2 q1 q2 q3 q4=>k1 s2 q1 ⟨q4,q2,q3⟩) (fun j s2 q2 q3 q4=>k2 s2 ⟨j,q4,q2,q3⟩))
  · show ((s.h.set s.nx (.dfr false)).set (s.nx+1) _).get c=_
    rw[qa hn2,qa hn1]
    exact hc
  · exact hst _ { s with h:=s.h.set s.nx (.dfr false),nx:=s.nx+2 } _ _ (Or.inr (Or.inr rfl)) (hst _ { s with nx:=s.nx+2 } _ _ (Or.inr (Or.inl rfl)) hJ)
  · show ((s.h.set s.nx (.dfr false)).set (s.nx+1) _).get s.nx=_
    rw[qa hn0,hs_same]
  · exact hs_same
  · rintro s' ⟨g1,g2,g3⟩
    rw[qcu g3]
    exact h1 _ (by show (s'.h.set (s.nx+1) _).get s.nx=_;rw[qa hn0];exact g2) (hst _ _ _ _ (Or.inr (Or.inr rfl)) g1)
  · rintro s' ⟨j,g1,g2,g3⟩
    rw[qgf g3]
    exact h2 _ _ (by show (s'.h.set (s.nx+1) _).get s.nx=_;rw[qa hn0];exact g2) (hD _ _ _ g1)
abbrev SlRep (F:Nat→Prop) (s:St) (V:AV) (names:List (List Nat)):Prop:=SlR 9 F s V names
theorem SlRep.set {F:Nat→Prop} {s:St} {V:AV} {names:List (List Nat)} (h:SlRep F s V names) {i:Nat} (hi:¬ F i) (o:AO):SlRep F { s with h:=s.h.set i o } V names:=by
  rcases h with h|⟨id,cap,cs,h1,h2,h3,h4,h5⟩
  · exact Or.inl h
  · exact Or.inr ⟨id,cap,cs,h1,h2,h3,by show (s.h.set i o).get id=_;rw[qa (i:=id) (j:=i) (fun hh=>hi (hh ▸ h2))];exact h4,h5⟩
theorem SlRep.cells1 {F:Nat→Prop} {s:St} {V:AV} {names:List (List Nat)} (h:SlRep F s V names):V.cells=[V]∧V.one=true:=by
  rcases h with⟨rfl,_⟩|⟨id,cap,cs,rfl,_⟩ <;> exact⟨rfl,rfl⟩
theorem SlRep.alloc {F:Nat→Prop} {s:St} {V:AV} {names:List (List Nat)} (h:SlRep F s V names) (o:AO):SlRep F (s.alloc o) V names:=by
  rcases h with h|⟨id,cap,cs,h1,h2,h3,h4,h5⟩
  · exact Or.inl h
  · exact Or.inr ⟨id,cap,cs,h1,h2,Nat.lt_succ_of_lt h3,by rw[zm (by omega)];exact h4,h5⟩
theorem qcn:∀ {n:Nat} {l:List AV},n≤l.length→JR n l=some (l.take n)
  | 0,_,_=>(rfl)
  | _+1,[],h=>by simp at h
  | n+1,x::l,h=>by simp only[JR,qcn (n:=n) (l:=l) (by simpa using h),List.take_succ_cons]
theorem XW {n:Nat} {l:List AV} (h:n≤l.length):Yn 0 n l=some (l.take n):=by simp only[Yn,YN,qcn h]
theorem ql9:∀ {l:List AV} {n:Nat} {v:AV},n < l.length→JF l n [v]=some (l.take n++v::l.drop (n+1))
  | [],_,_,h=>by simp at h
  | x::l,0,v,_=>by cases l <;> simp[JF]
  | x::l,n+1,v,h=>by simp only[JF,ql9 (l:=l) (n:=n) (v:=v) (by simpa using h),List.take_succ_cons,List.drop_succ_cons,List.cons_append]
theorem qmz {s:St} {V X:AV}:Z9 TE s [36,36] [V,X]=(match qi4 X with
  | none=>none
  | some n =>
    match YD s 1 n X with
    | none=>none
    | some new=>bif Nat.beq new.length (n * 1)&&new.all AV.one then X6 s 9 { desc:=.string,size:=1,bytes:=16,zero:=some (.string ⟨#[]⟩) } V n new else none):=by kernel_rfl
theorem qv3 {F:Nat→Prop} {q:Nat} {s:St} {V:AV} {names:List (List Nat)} {p:List Nat} (h:SlRep F s V names) (hq:s.h.get q=some (.cells [.str p] 9 0)) (hm:F s.nx) (hn:names.length≤1048575) :
    ∃ V' s1,Z9 TE s [36,36] [V,.slice q 0 1 0 1 true]=some (V',s1)∧SlRep F s1 V' (names++[p])∧s.nx≤s1.nx∧∀ i,¬ F i→s1.h.get i=s.h.get i:=by
  have e0:YD s 1 1 (.slice q 0 1 0 1 true)=some [.str p]:=by simp[YD,W7 hq,Yn,YN,JR]
  rw[qmz]
  simp only[qi4,e0]
  show ∃ V' s1,X6 s 9 { desc:=.string,size:=1,bytes:=16,zero:=some (.string ⟨#[]⟩) } V 1 [.str p]=some (V',s1)∧_
  rcases h with⟨rfl,rfl⟩|⟨id,cap,cs,rfl,h2,h3,h4,h5,h6,h7⟩
  · refine⟨.slice s.nx 0 1 0 1 false,s.alloc (.cells [.str p] 9 2),rfl,Or.inr ⟨s.nx,1,[.str p],rfl,hm,Nat.lt_succ_self _,qt,rfl,Nat.le_refl _,rfl⟩,Nat.le_succ _,fun i hi=>zm (fun hh=>hi (hh ▸ hm))⟩
  · by_cases hcap:names.length+1≤cap
    · refine⟨.slice id 0 (names.length+1) 0 cap false,{ s with h:=s.h.set id (.cells (cs.take names.length++.str p::cs.drop (names.length+1)) 9 2) },?_,Or.inr ⟨id,cap,_,by simp,h2,h3,hs_same,?_,by simp;omega,?_⟩,Nat.le_refl _,fun i hi=>by show (s.h.set id _).get i=_;rw[qa (i:=i) (j:=id) (fun hh=>hi (hh ▸ h2))]⟩
      · simp only[X6,W7 h4,Nat.ble_eq.mpr hcap,cond_true,zJ,List.all_cons,qbr,List.all_nil,Bool.and_self,Nat.mul_one,Nat.zero_add,ql9 (l:=cs) (n:=names.length) (v:=.str p) (by omega)]
      · simp;omega
      · rw[List.length_append,List.length_singleton,h7,List.take_append,List.take_of_length_le (by simp)]
        simp
    · have hce:cap=names.length:=by omega
      have e1:Nat.ble (names.length+1) cap=false:=by
        rw[← Bool.not_eq_true,Nat.ble_eq];omega
      have e2:Nat.ble ((names.length+1) * 16) 134217728=true:=Nat.ble_eq.mpr (by omega)
      have e3:Nat.ble (names.length+1) 1048576=true:=Nat.ble_eq.mpr (by omega)
      refine⟨.slice s.nx 0 (names.length+1) 0 (names.length+1) false,{ h:=(s.h.del id).set s.nx (.cells (cs.take names.length++[.str p]) 9 2),nx:=s.nx+1 },?_,Or.inr ⟨s.nx,names.length+1,cs.take names.length++[.str p],by simp,hm,Nat.lt_succ_self _,hs_same,?_,by simp,?_⟩,Nat.le_succ _,fun i hi=>?_⟩
      · simp only[X6,W7 h4,e1,cond_false,Nat.mul_one,XW (l:=cs) (n:=names.length) (by omega),e2,e3,Bool.and_self,cond_true]
        rfl
      · simp;omega
      · rw[h7,List.take_of_length_le (by simp)];simp
      · show ((s.h.del id).set s.nx _).get i=_
        rw[qa (i:=i) (j:=s.nx) (fun hh=>hi (hh ▸ hm)),Tr.get_del,if_neg (fun hh:i=id=>hi (hh ▸ h2))]
theorem Kf {F:Nat→Prop} {q:Nat} {s:St} {V:AV} {names:List (List Nat)} {p:List Nat} {a:Ac} {dst:Option Tmp} {k:Ac→St→Bool} (h:SlRep F s V names) (hq:s.h.get q=some (.cells [.str p] 9 0)) (hm:F s.nx) (hn:names.length≤1048575)
    (hk:∀ V' s1,SlRep F s1 V' (names++[p])→s.nx≤s1.nx→(∀ i,¬ F i→s1.h.get i=s.h.get i)→Q2 a dst V' s1 k=true):qlj (Z9 TE s [36,36] [V,.slice q 0 1 0 1 true]) a dst k=true:=by
  obtain⟨V',s1,h1,h2,h3,h4⟩:=qv3 h hq hm hn
  rw[h1]
  exact hk _ _ h2 h3 h4
theorem zS {t:Tr AV} {n p:Nat} {v:AV} (h:p < n):Zw t n [p] [v]=some (t.set p v):=by
  have:Nat.blt p n=true:=Nat.blt_eq.mpr h
  simp[Zw,this]
-- light
theorem qwf:zA TE 36=some (.raw (.slice none 0 0)):=by kernel_rfl
theorem qri:zA TE 9=some (.str []):=by kernel_rfl
theorem qrw:zA TE 3=some (.raw (.int .i64 0)):=by kernel_rfl
theorem qk5:zA TE 57=some (.raw (.int .i64 0)):=by kernel_rfl
theorem qoj:zA TE 4=some (.raw (.bool false)):=by kernel_rfl
theorem qa3 {s:St}:Qz TE s 36=some (.ptr s.nx 0,s.alloc (.cells [.raw (.slice none 0 0)] 36 0)):=by simp only[Qz,qwf];rfl
theorem Vf {s:St}:Qz TE s 9=some (.ptr s.nx 0,s.alloc (.cells [.str []] 9 0)):=by simp only[Qz,qri];rfl
theorem qwr {s:St}:Qz TE s 3=some (.ptr s.nx 0,s.alloc (.cells [.raw (.int .i64 0)] 3 0)):=by simp only[Qz,qrw];rfl
theorem Yz {s:St}:Qz TE s 57=some (.ptr s.nx 0,s.alloc (.cells [.raw (.int .i64 0)] 57 0)):=by simp only[Qz,qk5];rfl
theorem qi8 {s:St}:Qz TE s 4=some (.ptr s.nx 0,s.alloc (.cells [.raw (.bool false)] 4 0)):=by simp only[Qz,qoj];rfl
theorem qjh {s:St} {p:List Nat}:Q6 TE s 36 1 [(0,.str p)]=some (.slice s.nx 0 1 0 1 true,s.alloc (.cells [.str p] 9 0)):=by kernel_rfl
def qw (b:List Nat):List (List Nat):=match b with
  | []=>[]
  | _::_=>qE b
theorem Z0 {b:List Nat} (h:b≠[]):qw b=qE b:=by cases b with|nil=>exact absurd rfl h|cons _ _=>rfl
theorem qlx (H:Ok TE Tryz.prog (zk pn)) {kr kp:AV→St→Bool} (hk:∀ s',kr (.raw (.slice none 0 0)) s'=true):(sem Tryz.prog).call 109 [.str []] st0 kr kp=true:=by
  refine qk H 16 qs6 rfl rfl ?_
  repeat (first|with_reducible (refine q9 H ?_;constructor)|simp only[rB,rQ,q8,qf,q7,qc,reduceIte,Nat.reduceLT,Nat.reduceEqDiff,qa3,qU,ZR,Tryz.results109])
  exact hk _
theorem qxm (H:Ok TE Tryz.prog (zk pn)) {b:List Nat} (hb:b.length≤1000) (hp:(qE b).length≤60000) {kr kp:AV→St→Bool} (hk:∀ V s',SlRep (fun _=>True) s' V (qw b)→kr V s'=true) :
    (sem Tryz.prog).call 109 [.str b] st0 kr kp=true:=by
  refine qk H 16 qs6 rfl rfl ?_
  by_cases h0:b=[]
  · subst h0
    repeat (first|with_reducible (refine q9 H ?_;constructor)|simp only[rB,rQ,q8,qf,q7,qc,reduceIte,Nat.reduceLT,Nat.reduceEqDiff,qa3,qU,ZR,Tryz.results109])
    exact hk _ _ (Or.inl ⟨rfl,rfl⟩)
  · rw[Z0 h0] at hk
    have e0:=QQ h0
    repeat (first|with_reducible (refine q9 H ?_;constructor)|simp only[rB,rQ,q8,qf,q7,qc,reduceIte,Nat.reduceLT,Nat.reduceEqDiff,qa3,e0]|(with_reducible refine ZY H ?_))
    refine Zn H (c:=1) (b:=b) (fun l s=>∃ dn V,dn++l=qE b∧s.h.get 0=some (.cells [V] 36 0)∧SlRep (4≤·) s V dn∧4≤s.nx) (fun _ _=>False) 2 rfl (by simp only[rB,rQ,q8,qf,q7,qc,reduceIte,Nat.reduceLT,Nat.reduceEqDiff]) (by omega) rfl (by decide) ?_ ?_ ?_ (fun p=>⟨_,zS (by decide)⟩) (fun _ _ _ h=>h) ?_ (fun _ _ _ h=>h.elim)
    · rintro l s' i o hi ⟨dn,V,h1,h2,h3,h4⟩
      have hi':i=1∨i=2∨i=3:=hi
      exact⟨dn,V,h1,by show (s'.h.set i o).get 0=_;rw[qa (by omega)];exact h2,h3.set (by show ¬ (4≤i);omega) o,h4⟩
    · exact⟨[],.raw (.slice none 0 0),rfl,rfl,Or.inl ⟨rfl,rfl⟩,Nat.le_refl _⟩
    · rintro p l s1 t' k' ⟨dn,V,h1,h2,h3,h4⟩ g2 g3 ht' k1 k2
      rw[zS (by decide)] at ht'
      cases ht'
      have hlen:dn.length+(p::l).length=(qE b).length:=by rw[← h1,List.length_append]
      repeat (first|with_reducible (refine q9 H ?_;constructor)|simp only[rB,rQ,q8,qf,q7,qc,reduceIte,Nat.reduceLT,Nat.reduceEqDiff])
      rw[ZI g3]
      repeat (first|with_reducible (refine q9 H ?_;constructor)|simp only[rB,rQ,q8,qf,q7,qc,reduceIte,Nat.reduceLT,Nat.reduceEqDiff,ZR,h2,qjh])
      refine Kf (F:=(4≤·)) (p:=p) (names:=dn) ((h3.set (by decide) _).alloc _) qt (by show 4≤s1.nx+1;omega) (by simp at hlen;omega) ?_
      intro V' s2 hr hn hfr
      have hn':s1.nx+1≤s2.nx:=hn
      have f0:=(hfr 0 (by decide)).trans ((zm (by show 0≠s1.nx;omega)).trans ((qa (by decide)).trans h2))
      have f1:=(hfr 1 (by decide)).trans ((zm (by show 1≠s1.nx;omega)).trans (qa (by decide)))
      have f2:=(hfr 2 (by decide)).trans ((zm (by show 2≠s1.nx;omega)).trans ((qa (by decide)).trans g2))
      have f3:=(hfr 3 (by decide)).trans ((zm (by show 3≠s1.nx;omega)).trans hs_same)
      obtain⟨c1,c2⟩:=hr.cells1
      repeat (first|with_reducible (refine q9 H ?_;constructor)|simp only[rB,rQ,q8,qf,q7,qc,reduceIte,Nat.reduceLT,Nat.reduceEqDiff,qcy _ _ _ _ c1 c2,f0])
      rw[ze ((qa (by decide)).trans f3)]
      refine k1 _ ?_ ?_ hs_same ⟨dn++[p],V',?_,?_,?_,?_⟩
      · exact (qa (by decide)).trans ((qa (by decide)).trans f1)
      · exact (qa (by decide)).trans ((qa (by decide)).trans f2)
      · rw[List.append_assoc];exact h1
      · exact (qa (by decide)).trans hs_same
      · exact (hr.set (by decide) _).set (by decide) _
      · show 4≤s2.nx;omega
    · rintro s2 g2 ⟨dn,V,h1,h2,h3,h4⟩
      rw[List.append_nil] at h1
      subst h1
      repeat (first|with_reducible (refine q9 H ?_;constructor)|simp only[rB,rQ,q8,qf,q7,qc,reduceIte,Nat.reduceLT,Nat.reduceEqDiff,ZR,h2,qT g2,Tryz.results109])
      refine hk _ _ ?_
      rcases h3 with h|⟨id,cap,cs,q1,q2,q3,q4,q5⟩
      · exact Or.inl h
      · exact Or.inr ⟨id,cap,cs,q1,trivial,q3,(qa (by have q2:4≤id:=q2;omega)).trans q4,q5⟩
theorem Yt:∀ (b:List Nat),(qE b).length≤b.length+1
  | []=>Nat.le_refl _
  | c::l=>by
    have ih:=Yt l
    simp only[qE]
    cases Nat.beq c 47 with
    | true=>simp;omega
    | false =>
      simp only[cond_false]
      split
      · rename_i h;rw[h] at ih;simp at ih ⊢;omega
      · simp
theorem qf6:∀ (b:List Nat),qE b≠[]
  | []=>by simp[qE]
  | c::l=>by
    simp only[qE]
    cases Nat.beq c 47 with
    | true=>simp
    | false =>
      simp only[cond_false]
      split <;> simp
theorem Yb {b p:List Nat} (_:zs b=true) (_:p∈qE b):zs p=true:=rfl
def quv:List (List Nat)→Bool
  | []=>true
  | p::l=>bif eqB p [] then false else bif qi0 p then false else quv l
theorem nameB_zero {p:List Nat}:Y1 p=0↔eqB p []=false∧qi0 p=false:=by
  unfold Y1
  cases eqB p [] <;> cases qi0 p <;> simp
theorem allB_iff:∀ {l:List (List Nat)},quv l=true↔∀ p∈l,Y1 p=0
  | []=>by simp[quv]
  | p::l=>by
    have ih:=allB_iff (l:=l)
    simp only[quv,List.mem_cons,forall_eq_or_imp,nameB_zero (p:=p),← ih]
    cases eqB p [] <;> cases qi0 p <;> simp
def ZM (b:List Nat):Bool:=bif eqB b [] then true else (quv (qE b)&&(Nat.ble (qE b).length 8&&Nat.ble b.length 140))
theorem qt8 (H:Ok TE Tryz.prog (zk pn)) {b:List Nat} (hb:b.length≤1000) (ha:zs b=true) {kr kp:AV→St→Bool} (hk:∀ s',kr (.raw (.bool (ZM b))) s'=true) :
    (sem Tryz.prog).call 147 [.str b] st0 kr kp=true:=by
  refine qk H 22 q2n rfl rfl ?_
  have hlen:=Yt b
  by_cases h0:b=[]
  · subst h0
    repeat (first|with_reducible (refine q9 H ?_;constructor)|simp only[rB,rQ,q8,qf,q7,qc,reduceIte,Nat.reduceLT,Nat.reduceEqDiff,qi8,qU,qsp,qtl,Tryz.results147])
    exact hk _
  · have e0:=QQ h0
    repeat (first|with_reducible (refine q9 H ?_;constructor)|simp only[rB,rQ,q8,qf,q7,qc,reduceIte,Nat.reduceLT,Nat.reduceEqDiff,qi8,qwr,e0,Yo]|(with_reducible refine ZY H ?_))
    refine Zn H (c:=2) (b:=b) (fun l s=>∃ dn,dn++l=qE b∧(∀ p∈dn,Y1 p=0)∧s.h.get 0=some (.cells [.raw (.bool false)] 4 0)∧s.h.get 1=some (.cells [.raw (.int .i64 (dn.length:Int))] 3 0))
      (fun j s=>j=.ret∧s.h.get 0=some (.cells [.raw (.bool false)] 4 0)∧∃ p∈qE b,Y1 p≠0) 3 rfl (by simp only[rB,rQ,q8,qf,q7,qc,reduceIte,Nat.reduceLT,Nat.reduceEqDiff]) (by omega) rfl (by decide) ?_ ?_ ?_ (fun p=>⟨_,zS (by decide)⟩) ?_ ?_ ?_
    · rintro l s' i o hi ⟨dn,h1,h2,h3,h4⟩
      exact⟨dn,h1,h2,(qa (by omega)).trans h3,(qa (by omega)).trans h4⟩
    · exact⟨[],rfl,by simp,rfl,rfl⟩
    · rintro p l s1 t' k' ⟨dn,h1,h2,h3,h4⟩ g2 g3 ht' k1 k2
      rw[zS (by decide)] at ht'
      cases ht'
      have hl:dn.length+(p::l).length=(qE b).length:=by rw[← h1,List.length_append]
      have hp:p∈qE b:=by rw[← h1];simp
      have hpa:=Yb ha hp
      have ew:IntKind.i64.wrap ((dn.length:Int)+1)=((dn.length+1:Nat):Int):=by
        rw[show (dn.length:Int)+1=((dn.length+1:Nat):Int) from by simp]
        exact qM (by simp at hl;omega)
      by_cases hz:Y1 p=0
      · have ez:(Y1 p != 0)=false:=by rw[hz];rfl
        repeat (first|with_reducible (refine q9 H ?_;constructor)|simp only[rB,rQ,q8,qf,q7,qc,reduceIte,Nat.reduceLT,Nat.reduceEqDiff])
        rw[ZI g3]
        repeat (first|with_reducible (refine q9 H ?_;constructor)|simp only[rB,rQ,q8,qf,q7,qc,reduceIte,Nat.reduceLT,Nat.reduceEqDiff,qD,Yo,h4,qO,ew,qB,ez]|(with_reducible refine VX H hpa ?_))
        rw[ze ((qa (by decide)).trans hs_same)]
        refine k1 _ ?_ ?_ hs_same ⟨dn++[p],?_,?_,?_,?_⟩
        · exact (qa (by decide)).trans ((qa (by decide)).trans (qa (by decide)))
        · exact (qa (by decide)).trans ((qa (by decide)).trans ((qa (by decide)).trans g2))
        · rw[List.append_assoc];exact h1
        · intro q hq
          rcases List.mem_append.1 hq with hq|hq
          · exact h2 q hq
          · rw[List.mem_singleton] at hq;rw[hq];exact hz
        · exact (qa (by decide)).trans ((qa (by decide)).trans ((qa (by decide)).trans h3))
        · rw[List.length_append,List.length_singleton];exact (qa (by decide)).trans hs_same
      · have ez:(Y1 p != 0)=true:=by simpa using hz
        repeat (first|with_reducible (refine q9 H ?_;constructor)|simp only[rB,rQ,q8,qf,q7,qc,reduceIte,Nat.reduceLT,Nat.reduceEqDiff])
        rw[ZI g3]
        repeat (first|with_reducible (refine q9 H ?_;constructor)|simp only[rB,rQ,q8,qf,q7,qc,reduceIte,Nat.reduceLT,Nat.reduceEqDiff,qD,Yo,h4,qO,ew,qB,ez,qsp,h3]|(with_reducible refine VX H hpa ?_))
        rw[XI ((qa (by decide)).trans ((qa (by decide)).trans hs_same))]
        refine k2 _ _ ?_ hs_same ⟨rfl,?_,p,hp,hz⟩
        · exact (qa (by decide)).trans ((qa (by decide)).trans ((qa (by decide)).trans ((qa (by decide)).trans g2)))
        · exact (qa (by decide)).trans hs_same
    · rintro j s' o ⟨h1,h2,h3⟩
      exact⟨h1,(qa (by decide)).trans h2,h3⟩
    · rintro s2 g2 ⟨dn,h1,h2,h3,h4⟩
      rw[List.append_nil] at h1
      subst h1
      have hall:quv (qE b)=true:=allB_iff.2 h2
      have hdec:∀ x y:Nat,Nat.ble x y=decide (x≤y):=fun x y=>by rw[Bool.eq_iff_iff,Nat.ble_eq,decide_eq_true_eq]
      have hcl:ZM b=(decide ((qE b).length≤8)&&decide (b.length≤140)):=by
        unfold ZM;rw[hall,e0,hdec,hdec];rfl
      rw[hcl] at hk
      by_cases q1:(qE b).length≤8
      · have e1:decide (((qE b).length:Int)≤8)=true:=by simp;omega
        rw[decide_eq_true q1,Bool.true_and] at hk
        by_cases q2:b.length≤140
        · have e2:decide ((b.length:Int)≤140)=true:=by simp;omega
          rw[decide_eq_true q2] at hk
          repeat (first|with_reducible (refine q9 H ?_;constructor)|simp only[rB,rQ,q8,qf,q7,qc,reduceIte,Nat.reduceLT,Nat.reduceEqDiff,qD,qtl,qsp,h3,h4,qx,J9,e1,e2])
          rw[qT ((qa (by decide)).trans g2)]
          repeat (first|with_reducible (refine q9 H ?_;constructor)|simp only[rB,rQ,q8,qf,q7,qc,reduceIte,Nat.reduceLT,Nat.reduceEqDiff,qD,qtl,qsp,h3,h4,qx,J9,e1,e2,Tryz.results147])
          exact hk _
        · have e2:decide ((b.length:Int)≤140)=false:=by simp;omega
          rw[decide_eq_false q2] at hk
          repeat (first|with_reducible (refine q9 H ?_;constructor)|simp only[rB,rQ,q8,qf,q7,qc,reduceIte,Nat.reduceLT,Nat.reduceEqDiff,qD,qtl,qsp,h3,h4,qx,J9,e1,e2])
          rw[qT ((qa (by decide)).trans g2)]
          repeat (first|with_reducible (refine q9 H ?_;constructor)|simp only[rB,rQ,q8,qf,q7,qc,reduceIte,Nat.reduceLT,Nat.reduceEqDiff,qD,qtl,qsp,h3,h4,qx,J9,e1,e2,Tryz.results147])
          exact hk _
      · have e1:decide (((qE b).length:Int)≤8)=false:=by simp;omega
        rw[decide_eq_false q1,Bool.false_and] at hk
        repeat (first|with_reducible (refine q9 H ?_;constructor)|simp only[rB,rQ,q8,qf,q7,qc,reduceIte,Nat.reduceLT,Nat.reduceEqDiff,qD,qtl,qsp,h3,h4,qx,J9,e1])
        rw[qT ((qa (by decide)).trans g2)]
        repeat (first|with_reducible (refine q9 H ?_;constructor)|simp only[rB,rQ,q8,qf,q7,qc,reduceIte,Nat.reduceLT,Nat.reduceEqDiff,qD,qtl,qsp,h3,h4,qx,J9,e1,Tryz.results147])
        exact hk _
    · rintro j s2 g2 ⟨rfl,h2,p,hp,hz⟩
      have hcl:ZM b=false:=by
        unfold ZM
        have:quv (qE b)=false:=by
          rw[← Bool.not_eq_true,allB_iff]
          exact fun hh=>hz (hh p hp)
        rw[this,e0];rfl
      rw[hcl] at hk
      repeat (first|with_reducible (refine q9 H ?_;constructor)|simp only[rB,rQ,q8,qf,q7,qc,reduceIte,Nat.reduceLT,Nat.reduceEqDiff,qtl,h2,qT g2,Tryz.results147])
      exact hk _
def qd2 (args:List AV) (s:St):Option (AV × St):=match args with
  | [.str b]=>bif Nat.ble b.length 1000 then some (Xw 9 (qw b) s) else none
  | _=>none
def qb7 (args:List AV) (s:St):Option (AV × St):=match args with
  | [.str b]=>bif Nat.ble b.length 1000&&zs b then some (q8 (ZM b),s) else none
  | _=>none
def pr1:Prims:=((zk pn).add 109 qd2).add 147 qb7
theorem ql4 (H:Ok TE Tryz.prog (zk pn)) {args:List AV} {s s':St} {v:AV} {w0 w:World} {E:Em} {Args:List Value} (h:qd2 args s=some (v,s')) (hv:VRels E args Args) (hs:Sim w0 E s w) :
    QN Tryz.prog 109∧CallsIn (FW none) 0 Tryz.prog 109 Args.toArray w fun en w'=>∃ V E',en=.returned V∧E.le E'∧VRel E' v V∧Sim w0 E' s' w':=by
  unfold qd2 at h
  split at h
  · rename_i b
    cases hb:Nat.ble b.length 1000 with
    | false=>rw[hb] at h;cases h
    | true =>
      rw[hb] at h
      simp only[cond_true,Option.some.injEq] at h
      have hb:=Nat.le_of_ble_eq_true hb
      by_cases h0:b=[]
      · subst h0
        cases h
        exact Ju rfl rfl (fun kr kp hk=>qlx H hk) hv hs
      · have hne:qw b≠[]:=by rw[Z0 h0];exact qf6 b
        have hl:=Yt b
        have:=qk3 (ty:=9) (s:=s) hne rfl (fun kr kp hk=>qxm H hb (by omega) hk) hv hs
        rw[h] at this
        exact this
  · cases h
theorem qkz (H:Ok TE Tryz.prog (zk pn)) {args:List AV} {s s':St} {v:AV} {w0 w:World} {E:Em} {Args:List Value} (h:qb7 args s=some (v,s')) (hv:VRels E args Args) (hs:Sim w0 E s w) :
    QN Tryz.prog 147∧CallsIn (FW none) 0 Tryz.prog 147 Args.toArray w fun en w'=>∃ V E',en=.returned V∧E.le E'∧VRel E' v V∧Sim w0 E' s' w':=by
  unfold qb7 at h
  split at h
  · rename_i b
    cases hb:(Nat.ble b.length 1000&&zs b) with
    | false=>rw[hb] at h;cases h
    | true =>
      rw[hb] at h
      simp only[cond_true,Option.some.injEq,Prod.mk.injEq] at h
      obtain⟨rfl,rfl⟩:=h
      rw[Bool.and_eq_true] at hb
      exact Ju rfl rfl (fun kr kp hk=>qt8 H (Nat.le_of_ble_eq_true hb.1) hb.2 hk) hv hs
  · cases h
theorem ok1 (H:Ok TE Tryz.prog (zk pn)):Ok TE Tryz.prog pr1:=⟨H.prog,Jq (Jq H.prims (fun h hv hs=>ql4 H h hv hs)) (fun h hv hs=>qkz H h hv hs)⟩
theorem pe1 {g:Nat} {args:List AV} {s:St} (h:g≠220):pr1.ext g args s=none:=qq3 h
theorem pf1 {g:Nat} {args:List AV} {s:St} (h1:g≠149) (h2:g≠136) (h3:g≠133) (h4:g≠171) (h5:g≠109) (h6:g≠147):pr1.fn g args s=none:=by
  unfold pr1
  rw[Qb h6,Qb h5]
  exact q25 h1 h2 h3 h4
section
variable {r:Tasks} {a:Ac} {dst:Option Tmp} {s:St} {k:Ac→St→Bool} {kp:AV→St→Bool}
theorem qrp {b:List Nat} (hb:b.length≤1000) (ha:zs b=true):YQ pr1 r (.fn 147 []) [.str b] a dst s k kp=Q2 a dst (.raw (.bool (ZM b))) s k:=by
  refine JU (pe1 (by decide)) ?_
  unfold pr1
  rw[JI]
  simp only[List.append_nil,qb7,Nat.ble_eq.mpr hb,ha,Bool.and_self,cond_true]
  rfl
theorem qqg {b:List Nat} (hb:b.length≤1000):YQ pr1 r (.fn 109 []) [.str b] a dst s k kp=Q2 a dst (Xw 9 (qw b) s).1 (Xw 9 (qw b) s).2 k:=by
  refine JU (pe1 (by decide)) ?_
  unfold pr1
  rw[Qb (by decide),JI]
  simp only[List.append_nil,qd2,Nat.ble_eq.mpr hb,cond_true]
theorem qep:∀ (l:List (List Nat)),qhd (l.map .str)=some l
  | []=>(rfl)
  | x::l=>by simp only[List.map_cons,qhd,qep l]
theorem qve {F:Nat→Prop} {V:AV} {names:List (List Nat)} (h:SlRep F s V names):qbf s V=some names:=by
  rcases h with⟨rfl,rfl⟩|⟨id,cap,cs,rfl,h2,h3,h4,h5,h6,h7⟩
  · rfl
  · simp only[qbf,W7 h4,XW (l:=cs) (n:=names.length) (by omega),h7,qep]
theorem qeg:∀ {l:List (List Nat)},(∀ p∈l,p.length≤1000)→(qu [47] l).length≤l.length * 1001
  | [],_=>by simp[qu]
  | [x],h=>by have:=h x (by simp);simp[qu];omega
  | x::y::l,h=>by
    have h1:=h x (by simp)
    have h2:=qeg (l:=y::l) (fun p hp=>h p (List.mem_cons_of_mem _ hp))
    simp only[qu,List.length_append,List.length_cons,List.length_nil] at h2 ⊢
    omega
theorem qgg {F:Nat→Prop} {V:AV} {names:List (List Nat)} (h:SlRep F s V names) (h1:names.length≤600) (h2:∀ p∈names,p.length≤1000) :
    YQ pr1 r (.fn 149 []) [V,.str [47]] a dst s k kp=Q2 a dst (.str (qu [47] names)) s k:=by
  have hl:=qeg h2
  have e1:Nat.ble (qu [47] names).length 1000000=true:=Nat.ble_eq.mpr (by omega)
  have e2:Nat.ble names.length 1000000=true:=Nat.ble_eq.mpr (by omega)
  refine JU (pe1 (by decide)) ?_
  unfold pr1
  rw[Qb (by decide),Qb (by decide)]
  show (match qbf s V with
      | some l=>bif Nat.ble (qu [47] l).length 1000000&&Nat.ble l.length 1000000 then some (AV.str (qu [47] l),s) else none
      | none=>none)=_
  rw[qve h]
  simp only[e1,e2,Bool.and_self,cond_true]
end
theorem qmo {F:Nat→Prop} {s:St} {V:AV} {names:List (List Nat)} (h:SlRep F s V names):Qv TE s [36] [V]=some (qf names.length):=by
  rcases h with⟨rfl,rfl⟩|⟨id,cap,cs,rfl,_⟩ <;> kernel_rfl
theorem qa0 {F:Nat→Prop} {s:St} {V:AV} {names:List (List Nat)} (h:SlRep F s V names):Z4 V=[]:=by
  rcases h with⟨rfl,rfl⟩|⟨id,cap,cs,rfl,_⟩ <;> rfl
theorem qqc {id off len ci cap:Nat} {ex:Bool} {lo hi:Option AV}:zq TE 36 (.slice id off len ci cap ex) lo hi none=match qX len cap lo hi with
    | some (l,h)=>bif Nat.blt l cap||Nat.beq l 0 then some (.slice id (off+l * 1) (h - l) (ci+l) (cap - l) ex) else bif ex then some (.slice id off 0 ci 0 true) else some (.esl id off ci l 1)
    | none=>none:=by
  have h:zq TE 36 (.slice id off len ci cap ex) lo hi none=(match (some { desc:=.string,size:=1,bytes:=16,zero:=some (.string ⟨#[]⟩) }:Option TI),qX len cap lo hi with
      | some el,some (l,h) =>
        bif Nat.blt l cap||Nat.beq l 0 then some (.slice id (off+l * el.size) (h - l) (ci+l) (cap - l) ex)
        else bif ex then some (.slice id off 0 ci 0 true)
        else some (.esl id off ci l el.size)
      | _,_=>none):=by kernel_rfl
  rw[h]
  cases qX len cap lo hi with
  | none=>rfl
  | some x=>rfl
theorem qhj {F:Nat→Prop} {s:St} {V:AV} {names:List (List Nat)} {j:Nat} (h:SlRep F s V names) (hj:j≤names.length) :
    ∃ V',zq TE 36 V none (some (.raw (.int .i64 (j:Int)))) none=some V'∧SlRep F s V' (names.take j):=by
  rcases h with⟨rfl,rfl⟩|⟨id,cap,cs,rfl,h2,h3,h4,h5,h6,h7⟩
  · simp only[List.length_nil,Nat.le_zero_eq] at hj
    subst hj
    exact⟨.raw (.slice none 0 0),by kernel_rfl,Or.inl ⟨rfl,rfl⟩⟩
  · refine⟨.slice id 0 j 0 cap false,?_,Or.inr ⟨id,cap,cs,?_,h2,h3,h4,h5,?_,?_⟩⟩
    · rw[qqc,WK (i:=j) QW (by omega)]
      simp
    · rw[List.length_take,Nat.min_eq_left hj]
    · rw[List.length_take];omega
    · rw[List.length_take,Nat.min_eq_left hj,List.map_take,← h7,List.take_take,Nat.min_eq_left hj]
theorem qm1 {ty:Nat} {names:List (List Nat)} {s:St} (h:names≠[]):Xw ty names s=(.slice s.nx 0 names.length 0 names.length false,s.alloc (.cells (names.map .str) ty 2)):=by
  cases names with
  | nil=>exact absurd rfl h
  | cons _ _=>rfl
theorem ZW:∀ {b p:List Nat},p∈qE b→p.length≤b.length
  | [],p,h=>by simp[qE] at h;subst h;simp
  | x::l,p,h=>by
    simp only[qE] at h
    cases hx:Nat.beq x 47 with
    | true =>
      rw[hx] at h
      rcases List.mem_cons.1 h with rfl|h
      · simp
      · have:=ZW h;simp;omega
    | false =>
      rw[hx] at h
      simp only[cond_false] at h
      split at h
      · rename_i q qs hq
        rcases List.mem_cons.1 h with rfl|h
        · have:=ZW (b:=l) (p:=q) (by rw[hq];simp);simp;omega
        · have:=ZW (b:=l) (p:=p) (by rw[hq];simp[h]);simp;omega
      · rw[List.mem_singleton] at h;subst h;simp
def zY:List (List Nat)→List (List Nat)→Option (List (List Nat))
  | way,[]=>some way
  | way,p::ps=>bif eqB p [] then zY way ps else bif eqB p [46] then zY way ps else bif eqB p [46,46] then zY (way.take (way.length - 1)) ps
    else bif qi0 p then none else zY (way++[p]) ps
def qr2:List Nat→Bool
  | []=>false
  | c::_=>!(Nat.beq c 47)
def Qr (cwd b:List Nat):List Nat × Nat:=bif ZM cwd then (bif eqB b [] then ([],400) else bif Nat.blt 560 b.length then ([],403) else
    match zY (bif qr2 b then qw cwd else[]) (qE b) with
    | none=>([],401)
    | some way=>bif Nat.blt 8 way.length then ([],402) else bif Nat.blt 140 (qu [47] way).length then ([],403) else (qu [47] way,0)) else ([],401)
def Kr (x:List Nat × Nat):AV:=.tuple [.str x.1,.raw (.int .i64 (x.2:Int))]
abbrev FC (c i:Nat):Prop:=i≠0∧i≠1∧i≠2∧i≠c∧i≠c+1∧i≠c+2
end Go.AX
namespace Go.AX
open Go.Proofs Go.RowKit
set_option maxRecDepth 100000
set_option linter.unusedSimpArgs false
-- light
theorem qxk (H0:Ok TE Tryz.prog (zk pn)) (H:Ok TE Tryz.prog pr1) {cwd b:List Nat} (hcw:cwd.length≤1000) (hca:zs cwd=true) (hba:zs b=true) {kr kp:AV→St→Bool} (hk:∀ s',kr (Kr (Qr cwd b)) s'=true) :
    (sem Tryz.prog).call 128 [.str cwd,.str b] st0 kr kp=true:=by
  refine qk H 63 qz1 rfl rfl ?_
  have ec:=fun {r a dst s k kp}=>qrp (r:=r) (a:=a) (dst:=dst) (s:=s) (k:=k) (kp:=kp) hcw hca
  unfold Qr at hk
  cases hcl:ZM cwd with
  | false =>
    rw[hcl] at hk ec
    repeat (first|with_reducible (refine q9 H ?_;constructor)|simp only[rB,rQ,q8,qf,q7,qc,reduceIte,Nat.reduceLT,Nat.reduceEqDiff,UInt8.reduceToNat,Vf,Yz,pe1,pf1,ec,JS,X5,qA,J7,Tryz.results128])
    exact hk _
  | true =>
  rw[hcl] at hk ec
  simp only[cond_true] at hk
  by_cases h0:b=[]
  · subst h0
    repeat (first|with_reducible (refine q9 H ?_;constructor)|simp only[rB,rQ,q8,qf,q7,qc,reduceIte,Nat.reduceLT,Nat.reduceEqDiff,UInt8.reduceToNat,Vf,Yz,pe1,pf1,ec,qU,JS,X5,qA,J7,Tryz.results128])
    exact hk _
  have e0:=QQ h0
  rw[e0] at hk
  simp only[cond_false] at hk
  by_cases h1:b.length > 560
  · have e1:decide ((b.length:Int) > 560)=true:=by simp;omega
    rw[Nat.blt_eq.mpr h1] at hk
    repeat (first|with_reducible (refine q9 H ?_;constructor)|simp only[rB,rQ,q8,qf,q7,qc,reduceIte,Nat.reduceLT,Nat.reduceEqDiff,UInt8.reduceToNat,Vf,Yz,pe1,pf1,ec,e0,e1,qx,zv,JS,X5,qA,J7,Tryz.results128])
    exact hk _
  have e1:decide ((b.length:Int) > 560)=false:=by simp;omega
  have e1':Nat.blt 560 b.length=false:=by rw[← Bool.not_eq_true,Nat.blt_eq];exact h1
  rw[e1'] at hk
  simp only[cond_false] at hk
  obtain⟨c,l0,hb⟩:∃ c l,b=c::l:=by cases b with|nil=>exact absurd rfl h0|cons c l=>exact⟨c,l,rfl⟩
  have eb0:b[0]?=some c:=by rw[hb];rfl
  have hpl:=Yt b
  generalize hway:(bif qr2 b then qw cwd else[])=way0 at hk
  have hcl':cwd=[]∨(qE cwd).length≤8:=by
    unfold ZM at hcl
    by_cases hc0:cwd=[]
    · exact Or.inl hc0
    · rw[QQ hc0] at hcl
      simp only[cond_false,Bool.and_eq_true] at hcl
      exact Or.inr (Nat.le_of_ble_eq_true hcl.2.1)
  have hpc:(qw cwd).length≤8:=by
    rcases hcl' with rfl|h
    · simp[qw]
    · by_cases hc0:cwd=[]
      · subst hc0;simp[qw]
      · rw[Z0 hc0];exact h
  have hpm:∀ p∈qw cwd,p.length≤1000:=by
    intro p hp
    by_cases hc0:cwd=[]
    · subst hc0;cases hp
    · rw[Z0 hc0] at hp
      exact Nat.le_trans (ZW hp) hcw
  have hlen0:way0.length+(qE b).length≤600:=by
    subst hway
    cases qr2 b
    · simp only[cond_false,List.length_nil];omega
    · simp only[cond_true];omega
  have hw1:∀ p∈way0,p.length≤1000:=by
    subst hway
    cases qr2 b
    · intro p hp;cases hp
    · exact hpm
  by_cases hcc:c=47
  · have hw0:way0=[]:=by subst hway hcc;rw[hb];rfl
    have e2:((Int.ofNat c) != 47)=false:=by rw[hcc];rfl
    repeat (first|with_reducible (refine q9 H ?_;constructor)|simp only[rB,rQ,q8,qf,q7,qc,reduceIte,Nat.reduceLT,Nat.reduceEqDiff,UInt8.reduceToNat,Vf,Yz,qa3,pe1,pf1,ec,e0,e1,e2,qx,qiv,q0g,eb0,zv,qB]|(with_reducible refine ZY H0 ?_))
    refine Zn H0 (c:=3) (b:=b) (fun l s=>∃ way V,zY way l=zY way0 (qE b)∧s.h.get 0=some (.cells [.str []] 9 0)∧s.h.get 1=some (.cells [.raw (.int .i64 0)] 57 0)∧s.h.get 2=some (.cells [V] 36 0)∧SlRep (FC 3) s V way∧way.length+l.length≤600∧(∀ p∈way,p.length≤1000)∧6≤s.nx∧∀ q∈l,zs q=true∧q.length≤1000)
      (fun j s=>j=.ret∧s.h.get 0=some (.cells [.str []] 9 0)∧s.h.get 1=some (.cells [.raw (.int .i64 401)] 57 0)∧zY way0 (qE b)=none) 4 rfl (by simp only[rB,rQ,q8,qf,q7,qc,reduceIte,Nat.reduceLT,Nat.reduceEqDiff,UInt8.reduceToNat]) (by omega) rfl (by decide) ?_ ?_ ?_ (fun p=>⟨_,zS (by decide)⟩) ?_ ?_ ?_
    · rintro l s' i o hi ⟨way,V,h1,h2,h3,h4,h5,h6,h7,h8,h9⟩
      exact⟨way,V,h1,(qa (by omega)).trans h2,(qa (by omega)).trans h3,(qa (by omega)).trans h4,h5.set (by unfold FC;omega) o,h6,h7,h8,h9⟩
    · exact⟨way0,_,rfl,rfl,rfl,rfl,Or.inl ⟨rfl,hw0⟩,hlen0,hw1,Nat.le_refl _,fun q hq=>⟨Yb hba hq,Nat.le_trans (ZW hq) (by omega)⟩⟩
    · rintro p l s1 t' k' ⟨way,V,h1,h2,h3,h4,h5,h6,h7,h8,h9⟩ g2 g3 ht' k1 k2
      rw[zS (by decide)] at ht'
      cases ht'
      have h6':way.length+l.length+1≤600:=by simp only[List.length_cons] at h6;omega
      repeat (first|with_reducible (refine q9 H ?_;constructor)|simp only[rB,rQ,q8,qf,q7,qc,reduceIte,Nat.reduceLT,Nat.reduceEqDiff,UInt8.reduceToNat])
      rw[ZI g3]
      by_cases p0:p=[]
      · subst p0
        repeat (first|with_reducible (refine q9 H ?_;constructor)|simp only[rB,rQ,q8,qf,q7,qc,reduceIte,Nat.reduceLT,Nat.reduceEqDiff,UInt8.reduceToNat,pe1,pf1,qU])
        rw[ze hs_same]
        refine k1 _ ?_ ?_ hs_same ⟨way,V,?_,?_,?_,?_,?_,by omega,h7,h8,fun q hq=>h9 q (List.mem_cons_of_mem _ hq)⟩
        · exact (qa (by decide)).trans (qa (by decide))
        · exact (qa (by decide)).trans ((qa (by decide)).trans g2)
        · rw[← h1,zY,qU];rfl
        · exact (qa (by decide)).trans ((qa (by decide)).trans h2)
        · exact (qa (by decide)).trans ((qa (by decide)).trans h3)
        · exact (qa (by decide)).trans ((qa (by decide)).trans h4)
        · exact (h5.set (by decide) _).set (by decide) _
      have p0':=QQ p0
      by_cases p1:p=[46]
      · subst p1
        repeat (first|with_reducible (refine q9 H ?_;constructor)|simp only[rB,rQ,q8,qf,q7,qc,reduceIte,Nat.reduceLT,Nat.reduceEqDiff,UInt8.reduceToNat,pe1,pf1,p0',qU])
        rw[ze hs_same]
        refine k1 _ ?_ ?_ hs_same ⟨way,V,?_,?_,?_,?_,?_,by omega,h7,h8,fun q hq=>h9 q (List.mem_cons_of_mem _ hq)⟩
        · exact (qa (by decide)).trans (qa (by decide))
        · exact (qa (by decide)).trans ((qa (by decide)).trans g2)
        · rw[← h1,zY,p0',qU];rfl
        · exact (qa (by decide)).trans ((qa (by decide)).trans h2)
        · exact (qa (by decide)).trans ((qa (by decide)).trans h3)
        · exact (qa (by decide)).trans ((qa (by decide)).trans h4)
        · exact (h5.set (by decide) _).set (by decide) _
      have p1':=QQ p1
      by_cases p2:p=[46,46]
      · subst p2
        obtain⟨V',ev,hr⟩:=qhj (j:=way.length - 1) h5 (by omega)
        obtain⟨c1,c2⟩:=hr.cells1
        have el:∀ s2,Qv TE s2 [36] [V]=some (qf way.length):=fun s2=>by rcases h5 with⟨rfl,rfl⟩|⟨id,cap,cs,rfl,_⟩ <;> kernel_rfl
        have ei:=qa0 h5
        have ew:IntKind.i64.wrap ((way.length:Int) - 1)=(way.length:Int) - 1:=Go.IntWalk.i64_in _ (by omega)
        have em:(if (way.length:Int) - 1 > 0 then (way.length:Int) - 1 else 0)=((way.length - 1:Nat):Int):=by split <;> omega
        repeat (first|with_reducible (refine q9 H ?_;constructor)|simp only[rB,rQ,q8,qf,q7,qc,reduceIte,Nat.reduceLT,Nat.reduceEqDiff,UInt8.reduceToNat,pe1,pf1,p0',p1',qU,ZR,h4,el,ei,zj,ew,em,ev,qcy _ _ _ _ c1 c2])
        rw[ze ((qa (by decide)).trans hs_same)]
        refine k1 _ ?_ ?_ hs_same ⟨way.take (way.length - 1),V',?_,?_,?_,?_,?_,?_,?_,h8,fun q hq=>h9 q (List.mem_cons_of_mem _ hq)⟩
        · exact (qa (by decide)).trans ((qa (by decide)).trans (qa (by decide)))
        · exact (qa (by decide)).trans ((qa (by decide)).trans ((qa (by decide)).trans g2))
        · rw[← h1,zY,p0',p1',qU];rfl
        · exact (qa (by decide)).trans ((qa (by decide)).trans ((qa (by decide)).trans h2))
        · exact (qa (by decide)).trans ((qa (by decide)).trans ((qa (by decide)).trans h3))
        · exact (qa (by decide)).trans hs_same
        · exact ((hr.set (by decide) _).set (by decide) _).set (by decide) _
        · rw[List.length_take];omega
        · exact fun q hq=>h7 q (List.mem_of_mem_take hq)
      have p2':=QQ p2
      obtain⟨hpa,hpl1⟩:=h9 p (by simp)
      cases hbad:qi0 p with
      | true =>
        have ez:(Y1 p != 0)=true:=by unfold Y1;rw[p0',hbad];rfl
        repeat (first|with_reducible (refine q9 H ?_;constructor)|simp only[rB,rQ,q8,qf,q7,qc,reduceIte,Nat.reduceLT,Nat.reduceEqDiff,UInt8.reduceToNat,pe1,pf1,p0',p1',p2',qB,ez,JS,X5,h2,h3]|(with_reducible refine VX H0 hpa ?_))
        rw[XI ((qa (by decide)).trans ((qa (by decide)).trans hs_same))]
        refine k2 _ _ ?_ hs_same ⟨rfl,?_,?_,?_⟩
        · exact (qa (by decide)).trans ((qa (by decide)).trans ((qa (by decide)).trans ((qa (by decide)).trans g2)))
        · exact (qa (by decide)).trans ((qa (by decide)).trans hs_same)
        · exact (qa (by decide)).trans hs_same
        · rw[← h1,zY,p0',p1',p2',hbad];rfl
      | false =>
        have ez:(Y1 p != 0)=false:=by unfold Y1;rw[p0',hbad];rfl
        repeat (first|with_reducible (refine q9 H ?_;constructor)|simp only[rB,rQ,q8,qf,q7,qc,reduceIte,Nat.reduceLT,Nat.reduceEqDiff,UInt8.reduceToNat,pe1,pf1,p0',p1',p2',qB,ez,ZR,h4,qjh]|(with_reducible refine VX H0 hpa ?_))
        refine Kf (F:=FC 3) (p:=p) (names:=way) ((h5.set (by decide) _).alloc _) qt (by show FC 3 (s1.nx+1);unfold FC;omega) (by omega) ?_
        intro V' s2 hr hn hfr
        have hn':s1.nx+1≤s2.nx:=hn
        have hv:∀ i,i < 6→¬ FC 3 i:=fun i hi=>by unfold FC;omega
        have fr:∀ i,i < 6→i≠5→s2.h.get i=s1.h.get i:=fun i hi h5'=>(hfr i (hv i hi)).trans ((zm (by show i≠s1.nx;omega)).trans (qa h5'))
        have f2:=(fr 2 (by decide) (by decide)).trans h4
        have f5:=(hfr 5 (hv 5 (by decide))).trans ((zm (by show 5≠s1.nx;omega)).trans hs_same)
        obtain⟨c1,c2⟩:=hr.cells1
        repeat (first|with_reducible (refine q9 H ?_;constructor)|simp only[rB,rQ,q8,qf,q7,qc,reduceIte,Nat.reduceLT,Nat.reduceEqDiff,UInt8.reduceToNat,pe1,pf1,qcy _ _ _ _ c1 c2,f2])
        rw[ze ((qa (by decide)).trans f5)]
        refine k1 _ ?_ ?_ hs_same ⟨way++[p],V',?_,?_,?_,?_,?_,?_,?_,?_,fun q hq=>h9 q (List.mem_cons_of_mem _ hq)⟩
        · exact (qa (by decide)).trans ((qa (by decide)).trans (fr 3 (by decide) (by decide)))
        · exact (qa (by decide)).trans ((qa (by decide)).trans ((fr 4 (by decide) (by decide)).trans g2))
        · rw[← h1,zY,p0',p1',p2',hbad];rfl
        · exact (qa (by decide)).trans ((qa (by decide)).trans ((fr 0 (by decide) (by decide)).trans h2))
        · exact (qa (by decide)).trans ((qa (by decide)).trans ((fr 1 (by decide) (by decide)).trans h3))
        · exact (qa (by decide)).trans hs_same
        · exact (hr.set (by decide) _).set (by decide) _
        · rw[List.length_append,List.length_singleton];omega
        · intro q hq
          rcases List.mem_append.1 hq with hq|hq
          · exact h7 q hq
          · rw[List.mem_singleton] at hq;rw[hq];exact hpl1
        · show 6≤s2.nx;omega
    · rintro j s' o ⟨h1,h2,h3,h4⟩
      exact⟨h1,(qa (by decide)).trans h2,(qa (by decide)).trans h3,h4⟩
    · rintro s2 g2 ⟨way,V,h1,h2,h3,h4,h5,h6,h7,h8,h9⟩
      rw[zY] at h1
      rw[← h1] at hk
      simp only at hk
      have h6':way.length≤600:=by simpa using h6
      have ej:=fun {r a dst k kp}=>qgg (r:=r) (a:=a) (dst:=dst) (s:=s2) (k:=k) (kp:=kp) h5 h6' h7
      have el:=qmo h5
      have ei:=qa0 h5
      by_cases q1:way.length > 8
      · have r1:decide ((way.length:Int) > 8)=true:=by simp;omega
        rw[Nat.blt_eq.mpr q1] at hk
        repeat (first|with_reducible (refine q9 H ?_;constructor)|simp only[rB,rQ,q8,qf,q7,qc,reduceIte,Nat.reduceLT,Nat.reduceEqDiff,UInt8.reduceToNat,pe1,pf1,ZR,h4,ej,el,ei,zv,r1,JS,X5,h2,h3])
        rw[qT ((qa (by decide)).trans ((qa (by decide)).trans g2))]
        repeat (first|with_reducible (refine q9 H ?_;constructor)|simp only[rB,rQ,q8,qf,q7,qc,reduceIte,Nat.reduceLT,Nat.reduceEqDiff,UInt8.reduceToNat,qA,J7,Tryz.results128])
        exact hk _
      have r1:decide ((way.length:Int) > 8)=false:=by simp;omega
      have r1':Nat.blt 8 way.length=false:=by rw[← Bool.not_eq_true,Nat.blt_eq];exact q1
      rw[r1'] at hk
      simp only[cond_false] at hk
      by_cases q2:(qu [47] way).length > 140
      · have r2:decide (((qu [47] way).length:Int) > 140)=true:=by simp;omega
        rw[Nat.blt_eq.mpr q2] at hk
        repeat (first|with_reducible (refine q9 H ?_;constructor)|simp only[rB,rQ,q8,qf,q7,qc,reduceIte,Nat.reduceLT,Nat.reduceEqDiff,UInt8.reduceToNat,pe1,pf1,ZR,h4,ej,el,ei,zv,r1,r2,qx,JS,X5,h2,h3])
        rw[qT ((qa (by decide)).trans ((qa (by decide)).trans g2))]
        repeat (first|with_reducible (refine q9 H ?_;constructor)|simp only[rB,rQ,q8,qf,q7,qc,reduceIte,Nat.reduceLT,Nat.reduceEqDiff,UInt8.reduceToNat,qA,J7,Tryz.results128])
        exact hk _
      have r2:decide (((qu [47] way).length:Int) > 140)=false:=by simp;omega
      have r2':Nat.blt 140 (qu [47] way).length=false:=by rw[← Bool.not_eq_true,Nat.blt_eq];exact q2
      rw[r2'] at hk
      repeat (first|with_reducible (refine q9 H ?_;constructor)|simp only[rB,rQ,q8,qf,q7,qc,reduceIte,Nat.reduceLT,Nat.reduceEqDiff,UInt8.reduceToNat,pe1,pf1,ZR,h4,ej,el,ei,zv,r1,r2,qx,JS,X5,h2,h3])
      rw[qT ((qa (by decide)).trans ((qa (by decide)).trans g2))]
      repeat (first|with_reducible (refine q9 H ?_;constructor)|simp only[rB,rQ,q8,qf,q7,qc,reduceIte,Nat.reduceLT,Nat.reduceEqDiff,UInt8.reduceToNat,qA,J7,Tryz.results128])
      exact hk _
    · rintro j s2 g2 ⟨rfl,h2,h3,h4⟩
      rw[h4] at hk
      repeat (first|with_reducible (refine q9 H ?_;constructor)|simp only[rB,rQ,q8,qf,q7,qc,reduceIte,Nat.reduceLT,Nat.reduceEqDiff,UInt8.reduceToNat,qA,J7,h2,h3])
      rw[qT g2]
      repeat (first|with_reducible (refine q9 H ?_;constructor)|simp only[rB,rQ,q8,qf,q7,qc,reduceIte,Nat.reduceLT,Nat.reduceEqDiff,UInt8.reduceToNat,qA,J7,h2,h3,Tryz.results128])
      exact hk _
  · have hrel:qr2 b=true:=by rw[hb];simp only[qr2,Qk hcc];rfl
    rw[hrel] at hway
    simp only[cond_true] at hway
    have e2:((Int.ofNat c) != 47)=true:=by
      simp only[bne_iff_ne,ne_eq]
      intro h
      exact hcc (by have h':((c:Nat):Int)=47:=h;omega)
    have ep:=fun {r a dst s k kp}=>qqg (r:=r) (a:=a) (dst:=dst) (s:=s) (k:=k) (kp:=kp) hcw
    by_cases hc0:cwd=[]
    · have hw0:way0=[]:=by rw[← hway,hc0];rfl
      have em:∀ s,Xw 9 (qw cwd) s=(.raw (.slice none 0 0),s):=fun s=>by rw[hc0];rfl
      repeat (first|with_reducible (refine q9 H ?_;constructor)|simp only[rB,rQ,q8,qf,q7,qc,reduceIte,Nat.reduceLT,Nat.reduceEqDiff,UInt8.reduceToNat,Vf,Yz,qa3,pe1,pf1,ec,e0,e1,e2,qx,qiv,q0g,eb0,zv,qB,ep,em,qcy]|(with_reducible refine ZY H0 ?_))
      refine Zn H0 (c:=3) (b:=b) (fun l s=>∃ way V,zY way l=zY way0 (qE b)∧s.h.get 0=some (.cells [.str []] 9 0)∧s.h.get 1=some (.cells [.raw (.int .i64 0)] 57 0)∧s.h.get 2=some (.cells [V] 36 0)∧SlRep (FC 3) s V way∧way.length+l.length≤600∧(∀ p∈way,p.length≤1000)∧6≤s.nx∧∀ q∈l,zs q=true∧q.length≤1000)
        (fun j s=>j=.ret∧s.h.get 0=some (.cells [.str []] 9 0)∧s.h.get 1=some (.cells [.raw (.int .i64 401)] 57 0)∧zY way0 (qE b)=none) 4 rfl (by simp only[rB,rQ,q8,qf,q7,qc,reduceIte,Nat.reduceLT,Nat.reduceEqDiff,UInt8.reduceToNat]) (by omega) rfl (by decide) ?_ ?_ ?_ (fun p=>⟨_,zS (by decide)⟩) ?_ ?_ ?_
      · rintro l s' i o hi ⟨way,V,h1,h2,h3,h4,h5,h6,h7,h8,h9⟩
        exact⟨way,V,h1,(qa (by omega)).trans h2,(qa (by omega)).trans h3,(qa (by omega)).trans h4,h5.set (by unfold FC;omega) o,h6,h7,h8,h9⟩
      · exact⟨way0,_,rfl,rfl,rfl,rfl,Or.inl ⟨rfl,hw0⟩,hlen0,hw1,Nat.le_refl _,fun q hq=>⟨Yb hba hq,Nat.le_trans (ZW hq) (by omega)⟩⟩
      · rintro p l s1 t' k' ⟨way,V,h1,h2,h3,h4,h5,h6,h7,h8,h9⟩ g2 g3 ht' k1 k2
        rw[zS (by decide)] at ht'
        cases ht'
        have h6':way.length+l.length+1≤600:=by simp only[List.length_cons] at h6;omega
        repeat (first|with_reducible (refine q9 H ?_;constructor)|simp only[rB,rQ,q8,qf,q7,qc,reduceIte,Nat.reduceLT,Nat.reduceEqDiff,UInt8.reduceToNat])
        rw[ZI g3]
        by_cases p0:p=[]
        · subst p0
          repeat (first|with_reducible (refine q9 H ?_;constructor)|simp only[rB,rQ,q8,qf,q7,qc,reduceIte,Nat.reduceLT,Nat.reduceEqDiff,UInt8.reduceToNat,pe1,pf1,qU])
          rw[ze hs_same]
          refine k1 _ ?_ ?_ hs_same ⟨way,V,?_,?_,?_,?_,?_,by omega,h7,h8,fun q hq=>h9 q (List.mem_cons_of_mem _ hq)⟩
          · exact (qa (by decide)).trans (qa (by decide))
          · exact (qa (by decide)).trans ((qa (by decide)).trans g2)
          · rw[← h1,zY,qU];rfl
          · exact (qa (by decide)).trans ((qa (by decide)).trans h2)
          · exact (qa (by decide)).trans ((qa (by decide)).trans h3)
          · exact (qa (by decide)).trans ((qa (by decide)).trans h4)
          · exact (h5.set (by decide) _).set (by decide) _
        have p0':=QQ p0
        by_cases p1:p=[46]
        · subst p1
          repeat (first|with_reducible (refine q9 H ?_;constructor)|simp only[rB,rQ,q8,qf,q7,qc,reduceIte,Nat.reduceLT,Nat.reduceEqDiff,UInt8.reduceToNat,pe1,pf1,p0',qU])
          rw[ze hs_same]
          refine k1 _ ?_ ?_ hs_same ⟨way,V,?_,?_,?_,?_,?_,by omega,h7,h8,fun q hq=>h9 q (List.mem_cons_of_mem _ hq)⟩
          · exact (qa (by decide)).trans (qa (by decide))
          · exact (qa (by decide)).trans ((qa (by decide)).trans g2)
          · rw[← h1,zY,p0',qU];rfl
          · exact (qa (by decide)).trans ((qa (by decide)).trans h2)
          · exact (qa (by decide)).trans ((qa (by decide)).trans h3)
          · exact (qa (by decide)).trans ((qa (by decide)).trans h4)
          · exact (h5.set (by decide) _).set (by decide) _
        have p1':=QQ p1
        by_cases p2:p=[46,46]
        · subst p2
          obtain⟨V',ev,hr⟩:=qhj (j:=way.length - 1) h5 (by omega)
          obtain⟨c1,c2⟩:=hr.cells1
          have el:∀ s2,Qv TE s2 [36] [V]=some (qf way.length):=fun s2=>by rcases h5 with⟨rfl,rfl⟩|⟨id,cap,cs,rfl,_⟩ <;> kernel_rfl
          have ei:=qa0 h5
          have ew:IntKind.i64.wrap ((way.length:Int) - 1)=(way.length:Int) - 1:=Go.IntWalk.i64_in _ (by omega)
          have em:(if (way.length:Int) - 1 > 0 then (way.length:Int) - 1 else 0)=((way.length - 1:Nat):Int):=by split <;> omega
          repeat (first|with_reducible (refine q9 H ?_;constructor)|simp only[rB,rQ,q8,qf,q7,qc,reduceIte,Nat.reduceLT,Nat.reduceEqDiff,UInt8.reduceToNat,pe1,pf1,p0',p1',qU,ZR,h4,el,ei,zj,ew,em,ev,qcy _ _ _ _ c1 c2])
          rw[ze ((qa (by decide)).trans hs_same)]
          refine k1 _ ?_ ?_ hs_same ⟨way.take (way.length - 1),V',?_,?_,?_,?_,?_,?_,?_,h8,fun q hq=>h9 q (List.mem_cons_of_mem _ hq)⟩
          · exact (qa (by decide)).trans ((qa (by decide)).trans (qa (by decide)))
          · exact (qa (by decide)).trans ((qa (by decide)).trans ((qa (by decide)).trans g2))
          · rw[← h1,zY,p0',p1',qU];rfl
          · exact (qa (by decide)).trans ((qa (by decide)).trans ((qa (by decide)).trans h2))
          · exact (qa (by decide)).trans ((qa (by decide)).trans ((qa (by decide)).trans h3))
          · exact (qa (by decide)).trans hs_same
          · exact ((hr.set (by decide) _).set (by decide) _).set (by decide) _
          · rw[List.length_take];omega
          · exact fun q hq=>h7 q (List.mem_of_mem_take hq)
        have p2':=QQ p2
        obtain⟨hpa,hpl1⟩:=h9 p (by simp)
        cases hbad:qi0 p with
        | true =>
          have ez:(Y1 p != 0)=true:=by unfold Y1;rw[p0',hbad];rfl
          repeat (first|with_reducible (refine q9 H ?_;constructor)|simp only[rB,rQ,q8,qf,q7,qc,reduceIte,Nat.reduceLT,Nat.reduceEqDiff,UInt8.reduceToNat,pe1,pf1,p0',p1',p2',qB,ez,JS,X5,h2,h3]|(with_reducible refine VX H0 hpa ?_))
          rw[XI ((qa (by decide)).trans ((qa (by decide)).trans hs_same))]
          refine k2 _ _ ?_ hs_same ⟨rfl,?_,?_,?_⟩
          · exact (qa (by decide)).trans ((qa (by decide)).trans ((qa (by decide)).trans ((qa (by decide)).trans g2)))
          · exact (qa (by decide)).trans ((qa (by decide)).trans hs_same)
          · exact (qa (by decide)).trans hs_same
          · rw[← h1,zY,p0',p1',p2',hbad];rfl
        | false =>
          have ez:(Y1 p != 0)=false:=by unfold Y1;rw[p0',hbad];rfl
          repeat (first|with_reducible (refine q9 H ?_;constructor)|simp only[rB,rQ,q8,qf,q7,qc,reduceIte,Nat.reduceLT,Nat.reduceEqDiff,UInt8.reduceToNat,pe1,pf1,p0',p1',p2',qB,ez,ZR,h4,qjh]|(with_reducible refine VX H0 hpa ?_))
          refine Kf (F:=FC 3) (p:=p) (names:=way) ((h5.set (by decide) _).alloc _) qt (by show FC 3 (s1.nx+1);unfold FC;omega) (by omega) ?_
          intro V' s2 hr hn hfr
          have hn':s1.nx+1≤s2.nx:=hn
          have hv:∀ i,i < 6→¬ FC 3 i:=fun i hi=>by unfold FC;omega
          have fr:∀ i,i < 6→i≠5→s2.h.get i=s1.h.get i:=fun i hi h5'=>(hfr i (hv i hi)).trans ((zm (by show i≠s1.nx;omega)).trans (qa h5'))
          have f2:=(fr 2 (by decide) (by decide)).trans h4
          have f5:=(hfr 5 (hv 5 (by decide))).trans ((zm (by show 5≠s1.nx;omega)).trans hs_same)
          obtain⟨c1,c2⟩:=hr.cells1
          repeat (first|with_reducible (refine q9 H ?_;constructor)|simp only[rB,rQ,q8,qf,q7,qc,reduceIte,Nat.reduceLT,Nat.reduceEqDiff,UInt8.reduceToNat,pe1,pf1,qcy _ _ _ _ c1 c2,f2])
          rw[ze ((qa (by decide)).trans f5)]
          refine k1 _ ?_ ?_ hs_same ⟨way++[p],V',?_,?_,?_,?_,?_,?_,?_,?_,fun q hq=>h9 q (List.mem_cons_of_mem _ hq)⟩
          · exact (qa (by decide)).trans ((qa (by decide)).trans (fr 3 (by decide) (by decide)))
          · exact (qa (by decide)).trans ((qa (by decide)).trans ((fr 4 (by decide) (by decide)).trans g2))
          · rw[← h1,zY,p0',p1',p2',hbad];rfl
          · exact (qa (by decide)).trans ((qa (by decide)).trans ((fr 0 (by decide) (by decide)).trans h2))
          · exact (qa (by decide)).trans ((qa (by decide)).trans ((fr 1 (by decide) (by decide)).trans h3))
          · exact (qa (by decide)).trans hs_same
          · exact (hr.set (by decide) _).set (by decide) _
          · rw[List.length_append,List.length_singleton];omega
          · intro q hq
            rcases List.mem_append.1 hq with hq|hq
            · exact h7 q hq
            · rw[List.mem_singleton] at hq;rw[hq];exact hpl1
          · show 6≤s2.nx;omega
      · rintro j s' o ⟨h1,h2,h3,h4⟩
        exact⟨h1,(qa (by decide)).trans h2,(qa (by decide)).trans h3,h4⟩
      · rintro s2 g2 ⟨way,V,h1,h2,h3,h4,h5,h6,h7,h8,h9⟩
        rw[zY] at h1
        rw[← h1] at hk
        simp only at hk
        have h6':way.length≤600:=by simpa using h6
        have ej:=fun {r a dst k kp}=>qgg (r:=r) (a:=a) (dst:=dst) (s:=s2) (k:=k) (kp:=kp) h5 h6' h7
        have el:=qmo h5
        have ei:=qa0 h5
        by_cases q1:way.length > 8
        · have r1:decide ((way.length:Int) > 8)=true:=by simp;omega
          rw[Nat.blt_eq.mpr q1] at hk
          repeat (first|with_reducible (refine q9 H ?_;constructor)|simp only[rB,rQ,q8,qf,q7,qc,reduceIte,Nat.reduceLT,Nat.reduceEqDiff,UInt8.reduceToNat,pe1,pf1,ZR,h4,ej,el,ei,zv,r1,JS,X5,h2,h3])
          rw[qT ((qa (by decide)).trans ((qa (by decide)).trans g2))]
          repeat (first|with_reducible (refine q9 H ?_;constructor)|simp only[rB,rQ,q8,qf,q7,qc,reduceIte,Nat.reduceLT,Nat.reduceEqDiff,UInt8.reduceToNat,qA,J7,Tryz.results128])
          exact hk _
        have r1:decide ((way.length:Int) > 8)=false:=by simp;omega
        have r1':Nat.blt 8 way.length=false:=by rw[← Bool.not_eq_true,Nat.blt_eq];exact q1
        rw[r1'] at hk
        simp only[cond_false] at hk
        by_cases q2:(qu [47] way).length > 140
        · have r2:decide (((qu [47] way).length:Int) > 140)=true:=by simp;omega
          rw[Nat.blt_eq.mpr q2] at hk
          repeat (first|with_reducible (refine q9 H ?_;constructor)|simp only[rB,rQ,q8,qf,q7,qc,reduceIte,Nat.reduceLT,Nat.reduceEqDiff,UInt8.reduceToNat,pe1,pf1,ZR,h4,ej,el,ei,zv,r1,r2,qx,JS,X5,h2,h3])
          rw[qT ((qa (by decide)).trans ((qa (by decide)).trans g2))]
          repeat (first|with_reducible (refine q9 H ?_;constructor)|simp only[rB,rQ,q8,qf,q7,qc,reduceIte,Nat.reduceLT,Nat.reduceEqDiff,UInt8.reduceToNat,qA,J7,Tryz.results128])
          exact hk _
        have r2:decide (((qu [47] way).length:Int) > 140)=false:=by simp;omega
        have r2':Nat.blt 140 (qu [47] way).length=false:=by rw[← Bool.not_eq_true,Nat.blt_eq];exact q2
        rw[r2'] at hk
        repeat (first|with_reducible (refine q9 H ?_;constructor)|simp only[rB,rQ,q8,qf,q7,qc,reduceIte,Nat.reduceLT,Nat.reduceEqDiff,UInt8.reduceToNat,pe1,pf1,ZR,h4,ej,el,ei,zv,r1,r2,qx,JS,X5,h2,h3])
        rw[qT ((qa (by decide)).trans ((qa (by decide)).trans g2))]
        repeat (first|with_reducible (refine q9 H ?_;constructor)|simp only[rB,rQ,q8,qf,q7,qc,reduceIte,Nat.reduceLT,Nat.reduceEqDiff,UInt8.reduceToNat,qA,J7,Tryz.results128])
        exact hk _
      · rintro j s2 g2 ⟨rfl,h2,h3,h4⟩
        rw[h4] at hk
        repeat (first|with_reducible (refine q9 H ?_;constructor)|simp only[rB,rQ,q8,qf,q7,qc,reduceIte,Nat.reduceLT,Nat.reduceEqDiff,UInt8.reduceToNat,qA,J7,h2,h3])
        rw[qT g2]
        repeat (first|with_reducible (refine q9 H ?_;constructor)|simp only[rB,rQ,q8,qf,q7,qc,reduceIte,Nat.reduceLT,Nat.reduceEqDiff,UInt8.reduceToNat,qA,J7,h2,h3,Tryz.results128])
        exact hk _
    · have hne:qw cwd≠[]:=by rw[Z0 hc0];exact qf6 cwd
      have em:∀ s,Xw 9 (qw cwd) s=(.slice s.nx 0 (qw cwd).length 0 (qw cwd).length false,s.alloc (.cells ((qw cwd).map .str) 9 2)):=fun s=>qm1 hne
      rw[hway] at em
      repeat (first|with_reducible (refine q9 H ?_;constructor)|simp only[rB,rQ,q8,qf,q7,qc,reduceIte,Nat.reduceLT,Nat.reduceEqDiff,UInt8.reduceToNat,Vf,Yz,qa3,pe1,pf1,ec,e0,e1,e2,qx,qiv,q0g,eb0,zv,qB,ep,em,qcy,hway]|(with_reducible refine ZY H0 ?_))
      have hr0:∀ s:St,3 < s.nx→s.h.get 3=some (.cells (way0.map .str) 9 2)→SlRep (FC 4) s (.slice 3 0 way0.length 0 way0.length false) way0:=fun s h1 h2 =>
        Or.inr ⟨3,way0.length,way0.map .str,rfl,by decide,h1,h2,by simp,Nat.le_refl _,by rw[List.take_of_length_le (by simp)]⟩
      refine Zn H0 (c:=4) (b:=b) (fun l s=>∃ way V,zY way l=zY way0 (qE b)∧s.h.get 0=some (.cells [.str []] 9 0)∧s.h.get 1=some (.cells [.raw (.int .i64 0)] 57 0)∧s.h.get 2=some (.cells [V] 36 0)∧SlRep (FC 4) s V way∧way.length+l.length≤600∧(∀ p∈way,p.length≤1000)∧7≤s.nx∧∀ q∈l,zs q=true∧q.length≤1000)
        (fun j s=>j=.ret∧s.h.get 0=some (.cells [.str []] 9 0)∧s.h.get 1=some (.cells [.raw (.int .i64 401)] 57 0)∧zY way0 (qE b)=none) 5 rfl (by simp only[rB,rQ,q8,qf,q7,qc,reduceIte,Nat.reduceLT,Nat.reduceEqDiff,UInt8.reduceToNat]) (by omega) (by exact qt) (by decide) ?_ ?_ ?_ (fun p=>⟨_,zS (by decide)⟩) ?_ ?_ ?_
      · rintro l s' i o hi ⟨way,V,h1,h2,h3,h4,h5,h6,h7,h8,h9⟩
        exact⟨way,V,h1,(qa (by omega)).trans h2,(qa (by omega)).trans h3,(qa (by omega)).trans h4,h5.set (by unfold FC;omega) o,h6,h7,h8,h9⟩
      · exact⟨way0,.slice 3 0 way0.length 0 way0.length false,rfl,by simp only[rB,rQ,q8,qf,q7,qc,reduceIte,Nat.reduceLT,Nat.reduceEqDiff,UInt8.reduceToNat],by simp only[rB,rQ,q8,qf,q7,qc,reduceIte,Nat.reduceLT,Nat.reduceEqDiff,UInt8.reduceToNat],by simp only[rB,rQ,q8,qf,q7,qc,reduceIte,Nat.reduceLT,Nat.reduceEqDiff,UInt8.reduceToNat],hr0 _ (by show 3 < 7;decide) (by simp only[rB,rQ,q8,qf,q7,qc,reduceIte,Nat.reduceLT,Nat.reduceEqDiff,UInt8.reduceToNat]),hlen0,hw1,Nat.le_refl _,fun q hq=>⟨Yb hba hq,Nat.le_trans (ZW hq) (by omega)⟩⟩
      · rintro p l s1 t' k' ⟨way,V,h1,h2,h3,h4,h5,h6,h7,h8,h9⟩ g2 g3 ht' k1 k2
        rw[zS (by decide)] at ht'
        cases ht'
        have h6':way.length+l.length+1≤600:=by simp only[List.length_cons] at h6;omega
        repeat (first|with_reducible (refine q9 H ?_;constructor)|simp only[rB,rQ,q8,qf,q7,qc,reduceIte,Nat.reduceLT,Nat.reduceEqDiff,UInt8.reduceToNat])
        rw[ZI g3]
        by_cases p0:p=[]
        · subst p0
          repeat (first|with_reducible (refine q9 H ?_;constructor)|simp only[rB,rQ,q8,qf,q7,qc,reduceIte,Nat.reduceLT,Nat.reduceEqDiff,UInt8.reduceToNat,pe1,pf1,qU])
          rw[ze hs_same]
          refine k1 _ ?_ ?_ hs_same ⟨way,V,?_,?_,?_,?_,?_,by omega,h7,h8,fun q hq=>h9 q (List.mem_cons_of_mem _ hq)⟩
          · exact (qa (by decide)).trans (qa (by decide))
          · exact (qa (by decide)).trans ((qa (by decide)).trans g2)
          · rw[← h1,zY,qU];rfl
          · exact (qa (by decide)).trans ((qa (by decide)).trans h2)
          · exact (qa (by decide)).trans ((qa (by decide)).trans h3)
          · exact (qa (by decide)).trans ((qa (by decide)).trans h4)
          · exact (h5.set (by decide) _).set (by decide) _
        have p0':=QQ p0
        by_cases p1:p=[46]
        · subst p1
          repeat (first|with_reducible (refine q9 H ?_;constructor)|simp only[rB,rQ,q8,qf,q7,qc,reduceIte,Nat.reduceLT,Nat.reduceEqDiff,UInt8.reduceToNat,pe1,pf1,p0',qU])
          rw[ze hs_same]
          refine k1 _ ?_ ?_ hs_same ⟨way,V,?_,?_,?_,?_,?_,by omega,h7,h8,fun q hq=>h9 q (List.mem_cons_of_mem _ hq)⟩
          · exact (qa (by decide)).trans (qa (by decide))
          · exact (qa (by decide)).trans ((qa (by decide)).trans g2)
          · rw[← h1,zY,p0',qU];rfl
          · exact (qa (by decide)).trans ((qa (by decide)).trans h2)
          · exact (qa (by decide)).trans ((qa (by decide)).trans h3)
          · exact (qa (by decide)).trans ((qa (by decide)).trans h4)
          · exact (h5.set (by decide) _).set (by decide) _
        have p1':=QQ p1
        by_cases p2:p=[46,46]
        · subst p2
          obtain⟨V',ev,hr⟩:=qhj (j:=way.length - 1) h5 (by omega)
          obtain⟨c1,c2⟩:=hr.cells1
          have el:∀ s2,Qv TE s2 [36] [V]=some (qf way.length):=fun s2=>by rcases h5 with⟨rfl,rfl⟩|⟨id,cap,cs,rfl,_⟩ <;> kernel_rfl
          have ei:=qa0 h5
          have ew:IntKind.i64.wrap ((way.length:Int) - 1)=(way.length:Int) - 1:=Go.IntWalk.i64_in _ (by omega)
          have em:(if (way.length:Int) - 1 > 0 then (way.length:Int) - 1 else 0)=((way.length - 1:Nat):Int):=by split <;> omega
          repeat (first|with_reducible (refine q9 H ?_;constructor)|simp only[rB,rQ,q8,qf,q7,qc,reduceIte,Nat.reduceLT,Nat.reduceEqDiff,UInt8.reduceToNat,pe1,pf1,p0',p1',qU,ZR,h4,el,ei,zj,ew,em,ev,qcy _ _ _ _ c1 c2])
          rw[ze ((qa (by decide)).trans hs_same)]
          refine k1 _ ?_ ?_ hs_same ⟨way.take (way.length - 1),V',?_,?_,?_,?_,?_,?_,?_,h8,fun q hq=>h9 q (List.mem_cons_of_mem _ hq)⟩
          · exact (qa (by decide)).trans ((qa (by decide)).trans (qa (by decide)))
          · exact (qa (by decide)).trans ((qa (by decide)).trans ((qa (by decide)).trans g2))
          · rw[← h1,zY,p0',p1',qU];rfl
          · exact (qa (by decide)).trans ((qa (by decide)).trans ((qa (by decide)).trans h2))
          · exact (qa (by decide)).trans ((qa (by decide)).trans ((qa (by decide)).trans h3))
          · exact (qa (by decide)).trans hs_same
          · exact ((hr.set (by decide) _).set (by decide) _).set (by decide) _
          · rw[List.length_take];omega
          · exact fun q hq=>h7 q (List.mem_of_mem_take hq)
        have p2':=QQ p2
        obtain⟨hpa,hpl1⟩:=h9 p (by simp)
        cases hbad:qi0 p with
        | true =>
          have ez:(Y1 p != 0)=true:=by unfold Y1;rw[p0',hbad];rfl
          repeat (first|with_reducible (refine q9 H ?_;constructor)|simp only[rB,rQ,q8,qf,q7,qc,reduceIte,Nat.reduceLT,Nat.reduceEqDiff,UInt8.reduceToNat,pe1,pf1,p0',p1',p2',qB,ez,JS,X5,h2,h3]|(with_reducible refine VX H0 hpa ?_))
          rw[XI ((qa (by decide)).trans ((qa (by decide)).trans hs_same))]
          refine k2 _ _ ?_ hs_same ⟨rfl,?_,?_,?_⟩
          · exact (qa (by decide)).trans ((qa (by decide)).trans ((qa (by decide)).trans ((qa (by decide)).trans g2)))
          · exact (qa (by decide)).trans ((qa (by decide)).trans hs_same)
          · exact (qa (by decide)).trans hs_same
          · rw[← h1,zY,p0',p1',p2',hbad];rfl
        | false =>
          have ez:(Y1 p != 0)=false:=by unfold Y1;rw[p0',hbad];rfl
          repeat (first|with_reducible (refine q9 H ?_;constructor)|simp only[rB,rQ,q8,qf,q7,qc,reduceIte,Nat.reduceLT,Nat.reduceEqDiff,UInt8.reduceToNat,pe1,pf1,p0',p1',p2',qB,ez,ZR,h4,qjh]|(with_reducible refine VX H0 hpa ?_))
          refine Kf (F:=FC 4) (p:=p) (names:=way) ((h5.set (by decide) _).alloc _) qt (by show FC 4 (s1.nx+1);unfold FC;omega) (by omega) ?_
          intro V' s2 hr hn hfr
          have hn':s1.nx+1≤s2.nx:=hn
          have hv:∀ i,i < 7→i≠3→¬ FC 4 i:=fun i hi h3'=>by unfold FC;omega
          have fr:∀ i,i < 7→i≠6→i≠3→s2.h.get i=s1.h.get i:=fun i hi h5' h3'=>(hfr i (hv i hi h3')).trans ((zm (by show i≠s1.nx;omega)).trans (qa h5'))
          have f2:=(fr 2 (by decide) (by decide) (by decide)).trans h4
          have f5:=(hfr 6 (hv 6 (by decide) (by decide))).trans ((zm (by show 6≠s1.nx;omega)).trans hs_same)
          obtain⟨c1,c2⟩:=hr.cells1
          repeat (first|with_reducible (refine q9 H ?_;constructor)|simp only[rB,rQ,q8,qf,q7,qc,reduceIte,Nat.reduceLT,Nat.reduceEqDiff,UInt8.reduceToNat,pe1,pf1,qcy _ _ _ _ c1 c2,f2])
          rw[ze ((qa (by decide)).trans f5)]
          refine k1 _ ?_ ?_ hs_same ⟨way++[p],V',?_,?_,?_,?_,?_,?_,?_,?_,fun q hq=>h9 q (List.mem_cons_of_mem _ hq)⟩
          · exact (qa (by decide)).trans ((qa (by decide)).trans (fr 4 (by decide) (by decide) (by decide)))
          · exact (qa (by decide)).trans ((qa (by decide)).trans ((fr 5 (by decide) (by decide) (by decide)).trans g2))
          · rw[← h1,zY,p0',p1',p2',hbad];rfl
          · exact (qa (by decide)).trans ((qa (by decide)).trans ((fr 0 (by decide) (by decide) (by decide)).trans h2))
          · exact (qa (by decide)).trans ((qa (by decide)).trans ((fr 1 (by decide) (by decide) (by decide)).trans h3))
          · exact (qa (by decide)).trans hs_same
          · exact (hr.set (by decide) _).set (by decide) _
          · rw[List.length_append,List.length_singleton];omega
          · intro q hq
            rcases List.mem_append.1 hq with hq|hq
            · exact h7 q hq
            · rw[List.mem_singleton] at hq;rw[hq];exact hpl1
          · show 7≤s2.nx;omega
      · rintro j s' o ⟨h1,h2,h3,h4⟩
        exact⟨h1,(qa (by decide)).trans h2,(qa (by decide)).trans h3,h4⟩
      · rintro s2 g2 ⟨way,V,h1,h2,h3,h4,h5,h6,h7,h8,h9⟩
        rw[zY] at h1
        rw[← h1] at hk
        simp only at hk
        have h6':way.length≤600:=by simpa using h6
        have ej:=fun {r a dst k kp}=>qgg (r:=r) (a:=a) (dst:=dst) (s:=s2) (k:=k) (kp:=kp) h5 h6' h7
        have el:=qmo h5
        have ei:=qa0 h5
        by_cases q1:way.length > 8
        · have r1:decide ((way.length:Int) > 8)=true:=by simp;omega
          rw[Nat.blt_eq.mpr q1] at hk
          repeat (first|with_reducible (refine q9 H ?_;constructor)|simp only[rB,rQ,q8,qf,q7,qc,reduceIte,Nat.reduceLT,Nat.reduceEqDiff,UInt8.reduceToNat,pe1,pf1,ZR,h4,ej,el,ei,zv,r1,JS,X5,h2,h3])
          rw[qT ((qa (by decide)).trans ((qa (by decide)).trans g2))]
          repeat (first|with_reducible (refine q9 H ?_;constructor)|simp only[rB,rQ,q8,qf,q7,qc,reduceIte,Nat.reduceLT,Nat.reduceEqDiff,UInt8.reduceToNat,qA,J7,Tryz.results128])
          exact hk _
        have r1:decide ((way.length:Int) > 8)=false:=by simp;omega
        have r1':Nat.blt 8 way.length=false:=by rw[← Bool.not_eq_true,Nat.blt_eq];exact q1
        rw[r1'] at hk
        simp only[cond_false] at hk
        by_cases q2:(qu [47] way).length > 140
        · have r2:decide (((qu [47] way).length:Int) > 140)=true:=by simp;omega
          rw[Nat.blt_eq.mpr q2] at hk
          repeat (first|with_reducible (refine q9 H ?_;constructor)|simp only[rB,rQ,q8,qf,q7,qc,reduceIte,Nat.reduceLT,Nat.reduceEqDiff,UInt8.reduceToNat,pe1,pf1,ZR,h4,ej,el,ei,zv,r1,r2,qx,JS,X5,h2,h3])
          rw[qT ((qa (by decide)).trans ((qa (by decide)).trans g2))]
          repeat (first|with_reducible (refine q9 H ?_;constructor)|simp only[rB,rQ,q8,qf,q7,qc,reduceIte,Nat.reduceLT,Nat.reduceEqDiff,UInt8.reduceToNat,qA,J7,Tryz.results128])
          exact hk _
        have r2:decide (((qu [47] way).length:Int) > 140)=false:=by simp;omega
        have r2':Nat.blt 140 (qu [47] way).length=false:=by rw[← Bool.not_eq_true,Nat.blt_eq];exact q2
        rw[r2'] at hk
        repeat (first|with_reducible (refine q9 H ?_;constructor)|simp only[rB,rQ,q8,qf,q7,qc,reduceIte,Nat.reduceLT,Nat.reduceEqDiff,UInt8.reduceToNat,pe1,pf1,ZR,h4,ej,el,ei,zv,r1,r2,qx,JS,X5,h2,h3])
        rw[qT ((qa (by decide)).trans ((qa (by decide)).trans g2))]
        repeat (first|with_reducible (refine q9 H ?_;constructor)|simp only[rB,rQ,q8,qf,q7,qc,reduceIte,Nat.reduceLT,Nat.reduceEqDiff,UInt8.reduceToNat,qA,J7,Tryz.results128])
        exact hk _
      · rintro j s2 g2 ⟨rfl,h2,h3,h4⟩
        rw[h4] at hk
        repeat (first|with_reducible (refine q9 H ?_;constructor)|simp only[rB,rQ,q8,qf,q7,qc,reduceIte,Nat.reduceLT,Nat.reduceEqDiff,UInt8.reduceToNat,qA,J7,h2,h3])
        rw[qT g2]
        repeat (first|with_reducible (refine q9 H ?_;constructor)|simp only[rB,rQ,q8,qf,q7,qc,reduceIte,Nat.reduceLT,Nat.reduceEqDiff,UInt8.reduceToNat,qA,J7,h2,h3,Tryz.results128])
        exact hk _
-- light
def qc3 (args:List AV) (s:St):Option (AV × St):=match args with
  | [.str cwd,.str b]=>bif Nat.ble cwd.length 1000&&(zs cwd&&zs b) then some (Kr (Qr cwd b),s) else none
  | _=>none
def zd (a b:List Nat):List Nat:=bif eqB a [] then b else bif eqB b [] then a else a++(47::b)
def qhy (args:List AV) (s:St):Option (AV × St):=match args with
  | [.str a,.str b]=>bif Nat.ble (a.length+b.length) 1000000 then some (.str (zd a b),s) else none
  | _=>none
def pr2:Prims:=(pr1.add 128 qc3).add 103 qhy
theorem qzw {s:St} (H:Ok TE Tryz.prog pr1) {a b:List Nat} (hl:a.length+b.length≤1000000) {kr kp:AV→St→Bool} (hk:kr (.str (zd a b)) s=true) :
    (sem Tryz.prog).call 103 [.str a,.str b] s kr kp=true:=by
  refine qk H 18 q3c rfl rfl ?_
  have h0:=fun {x y:List Nat} (h:x.length+y.length≤1048576)=>Ka h
  unfold zd at hk
  by_cases ha:a=[]
  · subst ha
    have hl1:([]:List Nat).length+b.length≤1048576:=by omega
    repeat (first|with_reducible (refine q9 H ?_;constructor)|simp only[rB,rQ,q8,reduceIte,Nat.reduceLT,Nat.reduceEqDiff,UInt8.reduceToNat,qU,Ka hl1,Tryz.results103])
    exact hk
  have ea:=QQ ha
  rw[ea] at hk
  by_cases hb:b=[]
  · subst hb
    have hl1:a.length+([]:List Nat).length≤1048576:=by omega
    repeat (first|with_reducible (refine q9 H ?_;constructor)|simp only[rB,rQ,q8,reduceIte,Nat.reduceLT,Nat.reduceEqDiff,UInt8.reduceToNat,qU,ea,Ka hl1,Tryz.results103])
    exact hk
  have eb:=QQ hb
  rw[eb] at hk
  have hl1:a.length+([47]:List Nat).length≤1048576:=by simp;omega
  have hl2:(a++[47]).length+b.length≤1048576:=by simp;omega
  repeat (first|with_reducible (refine q9 H ?_;constructor)|simp only[rB,rQ,q8,reduceIte,Nat.reduceLT,Nat.reduceEqDiff,UInt8.reduceToNat,ea,eb,Ka hl1,Ka hl2,Tryz.results103])
  rw[List.append_assoc]
  exact hk
theorem qkh (H0:Ok TE Tryz.prog (zk pn)) {args:List AV} {s s':St} {v:AV} {w0 w:World} {E:Em} {Args:List Value} (h:qc3 args s=some (v,s')) (hv:VRels E args Args) (hs:Sim w0 E s w) :
    QN Tryz.prog 128∧CallsIn (FW none) 0 Tryz.prog 128 Args.toArray w fun en w'=>∃ V E',en=.returned V∧E.le E'∧VRel E' v V∧Sim w0 E' s' w':=by
  unfold qc3 at h
  split at h
  · rename_i cwd b
    cases hb:(Nat.ble cwd.length 1000&&(zs cwd&&zs b)) with
    | false=>rw[hb] at h;cases h
    | true =>
      rw[hb] at h
      simp only[cond_true,Option.some.injEq,Prod.mk.injEq] at h
      obtain⟨rfl,rfl⟩:=h
      simp only[Bool.and_eq_true] at hb
      exact Ju rfl rfl (fun kr kp hk=>qxk H0 (ok1 H0) (Nat.le_of_ble_eq_true hb.1) hb.2.1 hb.2.2 hk) hv hs
  · cases h
theorem qnk (H0:Ok TE Tryz.prog (zk pn)) {args:List AV} {s s':St} {v:AV} {w0 w:World} {E:Em} {Args:List Value} (h:qhy args s=some (v,s')) (hv:VRels E args Args) (hs:Sim w0 E s w) :
    QN Tryz.prog 103∧CallsIn (FW none) 0 Tryz.prog 103 Args.toArray w fun en w'=>∃ V E',en=.returned V∧E.le E'∧VRel E' v V∧Sim w0 E' s' w':=by
  unfold qhy at h
  split at h
  · rename_i a b
    cases hb:Nat.ble (a.length+b.length) 1000000 with
    | false=>rw[hb] at h;cases h
    | true =>
      rw[hb] at h
      simp only[cond_true,Option.some.injEq,Prod.mk.injEq] at h
      obtain⟨rfl,rfl⟩:=h
      exact Ju rfl rfl (fun kr kp hk=>qzw (ok1 H0) (Nat.le_of_ble_eq_true hb) (hk _)) hv hs
  · cases h
theorem ok2 (H0:Ok TE Tryz.prog (zk pn)):Ok TE Tryz.prog pr2:=⟨H0.prog,Jq (Jq (ok1 H0).prims (fun h hv hs=>qkh H0 h hv hs)) (fun h hv hs=>qnk H0 h hv hs)⟩
theorem ok0:Ok TE Tryz.prog (zk pn):=⟨Tryz.progOk,qq0 Tryz.libOk⟩
end Go.AX
